/- cash.Totals -/
import Derived.Test.YtckeaibamgkegaaDoorFlow
import Derived.Test.YtckeaibamgkegaaDoorEntB
import Derived.Test.YtckeaibamgkegaaDoorCashA
set_option linter.all false
namespace Go.Proofs.YtckeaibamgkegaaDoor
open Go.RowKit
set_option maxRecDepth 100000

def partL (c : Nat) (l : List Fl) : List Int := (l.filter (fun x => x.cur == (c : Int))).map (·.amt)
def totI (c : Nat) (l : List Fl) : Int := sumI (partL c l)
def curOk (x : Fl) : Prop := 0 ≤ x.cur ∧ x.cur < 8
theorem partL_take {l : List Fl} {j c : Nat} (h : j < l.length) (hc : l[j].cur = (c : Int)) (d : Nat) : partL d (l.take (j + 1)) = partL d (l.take j) ++ (if d = c then [l[j].amt] else []) := by
  unfold partL
  rw [List.take_add_one, List.getElem?_eq_getElem h, Option.toList_some, List.filter_append, List.map_append]
  congr 1
  by_cases hd : d = c
  · rw [if_pos hd, List.filter_cons_of_pos (by simp [hc, hd])]; rfl
  · rw [if_neg hd, List.filter_cons_of_neg (by simp [hc]; omega)]; rfl
theorem partL_len (c : Nat) (l : List Fl) : (partL c l).length ≤ l.length := by
  unfold partL; rw [List.length_map]; exact List.length_filter_le _ _
theorem partL_ok {c : Nat} {l : List Fl} (h : ∀ x ∈ l, x.ok) : ∀ y ∈ partL c l, I64 y := by
  intro y hy
  unfold partL at hy
  obtain ⟨x, hx, rfl⟩ := List.mem_map.1 hy
  exact (h x (List.mem_filter.1 hx).1).2.2
def zero8 : Array Value := #[.int .i64 0, .int .i64 0, .int .i64 0, .int .i64 0, .int .i64 0, .int .i64 0, .int .i64 0, .int .i64 0]
def nils8 : Array Value := #[.slice none 0 0, .slice none 0 0, .slice none 0 0, .slice none 0 0, .slice none 0 0, .slice none 0 0, .slice none 0 0, .slice none 0 0]
def tots8 (f : Nat → Int) : Array Value := #[.int .i64 (f 0), .int .i64 (f 1), .int .i64 (f 2), .int .i64 (f 3), .int .i64 (f 4), .int .i64 (f 5), .int .i64 (f 6), .int .i64 (f 7)]
/-- What cash.Totals answers. -/
def TotR (l : List Fl) (e : Ending) : Prop :=
  (e = .returned (.tuple #[.agg zero8, .int .i64 10]) ∧ ∃ x ∈ l, ¬ curOk x) ∨
  (e = .returned (.tuple #[.agg zero8, .int .i64 11]) ∧ (∀ x ∈ l, curOk x) ∧ ∃ c, c < 8 ∧ ¬ I64 (totI c l)) ∨
  (e = .returned (.tuple #[.agg (tots8 (fun c => totI c l)), .int .i64 0]) ∧ (∀ x ∈ l, curOk x) ∧ ∀ c, c < 8 → I64 (totI c l))

theorem zero8_get {i : Nat} (h : i < 8) : zero8[i]? = some (.int .i64 0) := by rcases lt8 h with rfl | rfl | rfl | rfl | rfl | rfl | rfl | rfl <;> rfl
/-- Eight noughts over eight noughts. -/
theorem zero8_over {w : World} {b : Nat} (h : ∀ i, w.cell? ⟨b, i, none⟩ = zero8[i]?) : ∀ i, ((((((((w.setCell ⟨b, 0, none⟩ (.int .i64 0)).setCell ⟨b, 1, none⟩ (.int .i64 0)).setCell ⟨b, 2, none⟩ (.int .i64 0)).setCell ⟨b, 3, none⟩ (.int .i64 0)).setCell ⟨b, 4, none⟩ (.int .i64 0)).setCell ⟨b, 5, none⟩ (.int .i64 0)).setCell ⟨b, 6, none⟩ (.int .i64 0)).setCell ⟨b, 7, none⟩ (.int .i64 0)).cell? ⟨b, i, none⟩ = zero8[i]? :=
  set_own (A := zero8) (k := 7) (set_own (A := zero8) (k := 6) (set_own (A := zero8) (k := 5) (set_own (A := zero8) (k := 4) (set_own (A := zero8) (k := 3) (set_own (A := zero8) (k := 2) (set_own (A := zero8) (k := 1) (set_own (A := zero8) (k := 0) h _ (by decide)) _ (by decide)) _ (by decide)) _ (by decide)) _ (by decide)) _ (by decide)) _ (by decide)) _ (by decide)
theorem tots8_over {w : World} {b : Nat} (f : Nat → Int) (h : ∀ i, w.cell? ⟨b, i, none⟩ = zero8[i]?) : ∀ i, ((((((((w.setCell ⟨b, 0, none⟩ (.int .i64 (f 0))).setCell ⟨b, 1, none⟩ (.int .i64 (f 1))).setCell ⟨b, 2, none⟩ (.int .i64 (f 2))).setCell ⟨b, 3, none⟩ (.int .i64 (f 3))).setCell ⟨b, 4, none⟩ (.int .i64 (f 4))).setCell ⟨b, 5, none⟩ (.int .i64 (f 5))).setCell ⟨b, 6, none⟩ (.int .i64 (f 6))).setCell ⟨b, 7, none⟩ (.int .i64 (f 7))).cell? ⟨b, i, none⟩ = (tots8 f)[i]? := by
  intro i
  rw [set_own (k := 7) (set_own (k := 6) (set_own (k := 5) (set_own (k := 4) (set_own (k := 3) (set_own (k := 2) (set_own (k := 1) (set_own (A := zero8) (k := 0) h _ (by decide)) _ (by simp [zero8])) _ (by simp [zero8])) _ (by simp [zero8])) _ (by simp [zero8])) _ (by simp [zero8])) _ (by simp [zero8])) _ (by simp [zero8]) i]
  simp [zero8, tots8]
theorem tots8_set (f : Nat → Int) (m : Nat) (hm : m < 8) : (tots8 (fun c => if c < m then f c else 0)).setIfInBounds m (.int .i64 (f m)) = tots8 (fun c => if c < m + 1 then f c else 0) := by
  rcases lt8 hm with rfl | rfl | rfl | rfl | rfl | rfl | rfl | rfl <;> rfl
theorem tots8_zero (f : Nat → Int) : tots8 (fun c => if c < 0 then f c else 0) = zero8 := rfl
theorem tots8_all (f : Nat → Int) : tots8 (fun c => if c < 8 then f c else 0) = tots8 f := rfl
/-- Eight rows of ints of a call's own, side by side. -/
structure Eight (base : Nat) (w : World) (A : Array Value) (L : Nat → List Int) : Prop where
  size : A.size = 8
  row : ∀ c, c < 8 → ∃ v, A[c]? = some v ∧ w.ownsRow base 3 1 v (L c).length ((L c).map (Value.int .i64))
  apart : ∀ c d u v, c < 8 → d < 8 → c ≠ d → A[c]? = some u → A[d]? = some v → B.Apart u v
theorem Eight.nils (base : Nat) (w : World) : Eight base w nils8 (fun _ => []) where
  size := rfl
  row := fun c hc => ⟨.slice none 0 0, by rcases lt8 hc with rfl | rfl | rfl | rfl | rfl | rfl | rfl | rfl <;> rfl, World.ownsRow_nil _ _ _ _⟩
  apart := fun c d u v hc hd _ hu hv => by
    have : v = .slice none 0 0 := by
      rcases lt8 hd with rfl | rfl | rfl | rfl | rfl | rfl | rfl | rfl <;> exact (Option.some.inj hv).symm
    subst this
    exact B.Apart.none u
theorem Eight.later {base : Nat} {w w' : World} {A : Array Value} {L : Nat → List Int} (h : Eight base w A L) (hb : Later w w') : Eight base w' A L :=
  ⟨h.size, fun c hc => by obtain ⟨v, h1, h2⟩ := h.row c hc; exact ⟨v, h1, B.owns_later h2 hb⟩, h.apart⟩
/-- One of the rows has grown. -/
theorem Eight.put {base : Nat} {w w' : World} {A : Array Value} {L : Nat → List Int} (h : Eight base w A L) {c b : Nat} {u u' : Value} {x : Int} (hc : c < 8) (hu : A[c]? = some u) (hb : b < base) (hbase : base ≤ w.heap.size)
    (h1 : w'.ownsRow base 3 1 u' ((L c).length + 1) ((L c).map (Value.int .i64) ++ [.int .i64 x])) (hg : w.grownBy w' u.ownBlock) (hf : u'.ownBlock = u.ownBlock ∨ ∀ k, u'.ownBlock = some k → w.heap.size ≤ k) :
    Eight base (w'.setCell ⟨b, c, none⟩ u') (A.setIfInBounds c u') (fun d => L d ++ (if d = c then [x] else [])) := by
  have hne : ∀ (v : Value) n xs, w'.ownsRow base 3 1 v n xs → v.ownBlock ≠ some b := fun v n xs hv e => by
    have := (B.owns_base hv b e).1; omega
  have hgap : ∀ d v, d < 8 → d ≠ c → A[d]? = some v → B.Apart u v := fun d v hd hdc hv => h.apart c d u v hc hd (Ne.symm hdc) hu hv
  refine ⟨by rw [Array.size_setIfInBounds]; exact h.size, fun d hd => ?_, fun d d' v v' hd hd' hdd hv hv' => ?_⟩
  · by_cases hdc : d = c
    · subst hdc
      refine ⟨u', by rw [Array.getElem?_setIfInBounds_self_of_lt (by rw [h.size]; exact hd)], ?_⟩
      simp only [if_true]
      rw [List.length_append, List.map_append]
      exact B.owns_set h1 (hne _ _ _ h1) _
    · obtain ⟨v, h2, h3⟩ := h.row d hd
      refine ⟨v, by rw [Array.getElem?_setIfInBounds_ne (Ne.symm hdc)]; exact h2, ?_⟩
      simp only [hdc, if_false, List.append_nil]
      have h4 := B.owns_beside h3 hg (hgap d v hd hdc h2)
      exact B.owns_set h4 (hne _ _ _ h4) _
  · have fresh : ∀ d v, d < 8 → d ≠ c → A[d]? = some v → B.Apart u' v := fun d v hd hdc hv => by
      obtain ⟨v2, h2, h3⟩ := h.row d hd
      rw [hv] at h2
      cases h2
      exact (hgap d v hd hdc hv).grow h3 hf
    have getc : ∀ v, (A.setIfInBounds c u')[c]? = some v → v = u' := fun v hv => by
      rw [Array.getElem?_setIfInBounds_self_of_lt (by rw [h.size]; exact hc)] at hv
      exact (Option.some.inj hv).symm
    by_cases hdc : d = c
    · subst hdc
      rw [getc v hv]
      rw [Array.getElem?_setIfInBounds_ne hdd] at hv'
      exact fresh d' v' hd' (Ne.symm hdd) hv'
    · rw [Array.getElem?_setIfInBounds_ne (Ne.symm hdc)] at hv
      by_cases hdc' : d' = c
      · subst hdc'
        rw [getc v' hv']
        exact (fresh d v hd hdc hv).symm
      · rw [Array.getElem?_setIfInBounds_ne (Ne.symm hdc')] at hv'
        exact h.apart d d' v v' hd hd' hdd hv hv'

theorem cell_one {w : World} {ta : TypeId} (x : Value) : ∀ j u, [x][j]? = some u → (w.alloc (.cells #[x] ta)).drew.cell? ((⟨w.heap.size, 0, none⟩ : Addr).add j) = some u := by
  intro j u hj
  have hc := (own_get (own_alloc w #[x] ta)).2.1 j
  rw [add_plain, Nat.zero_add]
  rw [← Array.getElem?_toList] at hc
  exact hc.trans hj

set_option maxHeartbeats 3200000 in
theorem totals_any (l : List Fl) (hok : ∀ x ∈ l, x.ok) (hlen : l.length ≤ 1000) (v : Value) (w : World) (hN : IsFlows w v l) :
    Calls Tryd.prog 25 #[v] w fun e w' => TotR l e ∧ Later w w' := by
  obtain ⟨p, cp, rfl⟩ := hN.form
  have HN := Lib.hid hN
  have HOK := Lib.hid hok
  clear hN hok
  obtain ⟨L, hL⟩ : ∃ L, l.length = L := ⟨_, rfl⟩
  rw [hL] at HN hlen ⊢
  have HL := Lib.hid hL
  clear hL
  go_enter Tryd.func25, Tryd.ntmps25
  go_upto_region 2 with (fail)
  refine wp_opaque (fun W8 hb8 => ?_)
  have hO8 := Own.two hb8
  have hw8 := hb8.un1.un1
  have hz8 : w.heap.size + 1 < W8.heap.size := hO8.2.1.1
  clear hb8
  go_wp2
  go_loopw [14] (fun s14 wr => ∃ (j : Nat) (A : Array Value), j ≤ L ∧ s14 = .int .i64 j ∧ Hid (∀ x ∈ l.take j, curOk x) ∧ Hid (Eight W8.heap.size wr A (fun c => partL c (l.take j))) ∧ Own wr [(w.heap.size, zero8), (w.heap.size + 1, A)] ∧ W8.heap.size ≤ wr.heap.size ∧ Later w wr) (fun s14 _ => L - (intOf s14).toNat)
  case atStart => exact ⟨0, nils8, Nat.zero_le _, rfl, Lib.hid (fun x hx => by simp at hx), Lib.hid (Eight.nils _ _), hO8, Nat.le_refl _, hw8⟩
  case round =>
    obtain ⟨j, A, hj, rfl, HG, HE, hO, hzr, hlat⟩ := hrel
    clear hO8 hw8
    have HO := Lib.hid hO
    obtain ⟨⟨z2, c2, f2⟩, ⟨z4, c4, f4⟩, -⟩ := hO
    by_cases hlt : j < L
    · have hltI : (j : Int) < L := by omega
      have hjl : j < l.length := by rw [HL.out]; exact hlt
      obtain ⟨b, o, cp', hv, hb, g⟩ := HN.out.full (i := j) hjl
      rw [HL.out] at hv
      cases hv
      replace g := fun k (hk : k < 3) => ((bcell hlat).1 _ _ hb).trans (g k hk)
      have g0 := g 0 (by omega)
      have g1 := g 1 (by omega)
      have g2 := g 2 (by omega)
      simp only [flF, Nat.add_zero] at g0 g1 g2
      by_cases hok : curOk l[j]
      · obtain ⟨c, hc⟩ := Int.eq_ofNat_of_zero_le hok.1
        have hc8 : c < 8 := by have := hok.2; omega
        have HT := Lib.hid (fun d => partL_take hjl hc d)
        have HG2 : Hid (∀ x ∈ l.take (j + 1), curOk x) := Lib.hid (fun x hx => by
          rw [List.take_add_one, List.getElem?_eq_getElem hjl, Option.toList_some, List.mem_append, List.mem_singleton] at hx
          rcases hx with hx | rfl
          · exact HG.out x hx
          · exact hok)
        obtain ⟨u, hu, hrow⟩ := HE.out.row c hc8
        have HU := Lib.hid hu
        have hcu : wr.cell? ⟨w.heap.size + 1, c, none⟩ = some u := (c4 c).trans hu
        have HR := Lib.hid hrow
        have HI := Lib.hid (fun W => is_yes c hc8 W)
        rw [hc] at g1
        generalize l[j].amt = M at *
        generalize l[j].day = D at *
        clear g hok hc HG hrow hu HN HOK
        go_upto_region 7 with (go_at_call 37; go_must (refine (HI.out _).mono ?_; rintro e w1 ⟨rfl, rfl⟩))
        refine wp_opaque (fun W7 hb7 => ?_)
        have hO6 := Own.one hb7
        have hw7 := hb7.un1
        clear hb7
        obtain ⟨⟨z6, c6, f6⟩, -⟩ := id hO6
        replace hcu := ((bcell hw7).1 _ c z4).trans hcu
        have hz47 : w.heap.size + 1 < W7.heap.size := by omega
        have HE7 := Lib.hid (HE.out.later hw7)
        have HR7 := Lib.hid (B.owns_later HR.out hw7)
        have HO7 := Lib.hid (HO.out.later hw7)
        have f47 : W7.frozen? ⟨w.heap.size + 1, c, none⟩ = false := ((bcell hw7).2 _ c z4).trans (f4 c (by have := HE.out.size; omega))
        have hub := B.owns_base HR7.out
        have hn4 : ¬ u.ownBlock = some (w.heap.size + 1) := fun e => by have := hub _ e; omega
        have hn2 : ¬ u.ownBlock = some w.heap.size := fun e => by have := hub _ e; omega
        have hn6 : ¬ u.ownBlock = some wr.heap.size := fun e => by
          have h9 := B.owns_base HR.out _ e; omega
        have hl7 := hlat.trans hw7
        obtain ⟨n, hn⟩ : ∃ n, (partL c (l.take j)).length = n := ⟨_, rfl⟩
        have hnb : n ≤ 1000 := by
          rw [← hn]; have := partL_len c (l.take j); rw [List.length_take] at this; omega
        obtain ⟨p9, cp9, rfl⟩ := B.owns_form HR7.out
        rw [hn] at HR7 HU hcu hn2 hn4 hn6
        clear z2 c2 f2 z4 c4 f4 g0 g1 g2 hub HR HE HO
        have HF : Hid (∀ z ∈ [(w.heap.size, zero8), (w.heap.size + 1, A)], (Value.slice p9 n cp9).ownBlock ≠ some z.1) := Lib.hid (fun z hz => by
          simp only [List.mem_cons, List.not_mem_nil, or_false] at hz
          rcases hz with rfl | rfl
          · exact hn2
          · exact hn4)
        have hcA : c < A.size := by rw [HE7.out.size]; exact hc8
        refine S.wp_region_plan (S := (fun k => (Value.slice p9 n cp9).ownBlock = some k)) 11 (.one [0, 1, 2, 3, 4, 5, 6, 7] 8 (.one [] 9 (.one [10] 11 (.done [])))) (by kernel_rfl) (by kernel_rfl) (fun _ _ d _ _ h => by cases d <;> exact h) ?_
        repeat' (first
          | (refine S.plan_done (fun K hK => ?_); (first | (simp only [pick_cons, pick_nil, toList_some_append, List.getElem?_toArray, List.getElem?_cons_zero, List.getElem?_cons_succ]; repeat (go_big_quiet_step (fail))) | simp only [pick_nil]); refine wpQuiet_nil (hK _ ?_); clear hK K)
          | (refine S.plan_one (by rfl) (fun K hK => ?_); (first | (simp only [pick_cons, pick_nil, toList_some_append, List.getElem?_toArray, List.getElem?_cons_zero, List.getElem?_cons_succ]; repeat (go_big_quiet_step (fail))) | simp only [pick_nil]); refine wpQuiet_nil (hK _ ?_); clear hK K)
          | ((with_reducible refine at_list ?_); (try simp only [List.getElem_toArray, List.getElem_cons_succ, List.getElem_cons_zero]); go_wp2_with ((at_builtin; go_must (refine B.wpList_app (base := W8.heap.size) sliceInt' (B.owns_later HR7.out (((Later.refl _).alloc _).drew)) (by simp [go_sem]; omega) rfl _ _ rfl rfl ⟨W7.heap.size, 0, none⟩ 1 1 [.int .i64 M] rfl rfl (cell_one _) (by simp [Value.oneCell']) (by omega) (by unfold maxLen; omega) ?_; intro v9 w9 h1 h2 h3; obtain ⟨p8, c8, rfl⟩ := B.owns_form h1; have hS9 := S.LatB.grown (S := fun k => (Value.slice p9 n cp9).ownBlock = some k) (S.LatB.refl _) h2 (fun k hk => hk); have hO9 := B.own_grown (HO7.out.later (((Later.refl _).alloc _).drew)) h2 (HF.out); have hc9 := (hO9.2.1.2.1 c).trans HU.out; have hf9 := hO9.2.1.2.2 c hcA; have HO9 := Lib.hid hO9; clear hO9))); first | refine S.behind_store (t := 11) (by decide) ?_ | refine S.behind (by repeat (first | with_reducible exact S.LatB.refl _ | with_reducible assumption | with_reducible refine S.LatB.ofdrew ?_ | with_reducible refine S.LatB.drew ?_ | with_reducible refine S.LatB.alloc ?_ _ | (with_reducible refine S.LatB.of ?_))) ?_))
        go_wp2
        go_roundw
        case rel =>
          subst hn
          have hlr : Later w w9 := by
            refine B.grown_lat (hl7.alloc _).drew h2 (fun k hk => ?_)
            have := B.owns_base HR7.out k hk
            omega
          refine ⟨j + 1, A.setIfInBounds c (.slice p8 ((partL c (l.take j)).length + 1) c8), by omega, by go_num, HG2, Lib.hid ?_, ?_, ?_, hlr.setCell (p := ⟨w.heap.size + 1, c, none⟩) (by simp) _⟩
          · have h9 := (HE7.out.later (((Later.refl _).alloc (.cells #[.int .i64 M] 3)).drew)).put (b := w.heap.size + 1) hc8 HU.out hz8 (by simp [go_sem]; omega) h1 h2 h3
            rw [show (fun d => partL d (l.take (j + 1))) = (fun d => partL d (l.take j) ++ (if d = c then [M] else [])) from funext HT.out]
            exact h9
          · exact ⟨(B.own_far (l := [(w.heap.size, zero8)]) ⟨HO9.out.1, trivial⟩ (by simp) _).1, B.own_at HO9.out.2 hcA _⟩
          · have := h2.size
            simp [World.setCell, go_sem] at this ⊢
            omega
        case measure => simp [intOf]; omega
      · have HB : Hid (∃ x ∈ l, ¬ curOk x) := Lib.hid ⟨l[j], List.getElem_mem hjl, hok⟩
        have HI := Lib.hid (fun W => is_no l[j].cur hok W)
        generalize l[j].cur = C at *
        generalize l[j].amt = M at *
        generalize l[j].day = D at *
        have HOZ : Hid (Own wr [(w.heap.size, zero8)]) := Lib.hid ⟨HO.out.1, trivial⟩
        have hc2 : ∀ i, wr.cell? ⟨w.heap.size, i, none⟩ = (#[.int .i64 0, .int .i64 0, .int .i64 0, .int .i64 0, .int .i64 0, .int .i64 0, .int .i64 0, .int .i64 0] : Array Value)[i]? := c2
        have hf2 : ∀ i, i < 8 → wr.frozen? ⟨w.heap.size, i, none⟩ = false := f2
        clear g hok HG HN HOK HE HO c4 f4 c2 f2 hc2 hf2
        go_upto_region 6 with (go_at_call 37; go_must (refine (HI.out _).mono ?_; rintro e w1 ⟨rfl, rfl⟩))
        refine wp_opaque (fun W6 hb6 => ?_)
        have hw6 := hb6.un1
        clear hb6
        have hO6 := HOZ.out.later hw6
        have hl6 := hlat.trans hw6
        have f2 : ∀ i, i < 8 → W6.frozen? ⟨w.heap.size, i, none⟩ = false := hO6.1.2.2
        have c2 : ∀ i, i < 8 → W6.cell? ⟨w.heap.size, i, none⟩ = some (.int .i64 0) := fun i hi => (hO6.1.2.1 i).trans (zero8_get hi)
        have HC := Lib.hid (zero8_over hO6.1.2.1)
        go_wp2
        have hc := HC.out
        exact bodyPost_ret (v := .tuple #[.agg zero8, .int .i64 10]) (by simp [results, Tryd.results25, go_sem, hc, zero8]) rfl ⟨.inl ⟨rfl, HB.out⟩, by repeat (first | with_reducible exact Later.refl _ | with_reducible assumption | with_reducible refine Later.ofdrew ?_ | with_reducible refine Later.ofdrewN ?_ | with_reducible refine Later.setCell ?_ ?_ _ | with_reducible refine Later.alloc ?_ _ | with_reducible refine Later.drewN ?_ _ | with_reducible refine Later.drew ?_ | (with_reducible refine Later.trans ?_ (by assumption)) | (simp only [World.size_setCell, World.size_alloc, World.heap_drewN]; omega) | (simp; done) | (simp; omega))⟩
    · obtain ⟨WA, hWA⟩ : ∃ WA : World, WA = wr := ⟨_, rfl⟩
      subst hWA
      have hge : ¬ ((j : Int) < L) := by omega
      have hjL : j = l.length := by rw [HL.out]; omega
      have hall : l.take j = l := by rw [hjL, List.take_length]
      have HG' := HG.out
      have HE' := HE.out
      rw [hall] at HG' HE'
      have HGA := Lib.hid HG'
      have HEA := Lib.hid HE'
      have hO4 := HO.out.2
      have hOZ : Hid (Own WA [(w.heap.size, zero8)]) := Lib.hid ⟨HO.out.1, trivial⟩
      have hSUM := Lib.hid (fun (c : Nat) (hc : c < 8) (W : World) (hl : Later WA W) => by
        obtain ⟨v, h1, h2⟩ := HE'.row c hc
        exact (show ∃ v, A[c]? = some v ∧ Calls Tryd.prog 46 #[v] W fun e w' => e = .returned (.tuple #[.int .i64 (fitN (totI c l)), .int .i64 (fitE (totI c l))]) ∧ Later W w' from
          ⟨v, h1, sum_any (partL c l) (partL_ok HOK.out) (by have := partL_len c l; have := HL.out; omega) v W ((B.owns_ints h2).1.later hl)⟩))
      clear HG HE HG' HE' hall hjL HN HOK c4 f4
      go_upto_region 10 with (fail)
      refine wp_opaque (fun W10 hb10 => ?_)
      have hO10 := Own.one hb10
      have hw10 := hb10.un1
      clear hb10
      obtain ⟨t', fr, hrow⟩ := row_of_own1 (hO4.later hw10) (by rw [HEA.out.size]; decide)
      have hsz := HEA.out.size
      have hz10 : WA.heap.size < W10.heap.size := hO10.1.1
      go_wp2_with (refine wpList_load_row rfl 87 _ rfl (w.heap.size + 1) rfl t' _ fr _ hrow Tryd.underlying87 rfl (by rw [hsz]; kernel_rfl) ?_)
      clear hrow
      go_loopw [36] (fun s36 wr => ∃ m : Nat, m ≤ 8 ∧ s36 = .int .i64 m ∧ Hid (∀ c, c < m → I64 (totI c l)) ∧ Own wr [(WA.heap.size, tots8 (fun c => if c < m then totI c l else 0))] ∧ Later WA wr) (fun s36 _ => 8 - (intOf s36).toNat)
      case atStart => exact ⟨0, Nat.zero_le _, rfl, Lib.hid (fun c hc => by omega), hO10, hw10⟩
      case round =>
        obtain ⟨m, hm, rfl, HM, hO, hls⟩ := hrel
        clear hO10 hw10
        have HO7 := Lib.hid hO
        obtain ⟨⟨z7, c7, f7⟩, -⟩ := hO
        by_cases hlt : m < 8
        · have hltI : (m : Int) < 8 := by omega
          obtain ⟨v, hv, -⟩ := hSUM.out m hlt WA (Later.refl _)
          have HS := Lib.hid (fun W (hl : Later WA W) => by
            obtain ⟨v', hv', h⟩ := hSUM.out m hlt W hl
            rw [hv] at hv'
            cases hv'
            exact h)
          by_cases hfit : I64 (totI m l)
          · have e1 : fitN (totI m l) = totI m l := if_pos hfit
            have e2 : fitE (totI m l) = 0 := if_pos hfit
            rw [e1, e2] at HS
            have HM2 : Hid (∀ c, c < m + 1 → I64 (totI c l)) := Lib.hid (fun c hc => by
              by_cases h : c = m
              · rw [h]; exact hfit
              · exact HM.out c (by omega))
            have HSET := Lib.hid (tots8_set (fun c => totI c l) m hlt)
            have f7m : wr.frozen? ⟨WA.heap.size, m, none⟩ = false := f7 m hlt
            obtain ⟨x, hx⟩ : ∃ x, totI m l = x := ⟨_, rfl⟩
            obtain ⟨y, hy⟩ : ∃ y, (if m < m then totI m l else 0) = y := ⟨_, rfl⟩
            have c7m : ∃ y, wr.cell? ⟨WA.heap.size, m, none⟩ = some y := by
              rw [c7 m]
              rcases lt8 hlt with rfl | rfl | rfl | rfl | rfl | rfl | rfl | rfl <;> exact ⟨_, rfl⟩
            obtain ⟨y7, c7m⟩ := c7m
            rw [hx] at HS HSET
            clear e1 e2 hfit hx hy hSUM HM c7 f7
            go_wp2_with (first | refine wpList_idx (run_index_agg 87 _ 8 A m v _ Tryd.underlying87 hlt hv (fun W => by kernel_rfl) (fun W => by kernel_rfl)) rfl rfl rfl rfl ?_ | (go_at_call 46; go_must (refine (HS.out _ (by repeat (first | with_reducible exact Later.refl _ | with_reducible assumption | with_reducible refine Later.ofdrew ?_ | with_reducible refine Later.ofdrewN ?_ | with_reducible refine Later.setCell ?_ ?_ _ | with_reducible refine Later.alloc ?_ _ | with_reducible refine Later.drewN ?_ _ | with_reducible refine Later.drew ?_ | (with_reducible refine Later.trans ?_ (by assumption)) | (simp only [World.size_setCell, World.size_alloc, World.heap_drewN]; omega) | (simp; done) | (simp; omega)))).mono ?_; rintro e w2 ⟨rfl, hb2⟩; have c2m := ((bcell hb2).1 _ m z7).trans c7m; have f2m := ((bcell hb2).2 _ m z7).trans f7m)))
            go_roundw
            case rel =>
              refine ⟨m + 1, by omega, by go_num, HM2, ?_, by repeat (first | with_reducible exact Later.refl _ | with_reducible assumption | with_reducible refine Later.ofdrew ?_ | with_reducible refine Later.ofdrewN ?_ | with_reducible refine Later.setCell ?_ ?_ _ | with_reducible refine Later.alloc ?_ _ | with_reducible refine Later.drewN ?_ _ | with_reducible refine Later.drew ?_ | (with_reducible refine Later.trans ?_ (by assumption)) | (simp only [World.size_setCell, World.size_alloc, World.heap_drewN]; omega) | (simp; done) | (simp; omega))⟩
              have h9 := B.own_at (HO7.out.later hb2) (k := m) (by simp [tots8]; omega) (.int .i64 x)
              rw [HSET.out] at h9
              exact h9
            case measure => simp [intOf]; omega
          · have e1 : fitN (totI m l) = 0 := if_neg hfit
            have e2 : fitE (totI m l) = 11 := if_neg hfit
            rw [e1, e2] at HS
            have HB : Hid (∃ c, c < 8 ∧ ¬ I64 (totI c l)) := Lib.hid ⟨m, hlt, hfit⟩
            clear e1 e2 hfit hSUM HM c7 f7 HO7
            go_upto_region 15 with (first | refine wpList_idx (run_index_agg 87 _ 8 A m v _ Tryd.underlying87 hlt hv (fun W => by kernel_rfl) (fun W => by kernel_rfl)) rfl rfl rfl rfl ?_ | (go_at_call 46; go_must (refine (HS.out _ (by repeat (first | with_reducible exact Later.refl _ | with_reducible assumption | with_reducible refine Later.ofdrew ?_ | with_reducible refine Later.ofdrewN ?_ | with_reducible refine Later.setCell ?_ ?_ _ | with_reducible refine Later.alloc ?_ _ | with_reducible refine Later.drewN ?_ _ | with_reducible refine Later.drew ?_ | (with_reducible refine Later.trans ?_ (by assumption)) | (simp only [World.size_setCell, World.size_alloc, World.heap_drewN]; omega) | (simp; done) | (simp; omega)))).mono ?_; rintro e w2 ⟨rfl, hb2⟩)))
            refine wp_opaque (fun W6 hb6 => ?_)
            have hw6 : Later WA W6 := by repeat (first | with_reducible exact Later.refl _ | with_reducible assumption | with_reducible refine Later.ofdrew ?_ | with_reducible refine Later.ofdrewN ?_ | with_reducible refine Later.setCell ?_ ?_ _ | with_reducible refine Later.alloc ?_ _ | with_reducible refine Later.drewN ?_ _ | with_reducible refine Later.drew ?_ | (with_reducible refine Later.trans ?_ (by assumption)) | (simp only [World.size_setCell, World.size_alloc, World.heap_drewN]; omega) | (simp; done) | (simp; omega))
            have hl6 := hlat.trans hw6
            have hO6 := hOZ.out.later hw6
            clear hb6
            have f2 : ∀ i, i < 8 → W6.frozen? ⟨w.heap.size, i, none⟩ = false := hO6.1.2.2
            have c2 : ∀ i, i < 8 → W6.cell? ⟨w.heap.size, i, none⟩ = some (.int .i64 0) := fun i hi => (hO6.1.2.1 i).trans (zero8_get hi)
            have HC := Lib.hid (zero8_over hO6.1.2.1)
            go_wp2
            have hc := HC.out
            exact bodyPost_ret (v := .tuple #[.agg zero8, .int .i64 11]) (by simp [results, Tryd.results25, go_sem, hc, zero8]) rfl ⟨.inr (.inl ⟨rfl, HGA.out, HB.out⟩), by repeat (first | with_reducible exact Later.refl _ | with_reducible assumption | with_reducible refine Later.ofdrew ?_ | with_reducible refine Later.ofdrewN ?_ | with_reducible refine Later.setCell ?_ ?_ _ | with_reducible refine Later.alloc ?_ _ | with_reducible refine Later.drewN ?_ _ | with_reducible refine Later.drew ?_ | (with_reducible refine Later.trans ?_ (by assumption)) | (simp only [World.size_setCell, World.size_alloc, World.heap_drewN]; omega) | (simp; done) | (simp; omega))⟩
        · obtain rfl : m = 8 := by omega
          obtain ⟨f, hf⟩ : ∃ f : Nat → Int, (fun c => totI c l) = f := ⟨_, rfl⟩
          have hf' : ∀ c, totI c l = f c := fun c => congrFun hf c
          have HR : Hid (TotR l (.returned (.tuple #[.agg (tots8 f), .int .i64 0]))) := Lib.hid (.inr (.inr ⟨by rw [← hf], HGA.out, HM.out⟩))
          have hO7 := HO7.out
          simp only [hf'] at hO7
          rw [show (fun c => if c < 8 then f c else 0) = (fun c => if c < 8 then f c else 0) from rfl, tots8_all] at hO7
          have hO2 := hOZ.out.later hls
          obtain ⟨⟨-, c2, f2⟩, -⟩ := hO2
          obtain ⟨⟨z7', c7', f7'⟩, -⟩ := hO7
          have g2 : ∀ i, i < 8 → wr.frozen? ⟨w.heap.size, i, none⟩ = false := f2
          have d2 : ∀ i, i < 8 → wr.cell? ⟨w.heap.size, i, none⟩ = some (.int .i64 0) := fun i hi => (c2 i).trans (zero8_get hi)
          have k0 : wr.cell? ⟨WA.heap.size, 0, none⟩ = some (.int .i64 (f 0)) := c7' 0
          have k1 : wr.cell? ⟨WA.heap.size, 1, none⟩ = some (.int .i64 (f 1)) := c7' 1
          have k2 : wr.cell? ⟨WA.heap.size, 2, none⟩ = some (.int .i64 (f 2)) := c7' 2
          have k3 : wr.cell? ⟨WA.heap.size, 3, none⟩ = some (.int .i64 (f 3)) := c7' 3
          have k4 : wr.cell? ⟨WA.heap.size, 4, none⟩ = some (.int .i64 (f 4)) := c7' 4
          have k5 : wr.cell? ⟨WA.heap.size, 5, none⟩ = some (.int .i64 (f 5)) := c7' 5
          have k6 : wr.cell? ⟨WA.heap.size, 6, none⟩ = some (.int .i64 (f 6)) := c7' 6
          have k7 : wr.cell? ⟨WA.heap.size, 7, none⟩ = some (.int .i64 (f 7)) := c7' 7
          have HC := Lib.hid (tots8_over f c2)
          clear hSUM HM c7 f7 HO7 c7' f7' c2 f2 hf hf' hOZ
          go_wp2
          have hc := HC.out
          exact bodyPost_ret (v := .tuple #[.agg (tots8 f), .int .i64 0]) (by simp [results, Tryd.results25, go_sem, hc, tots8]) rfl ⟨HR.out, by repeat (first | with_reducible exact Later.refl _ | with_reducible assumption | with_reducible refine Later.ofdrew ?_ | with_reducible refine Later.ofdrewN ?_ | with_reducible refine Later.setCell ?_ ?_ _ | with_reducible refine Later.alloc ?_ _ | with_reducible refine Later.drewN ?_ _ | with_reducible refine Later.drew ?_ | (with_reducible refine Later.trans ?_ (by assumption)) | (simp only [World.size_setCell, World.size_alloc, World.heap_drewN]; omega) | (simp; done) | (simp; omega))⟩
end Go.Proofs.YtckeaibamgkegaaDoor
