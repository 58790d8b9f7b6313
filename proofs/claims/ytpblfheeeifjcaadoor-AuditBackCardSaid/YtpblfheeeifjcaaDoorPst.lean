/- audit's laws: Few, posted, awake -/
import Derived.Test.YtpblfheeeifjcaaDoorAudE
import Derived.Test.YtpblfheeeifjcaaDoorPrn
import Derived.Test.YtpblfheeeifjcaaDoorRegionV
set_option linter.all false
namespace Go.Proofs.YtpblfheeeifjcaaDoor
open Go.RowKit
set_option maxRecDepth 100000

/-! Calls that a law is given. -/
structure OpL where
  per : Int
  seq : Int
  lock : Bool
  es : List En
def opF (x : OpL × Value) : Nat → Value
  | 0 => .int .i64 x.1.per
  | 1 => .int .i64 x.1.seq
  | 2 => .bool x.1.lock
  | _ => x.2
def En.wd (x : En) : Prop := I64 x.con ∧ I64 x.day ∧ I64 x.cur ∧ I64 x.seq ∧ I64 x.per ∧ I64 x.ref ∧ ∀ y ∈ x.ls, y.ok
def OpL.ok (x : OpL) : Prop := I64 x.per ∧ I64 x.seq ∧ ∀ y ∈ x.es, y.wd
def IsOps (w : World) (v : Value) (l : List OpL) : Prop := ∃ xs : List (OpL × Value), xs.map (·.1) = l ∧ IsRow 4 opF w v xs ∧ ∀ x ∈ xs, IsEntries w x.2 x.1.es
theorem IsOps.later {w w' : World} {v : Value} {l : List OpL} (h : IsOps w v l) (hb : Later w w') : IsOps w' v l := by
  obtain ⟨xs, h1, h2, h3⟩ := h
  exact ⟨xs, h1, h2.later hb, fun x hx => (h3 x hx).later hb⟩
theorem IsOps.form {w : World} {v : Value} {l : List OpL} (h : IsOps w v l) : ∃ p cap, v = .slice p l.length cap ∧ l.length ≤ 9223372036854775807 := by
  obtain ⟨xs, rfl, h2, _⟩ := h
  rw [List.length_map]
  rcases h2 with ⟨⟨p, h1⟩, h3⟩ | ⟨b, o, cap, h1, h2, h3, h4, h5⟩
  · subst h3; exact ⟨p, 0, h1, by simp⟩
  · exact ⟨_, _, h1, by unfold maxLen at h4; omega⟩
theorem IsEntries.bound {w : World} {v : Value} {l : List En} (h : IsEntries w v l) : l.length ≤ 9223372036854775807 := by
  obtain ⟨xs, rfl, h2, _⟩ := h
  rw [List.length_map]
  rcases h2 with ⟨h1, h3⟩ | ⟨b, o, cap, h1, h2, h3, h4, h5⟩
  · subst h3; simp
  · unfold maxLen at h4; omega
theorem IsRow.bound {α : Type} {sz : Nat} {f : α → Nat → Value} {w : World} {v : Value} {xs : List α} (h : IsRow sz f w v xs) : xs.length ≤ 9223372036854775807 := by
  rcases h with ⟨h1, h3⟩ | ⟨b, o, cap, h1, h2, h3, h4, h5⟩
  · subst h3; simp
  · unfold maxLen at h4; omega
theorem IsOps.full {w : World} {v : Value} {l : List OpL} (h : IsOps w v l) {i : Nat} (hi : i < l.length) :
    ∃ b o cap u, v = .slice (some ⟨b, o, none⟩) l.length cap ∧ b < w.heap.size ∧ IsEntries w u (l[i]).es ∧ ∀ j, j < 4 → w.cell? ⟨b, o + i * 4 + j, none⟩ = some (opF (l[i], u) j) := by
  obtain ⟨xs, rfl, h2, h3⟩ := h
  rw [List.length_map] at hi
  obtain ⟨b, o, cap, e1, e2, e3⟩ := h2.full hi
  refine ⟨b, o, cap, (xs[i]).2, by rw [e1, List.length_map], e2, ?_, ?_⟩
  · rw [List.getElem_map]; exact h3 _ (List.getElem_mem hi)
  · intro j hj
    rw [e3 j hj, List.getElem_map]
def few1 (x : En) : Bool := decide (x.ls.length ≤ 20)
def few2 (o : OpL) : Bool := decide (o.es.length ≤ 6) && o.es.all few1
def fewB (l : List OpL) : Bool := l.all few2 && decide (l.length ≤ 20)

set_option maxHeartbeats 800000 in
theorem few14_any (x : En) (u : Value) (w : World) (hN : IsLines w u x.ls) : Calls Tryd.prog 16 #[.agg #[.int .i64 x.con, .int .i64 x.day, .int .i64 x.cur, .int .i64 x.seq, .int .i64 x.per, .int .i64 x.ref, u]] w fun e w' => e = .returned (.bool (few1 x)) ∧ Later w w' := by
  obtain ⟨p, cp, rfl⟩ := IsRow.form hN
  unfold few1
  clear hN
  generalize x.ls.length = n at *
  by_cases h : n ≤ 20
  · have h2 : (n : Int) ≤ 20 := by omega
    rw [decide_eq_true h]
    go_enter Tryd.func16, Tryd.ntmps16
    go_wp2
    go_ret
    exact ⟨rfl, by repeat (first | with_reducible exact Later.refl _ | with_reducible assumption | with_reducible refine Later.ofdrew ?_ | with_reducible refine Later.ofdrewN ?_ | with_reducible refine Later.setCell ?_ ?_ _ | with_reducible refine Later.alloc ?_ _ | with_reducible refine Later.drewN ?_ _ | with_reducible refine Later.drew ?_ | (with_reducible refine Later.trans ?_ (by assumption)) | (simp only [World.size_setCell, World.size_alloc, World.heap_drewN]; omega) | (simp; done) | (simp; omega))⟩
  · have h2 : ¬ ((n : Int) ≤ 20) := by omega
    rw [decide_eq_false h]
    go_enter Tryd.func16, Tryd.ntmps16
    go_wp2
    go_ret
    exact ⟨rfl, by repeat (first | with_reducible exact Later.refl _ | with_reducible assumption | with_reducible refine Later.ofdrew ?_ | with_reducible refine Later.ofdrewN ?_ | with_reducible refine Later.setCell ?_ ?_ _ | with_reducible refine Later.alloc ?_ _ | with_reducible refine Later.drewN ?_ _ | with_reducible refine Later.drew ?_ | (with_reducible refine Later.trans ?_ (by assumption)) | (simp only [World.size_setCell, World.size_alloc, World.heap_drewN]; omega) | (simp; done) | (simp; omega))⟩

set_option maxHeartbeats 4000000 in
theorem few15_any (l : List OpL) (v : Value) (w : World) (hN : IsOps w v l) : Calls Tryd.prog 6 #[v] w fun e w' => e = .returned (.bool (fewB l)) ∧ Later w w' := by
  have HN := Lib.hid hN
  obtain ⟨p, cp, rfl, hbd⟩ := hN.form
  clear hN
  obtain ⟨L, hLL⟩ : ∃ L, l.length = L := ⟨_, rfl⟩
  rw [hLL] at HN hbd ⊢
  have HL := Lib.hid hLL
  clear hLL
  obtain ⟨r, hr⟩ : ∃ r, fewB l = r := ⟨_, rfl⟩
  rw [hr]
  have hr := Lib.hid hr
  go_enter Tryd.func6, Tryd.ntmps6
  go_wp2
  go_loopw [3] (fun s3 wr => ∃ j : Nat, j ≤ L ∧ s3 = .int .i64 j ∧ Hid (∀ i (h : i < l.length), i < j → few2 l[i] = true) ∧ Later w wr) (fun s3 _ => L - (intOf s3).toNat)
  case atStart => exact ⟨0, Nat.zero_le _, rfl, Lib.hid (fun i _ h => by omega), Later.refl _⟩
  case round =>
    obtain ⟨j, hj, rfl, hall, hlat⟩ := hrel
    by_cases hlt : j < L
    · have hjl : j < l.length := by rw [HL.out]; exact hlt
      obtain ⟨b, o, cp', u, hv, hb, hE, g⟩ := HN.out.full (i := j) hjl
      rw [HL.out] at hv
      cases hv
      have g3 := ((bcell hlat).1 _ _ hb).trans (g 3 (by omega))
      simp only [opF] at g3
      have hbz := Nat.lt_of_lt_of_le hb (Later.size hlat)
      have G3 := Lib.hid (fun W (hl : Later w W) => ((bcell hl).1 _ _ hb).trans (g 3 (by omega)))
      simp only [opF] at G3
      have hbe := hE.bound
      have HE := Lib.hid hE
      obtain ⟨pu, cu, rfl⟩ := hE.form
      have hfalse : few2 l[j] = false → Hid (r = false) := fun h => Lib.hid (by
        rw [← hr.out]; unfold fewB
        rw [Bool.and_eq_false_iff]
        exact .inl (List.all_eq_false.2 ⟨l[j], List.getElem_mem _, by rw [h]; simp⟩))
      have htrue : few2 l[j] = true → Hid (∀ i (h : i < l.length), i < j + 1 → few2 l[i] = true) := fun hf => Lib.hid (fun i h1 h2 => by
        by_cases h : i = j
        · subst h; exact hf
        · exact hall.out i h1 (by omega))
      have hfalse := Lib.hid hfalse
      have htrue := Lib.hid htrue
      clear g hE hall
      generalize l[j] = x at *
      obtain ⟨xp, xq, xk, es⟩ := x
      simp only at g3 G3 HE hbe
      obtain ⟨E, hEE⟩ : ∃ n, es.length = n := ⟨_, rfl⟩
      rw [hEE] at g3 G3 HE hbe
      have HEL := Lib.hid hEE
      clear hEE
      by_cases h6 : E ≤ 6
      · have h6' : ¬ ((6 : Int) < (E : Int)) := by omega
        go_wp2
        go_loopw [4] (fun s4 wr => ∃ k : Nat, k ≤ E ∧ s4 = .int .i64 k ∧ Hid (∀ i (h : i < es.length), i < k → few1 es[i] = true) ∧ Later w wr) (fun s4 _ => E - (intOf s4).toNat)
        case atStart => exact ⟨0, Nat.zero_le _, rfl, Lib.hid (fun i _ h => by omega), hlat⟩
        case round =>
          obtain ⟨k, hk, rfl, hall2, hlq⟩ := hrel
          clear g3 hbz hlat
          have g3 := G3.out wr hlq
          have hbz := Nat.lt_of_lt_of_le hb (Later.size hlq)
          by_cases hkt : k < E
          · have hkl : k < es.length := by rw [HEL.out]; exact hkt
            obtain ⟨b2, o2, cp2, u2, hv2, hb2, hLi, g2⟩ := HE.out.full (i := k) hkl
            rw [HEL.out] at hv2
            cases hv2
            replace g2 := fun j (hj : j < 7) => ((bcell hlq).1 _ _ hb2).trans (g2 j hj)
            have e0 := g2 0 (by omega)
            have e1 := g2 1 (by omega)
            have e2 := g2 2 (by omega)
            have e3 := g2 3 (by omega)
            have e4 := g2 4 (by omega)
            have e5 := g2 5 (by omega)
            have e6 := g2 6 (by omega)
            simp only [enF, Nat.add_zero] at e0 e1 e2 e3 e4 e5 e6
            have hb2z := Nat.lt_of_lt_of_le hb2 (Later.size hlq)
            have HF := Lib.hid (fun W (hl : Later wr W) => few14_any es[k] u2 W (IsRow.later hLi (hlq.trans hl)))
            obtain ⟨pl, cl, rfl⟩ := IsRow.form hLi
            cases hf : few1 es[k] with
            | true =>
              have HA : Hid (∀ i (h : i < es.length), i < k + 1 → few1 es[i] = true) := Lib.hid (fun i h1 h2 => by
                by_cases h : i = k
                · subst h; exact hf
                · exact hall2.out i h1 (by omega))
              rw [hf] at HF
              clear hall2 g2 hLi hf HE HN
              generalize es[k] = y at *
              obtain ⟨con, day, cur, sq, pr, ref, ls⟩ := y
              simp only at e0 e1 e2 e3 e4 e5 e6 HF
              generalize ls.length = lsn at *
              go_wp2_with (go_at_call 16; go_must (refine (HF.out _ (by repeat (first | with_reducible exact Later.refl _ | with_reducible assumption | with_reducible refine Later.ofdrew ?_ | with_reducible refine Later.ofdrewN ?_ | with_reducible refine Later.setCell ?_ ?_ _ | with_reducible refine Later.alloc ?_ _ | with_reducible refine Later.drewN ?_ _ | with_reducible refine Later.drew ?_ | (with_reducible refine Later.trans ?_ (by assumption)) | (simp only [World.size_setCell, World.size_alloc, World.heap_drewN]; omega) | (simp; done) | (simp; omega)))).mono ?_; rintro e w3 ⟨rfl, hb3⟩))
              go_roundw
              case rel => exact ⟨k + 1, by omega, by go_num, HA, by repeat (first | with_reducible exact Later.refl _ | with_reducible assumption | with_reducible refine Later.ofdrew ?_ | with_reducible refine Later.ofdrewN ?_ | with_reducible refine Later.setCell ?_ ?_ _ | with_reducible refine Later.alloc ?_ _ | with_reducible refine Later.drewN ?_ _ | with_reducible refine Later.drew ?_ | (with_reducible refine Later.trans ?_ (by assumption)) | (simp only [World.size_setCell, World.size_alloc, World.heap_drewN]; omega) | (simp; done) | (simp; omega))⟩
              case measure => simp [intOf]; omega
            | false =>
              have hrf := (hfalse.out (by
                unfold few2
                rw [Bool.and_eq_false_iff]
                exact .inr (List.all_eq_false.2 ⟨es[k], List.getElem_mem _, by rw [hf]; simp⟩))).out
              subst hrf
              rw [hf] at HF
              clear hall2 g2 hLi hf HE HN hr hfalse htrue
              generalize es[k] = y at *
              obtain ⟨con, day, cur, sq, pr, ref, ls⟩ := y
              simp only at e0 e1 e2 e3 e4 e5 e6 HF
              generalize ls.length = lsn at *
              go_wp2_with (go_at_call 16; go_must (refine (HF.out _ (by repeat (first | with_reducible exact Later.refl _ | with_reducible assumption | with_reducible refine Later.ofdrew ?_ | with_reducible refine Later.ofdrewN ?_ | with_reducible refine Later.setCell ?_ ?_ _ | with_reducible refine Later.alloc ?_ _ | with_reducible refine Later.drewN ?_ _ | with_reducible refine Later.drew ?_ | (with_reducible refine Later.trans ?_ (by assumption)) | (simp only [World.size_setCell, World.size_alloc, World.heap_drewN]; omega) | (simp; done) | (simp; omega)))).mono ?_; rintro e w3 ⟨rfl, hb3⟩))
              go_ret
              exact ⟨rfl, by repeat (first | with_reducible exact Later.refl _ | with_reducible assumption | with_reducible refine Later.ofdrew ?_ | with_reducible refine Later.ofdrewN ?_ | with_reducible refine Later.setCell ?_ ?_ _ | with_reducible refine Later.alloc ?_ _ | with_reducible refine Later.drewN ?_ _ | with_reducible refine Later.drew ?_ | (with_reducible refine Later.trans ?_ (by assumption)) | (simp only [World.size_setCell, World.size_alloc, World.heap_drewN]; omega) | (simp; done) | (simp; omega))⟩
          · have HA := htrue.out (by
              unfold few2
              rw [Bool.and_eq_true, List.all_eq_true]
              refine ⟨by simpa [HEL.out] using h6, fun y hy => ?_⟩
              obtain ⟨i, hi, rfl⟩ := List.getElem_of_mem hy
              exact hall2.out i hi (by rw [HEL.out] at hi; omega))
            clear hall2 htrue hfalse HE HN
            go_wp2
            go_roundw
            case rel => exact ⟨j + 1, by omega, by go_num, HA, hlq⟩
            case measure => simp [intOf]; omega
      · have h6' : (6 : Int) < (E : Int) := by omega
        have hrf := (hfalse.out (by
          unfold few2
          rw [Bool.and_eq_false_iff]
          exact .inl (by simpa [HEL.out] using h6))).out
        subst hrf
        clear hr hfalse htrue HE HN G3
        go_wp2
        go_ret
        exact ⟨rfl, hlat⟩
    · have hrr : Hid (r = decide (L ≤ 20)) := Lib.hid (by
        rw [← hr.out]; unfold fewB
        have : l.all few2 = true := by
          rw [List.all_eq_true]
          intro y hy
          obtain ⟨i, hi, rfl⟩ := List.getElem_of_mem hy
          exact hall.out i hi (by rw [HL.out] at hi; omega)
        rw [this, HL.out]; rfl)
      clear hall hr HN
      by_cases h20 : L ≤ 20
      · have h2 : (L : Int) ≤ 20 := by omega
        have hrt : r = true := by rw [hrr.out]; exact decide_eq_true h20
        subst hrt
        clear hrr
        go_wp2
        go_ret
        exact ⟨rfl, hlat⟩
      · have h2 : ¬ ((L : Int) ≤ 20) := by omega
        have hrt : r = false := by rw [hrr.out]; exact decide_eq_false h20
        subst hrt
        clear hrr
        go_wp2
        go_ret
        exact ⟨rfl, hlat⟩

/-! Books behind calls. -/
def postAll (l : List OpL) : List En := l.foldl (fun es o => postR 30 0 es o.per o.seq o.es) []
theorem postAll_step {l : List OpL} {j : Nat} (h : j < l.length) : postAll (l.take (j + 1)) = postR 30 0 (postAll (l.take j)) (l[j]).per (l[j]).seq (l[j]).es := by
  unfold postAll
  rw [List.take_add_one, List.getElem?_eq_getElem h, Option.toList_some, List.foldl_append]; rfl
theorem few_ops {l : List OpL} (h : fewB l = true) : l.length ≤ 20 ∧ ∀ o ∈ l, o.es.length ≤ 6 ∧ ∀ x ∈ o.es, x.ls.length ≤ 20 := by
  unfold fewB at h
  rw [Bool.and_eq_true, List.all_eq_true, decide_eq_true_eq] at h
  refine ⟨h.2, fun o ho => ?_⟩
  have h1 := h.1 o ho
  unfold few2 at h1
  rw [Bool.and_eq_true, List.all_eq_true, decide_eq_true_eq] at h1
  exact ⟨h1.1, fun x hx => by have := h1.2 x hx; unfold few1 at this; exact of_decide_eq_true this⟩
theorem few_ok {l : List OpL} (h : fewB l = true) (hw : ∀ o ∈ l, o.ok) : ∀ o ∈ l, ∀ x ∈ o.es, x.ok := fun o ho x hx => by
  obtain ⟨a, b, c, d, e, f, g⟩ := (hw o ho).2.2 x hx
  exact ⟨a, b, c, d, e, f, g, by have := ((few_ops h).2 o ho).2 x hx; omega⟩
theorem postAll_len {l : List OpL} (h : fewB l = true) : ∀ j, j ≤ l.length → (postAll (l.take j)).length ≤ 6 * j := by
  intro j
  induction j with
  | zero => intro _; simp [postAll]
  | succ j ih =>
    intro hj
    rw [postAll_step (by omega)]
    have h1 := ih (by omega)
    have h2 := ((few_ops h).2 _ (List.getElem_mem (l := l) (n := j) (by omega))).1
    have h3 := postR_len (sz := 30) (lk := 0) (es := postAll (l.take j)) (period := (l[j]).per) (seq := (l[j]).seq) (xs := (l[j]).es)
    omega
theorem postAll_inv {l : List OpL} (h : fewB l = true) (hw : ∀ o ∈ l, o.ok) : ∀ j, j ≤ l.length → Inv (postAll (l.take j)) := by
  intro j
  induction j with
  | zero => intro _; exact Inv.nil
  | succ j ih =>
    intro hj
    rw [postAll_step (by omega)]
    have hm := List.getElem_mem (l := l) (n := j) (by omega)
    exact postR_inv (hw _ hm).2.1 (hw _ hm).1 (few_ok h hw _ hm) (ih (by omega))
theorem lines_20 {es : List En} (h : Inv es) : ∀ y ∈ es, y.ls.length ≤ 20 := fun y hy => by
  have := (entryE_ok.1 (h.ok y hy)).2.1
  unfold linesB at this
  simp only [Bool.and_eq_true, decide_eq_true_eq] at this
  omega
theorem PerAt.grown {w w' : World} {q b k : Nat} {sz lk : Int} (h : PerAt w q b sz lk) (hg : w.grownBy w' (some k)) (h1 : q ≠ k) (h2 : b ≠ k) : PerAt w' q b sz lk :=
  ⟨grown_cell hg h.c0 (fun e => h1 (by cases e; rfl)), grown_cell hg h.c1 (fun e => h1 (by cases e; rfl)), grown_cell hg h.c2 (fun e => h2 (by cases e; rfl)), h.s1, h.s2⟩
theorem Led.lt {w : World} {q : Nat} {es : List En} (h : Led w q es) : q < w.heap.size := by
  obtain ⟨v, m, hbk, _⟩ := h
  exact hbk.lt

set_option maxHeartbeats 4000000 in
theorem posted_any (l : List OpL) (hf : fewB l = true) (hw : ∀ o ∈ l, o.ok) (v : Value) (w : World) (hN : IsOps w v l) (hR : RulesAt w) :
    Calls Tryd.prog 8 #[v] w fun e w' => ∃ q, e = .returned (.pointer (some ⟨q, 0, none⟩)) ∧ Led w' q (postAll l) ∧ Later w w' := by
  have HNEW := Lib.hid new_any
  have HPER := Lib.hid (fun W => pnew_any 30 (by omega) (by omega) W)
  have HN := Lib.hid hN
  have HR := Lib.hid hR
  have hl20 := (few_ops hf).1
  have HPOST := Lib.hid (fun (q pq pb : Nat) (j : Nat) (hj : j < l.length) ev W (hL : Led W q (postAll (l.take j))) (hP : PerAt W pq pb 30 0) (hE : IsEntries W ev (l[j]).es) (hR : RulesAt W) (hlt : q < W.heap.size) =>
    post_any q (postAll (l.take j)) (by have := postAll_len hf j (by omega); omega) (postAll_inv hf hw j (by omega)).word pq pb 30 0 (l[j]).per (l[j]).seq (hw _ (List.getElem_mem hj)).2.1 (hw _ (List.getElem_mem hj)).1 (l[j]).es (by have := ((few_ops hf).2 _ (List.getElem_mem hj)).1; omega) (few_ok hf hw _ (List.getElem_mem hj)) ev W hL hP hE hR hlt)
  obtain ⟨p, cp, rfl, -⟩ := hN.form
  clear hN hR hf hw
  obtain ⟨L, hLL⟩ : ∃ L, l.length = L := ⟨_, rfl⟩
  rw [hLL] at HN hl20 ⊢
  have HL := Lib.hid hLL
  clear hLL
  go_enter Tryd.func8, Tryd.ntmps8
  go_upto_region 6 with (first | (go_at_call 17; go_must (refine (HNEW.out _).mono ?_; rintro e w1 ⟨q, rfl, hq1, hL1, hb1⟩; have hq2 := hL1.lt; have HL1 := Lib.hid hL1; clear hL1)) | (go_at_call 18; go_must (refine (HPER.out _).mono ?_; rintro e w2 ⟨pq, pb, rfl, hP2, hp1, hp2, hb2⟩; have HP2 := Lib.hid hP2; clear hP2)))
  refine wp_opaque (fun W3 hb3 => ?_)
  have HL3 : Hid (Led W3 q (postAll (l.take 0))) := Lib.hid ((HL1.out.later hb2).later hb3)
  have HP3 := Lib.hid (HP2.out.later hb3)
  have hw3 := (hb1.trans hb2).trans hb3
  have hpq1 : pq ≠ q := by omega
  have hpq2 : pb ≠ q := by omega
  have hpq1 := Lib.hid hpq1
  have hpq2 := Lib.hid hpq2
  clear HL1 HP2 hb1 hb2 hb3 hp1 hp2 hq2 HNEW HPER
  go_loopw [6] (fun s6 wr => ∃ j : Nat, j ≤ L ∧ s6 = .int .i64 j ∧ Hid (Led wr q (postAll (l.take j))) ∧ Hid (PerAt wr pq pb 30 0) ∧ Later w wr) (fun s6 _ => L - (intOf s6).toNat)
  case atStart => exact ⟨0, Nat.zero_le _, rfl, HL3, HP3, hw3⟩
  case round =>
    clear HL3 HP3 hw3
    obtain ⟨j, hj, rfl, hLr, hPr, hlat⟩ := hrel
    by_cases hlt : j < L
    · have hjl : j < l.length := by rw [HL.out]; exact hlt
      obtain ⟨b, o, cp', u, hv, hb, hE, g⟩ := HN.out.full (i := j) hjl
      rw [HL.out] at hv
      cases hv
      replace g := fun k (hk : k < 4) => ((bcell hlat).1 _ _ hb).trans (g k hk)
      have g0 := g 0 (by omega)
      have g1 := g 1 (by omega)
      have g3 := g 3 (by omega)
      simp only [opF, Nat.add_zero] at g0 g1 g3
      have hbz := Nat.lt_of_lt_of_le hb (Later.size hlat)
      have HPJ := Lib.hid (fun W (hl : Later wr W) => HPOST.out q pq pb j hjl u W (hLr.out.later hl) (hPr.out.later hl) (hE.later (hlat.trans hl)) (HR.out.later (hlat.trans hl)) (hLr.out.later hl).lt)
      simp only [← postAll_step hjl] at HPJ
      have HLE := Lib.hid (fun W (hl : Later wr W) => hPr.out.later hl)
      obtain ⟨pu, cu, rfl⟩ := hE.form
      generalize postE 30 0 (postAll (l.take j)) (l[j]).per (l[j]).seq (l[j]).es = pe at *
      generalize (if pe = 0 then ((postAll (l.take j)).length : Int) else 0) = pn at *
      generalize (l[j]).per = xp at *
      generalize (l[j]).seq = xq at *
      generalize (l[j]).es.length = xn at *
      clear g hE HN HPOST HR hLr hPr
      go_upto_region 8 with (fail)
      refine V.wp_region_plan 17 (.one [0, 1, 2, 3, 4, 5, 6, 7, 8, 9, 10, 11, 12, 13, 14, 15, 16] 17 (.done [])) (by kernel_rfl) (by kernel_rfl) (fun _ _ d _ _ h => by cases d <;> exact h) ?_
      repeat' (first
        | (refine plan_done (fun K hK => ?_); (first | (simp only [pick_cons, pick_nil, toList_some_append, List.getElem?_toArray, List.getElem?_cons_zero, List.getElem?_cons_succ]; repeat (go_big_quiet_step (fail))) | simp only [pick_nil]); refine wpQuiet_nil (hK _ ?_); clear hK K)
        | (refine plan_one (by rfl) (fun K hK => ?_); (first | (simp only [pick_cons, pick_nil, toList_some_append, List.getElem?_toArray, List.getElem?_cons_zero, List.getElem?_cons_succ]; repeat (go_big_quiet_step (fail))) | simp only [pick_nil]); refine wpQuiet_nil (hK _ ?_); clear hK K)
        | ((with_reducible refine at_list ?_); go_wp2_with ((go_at_call 20; go_must (refine (HPJ.out _ (by repeat (first | with_reducible exact Later.refl _ | with_reducible assumption | with_reducible refine Later.ofdrew ?_ | with_reducible refine Later.ofdrewN ?_ | with_reducible refine Later.setCell ?_ ?_ _ | with_reducible refine Later.alloc ?_ _ | with_reducible refine Later.drewN ?_ _ | with_reducible refine Later.drew ?_ | (with_reducible refine Later.trans ?_ (by assumption)) | (simp only [World.size_setCell, World.size_alloc, World.heap_drewN]; omega) | (simp; done) | (simp; omega)))).mono ?_; rintro e w9 ⟨rfl, hL9, hg9⟩))); first | refine behind_store (t := 17) (by decide) ?_ | refine behind (by repeat (first | with_reducible exact Later.refl _ | with_reducible assumption | with_reducible refine Later.ofdrew ?_ | with_reducible refine Later.ofdrewN ?_ | with_reducible refine Later.alloc ?_ _ | with_reducible refine Later.drewN ?_ _ | with_reducible refine Later.drew ?_ | (with_reducible refine Later.trans ?_ (by assumption)))) ?_))
      have hl9 : Later w w9 := Later.grown (Later.trans hlat (by repeat (first | with_reducible exact Later.refl _ | with_reducible assumption | with_reducible refine Later.ofdrew ?_ | with_reducible refine Later.ofdrewN ?_ | with_reducible refine Later.setCell ?_ ?_ _ | with_reducible refine Later.alloc ?_ _ | with_reducible refine Later.drewN ?_ _ | with_reducible refine Later.drew ?_ | (with_reducible refine Later.trans ?_ (by assumption)) | (simp only [World.size_setCell, World.size_alloc, World.heap_drewN]; omega) | (simp; done) | (simp; omega)))) hg9 (fun k e => by cases e; exact hq1)
      have HL9 := Lib.hid hL9
      have HP9 := Lib.hid ((HLE.out _ (by repeat (first | with_reducible exact Later.refl _ | with_reducible assumption | with_reducible refine Later.ofdrew ?_ | with_reducible refine Later.ofdrewN ?_ | with_reducible refine Later.setCell ?_ ?_ _ | with_reducible refine Later.alloc ?_ _ | with_reducible refine Later.drewN ?_ _ | with_reducible refine Later.drew ?_ | (with_reducible refine Later.trans ?_ (by assumption)) | (simp only [World.size_setCell, World.size_alloc, World.heap_drewN]; omega) | (simp; done) | (simp; omega)))).grown hg9 hpq1.out hpq2.out)
      clear hL9 hg9 HPJ HLE g0 g1 g3
      go_wp2
      go_roundw
      case rel => exact ⟨j + 1, by omega, by go_num, HL9, HP9, hl9⟩
      case measure => simp [intOf]; omega
    · have hLe := hLr.out
      rw [List.take_of_length_le (by rw [HL.out]; omega)] at hLe
      have HLE := Lib.hid hLe
      clear hLe hLr hPr HN HPOST
      go_wp2
      go_ret
      exact ⟨q, rfl, HLE.out, hlat⟩

/-! The chapter's example. -/
def awE : En := ⟨1, 5, 0, 0, 0, -1, [⟨2, 0, 70⟩, ⟨3, 0, -70⟩]⟩
def awEs : List En := [⟨1, 5, 0, 1, 0, -1, [⟨2, 0, 70⟩, ⟨3, 0, -70⟩]⟩]
theorem aw_post : postE 30 0 [] 0 1 [awE] = 0 := by decide +kernel
theorem aw_postR : postR 30 0 [] 0 1 [awE] = awEs := by decide +kernel
theorem aw_ok : awE.ok := by
  refine ⟨?_, ?_, ?_, ?_, ?_, ?_, ?_, ?_⟩
  all_goals first | (unfold I64 awE; simp only; omega) | skip
  · intro y hy
    simp only [awE, List.mem_cons, List.not_mem_nil, or_false] at hy
    rcases hy with rfl | rfl <;> (unfold Ln.ok I64; simp only; omega)
  · decide
theorem aw_inv : Inv awEs := by
  rw [← aw_postR]
  exact postR_inv (by unfold I64; omega) (by unfold I64; omega) (fun y hy => by simp only [List.mem_singleton] at hy; subst hy; exact aw_ok) Inv.nil
theorem aw_rows : (rowsL awEs).length = 2 := by decide +kernel
theorem aw_text : (⟨(textL (rowsL awEs)).toArray⟩ : ByteArray).toList = [48, 32, 49, 32, 48, 32, 49, 32, 53, 32, 45, 49, 32, 50, 32, 48, 32, 55, 48, 10, 48, 32, 49, 32, 48, 32, 49, 32, 53, 32, 45, 49, 32, 51, 32, 48, 32, 45, 55, 48, 10] := by decide +kernel
theorem en_lit (a b c d e f : Int) (p : Option Addr) (n k : Nat) (w : World) :
    (Instr.buildSlice 48 1 #[(0, .agg #[.int .i64 a, .int .i64 b, .int .i64 c, .int .i64 d, .int .i64 e, .int .i64 f, .slice p n k])]).run Tryd.prog w
      = .ok (.slice (some ⟨w.heap.size, 0, none⟩) 1 1) (w.alloc (.cells #[.int .i64 a, .int .i64 b, .int .i64 c, .int .i64 d, .int .i64 e, .int .i64 f, .slice p n k] 34)) := by kernel_rfl
theorem tag_build (a b : Int) (w : World) : (Instr.build 31 #[(0, .int .i64 a), (1, .int .i64 b)]).run Tryd.prog w = .ok (.agg #[.int .i64 a, .int .i64 b, .int .i64 0]) w := by kernel_rfl
theorem entries_one {W : World} {b : Nat} {x : En} {u : Value} (h : Own W [(b, (enCs (x, u)).toArray)]) (hu : IsLines W u x.ls) : IsEntries W (.slice (some ⟨b, 0, none⟩) 1 1) [x] := by
  obtain ⟨z, c, -⟩ := own_get h
  refine ⟨[(x, u)], rfl, .inr ⟨b, 0, 1, rfl, z, by simp, by decide, fun i hi j hj => ?_⟩, fun y hy => ?_⟩
  · simp only [List.length_singleton] at hi
    have : i = 0 := by omega
    subst this
    rw [Nat.zero_mul, Nat.add_zero, Nat.zero_add, c j, List.getElem?_toArray]
    rcases j with _ | _ | _ | _ | _ | _ | _ | j
    all_goals first | rfl | omega
  · simp only [List.mem_singleton] at hy; subst hy; exact hu

set_option maxHeartbeats 4000000 in
theorem audawake_any (w : World) (hR : RulesAt w) (hT : PowTab w) : Calls Tryd.prog 7 #[] w fun e w' => e = .returned (.bool true) ∧ Later w w' := by
  have HNEW := Lib.hid new_any
  have HPER := Lib.hid (fun W => pnew_any 30 (by omega) (by omega) W)
  have HFL := Lib.hid (fun W => flow_any 1 5 0 70 2 3 (by decide) (by decide) (by decide) (by decide) (by decide) (by decide) (by unfold I64; omega) W)
  have HR := Lib.hid hR
  have HT := Lib.hid hT
  have HPOST := Lib.hid (fun (q pq pb : Nat) ev W (hL : Led W q []) (hP : PerAt W pq pb 30 0) (hE : IsEntries W ev [awE]) (hR : RulesAt W) (hlt : q < W.heap.size) =>
    post_any q [] (by simp) (fun y h => by cases h) pq pb 30 0 0 1 (by unfold I64; omega) (by unfold I64; omega) [awE] (by simp) (fun y hy => by simp only [List.mem_singleton] at hy; subst hy; exact aw_ok) ev W hL hP hE hR hlt)
  simp only [aw_post, aw_postR, if_pos rfl, List.length_nil, Int.natCast_zero] at HPOST
  have HROWS := Lib.hid (fun q W (hL : Led W q awEs) => rows_any q awEs (by decide) aw_inv.word (lines_20 aw_inv) W hL)
  have HAG := Lib.hid (fun q v W (hL : Led W q awEs) (hN : IsRow 9 rwF W v (rowsL awEs)) => agrees_yes q awEs aw_inv (by decide) (lines_20 aw_inv) (rowsL awEs) (by rw [aw_rows]; omega) rfl v W hL hN)
  have HPRN := Lib.hid (fun v W (hN : IsRow 9 rwF W v (rowsL awEs)) (hT : PowTab W) => print_any (rowsL awEs) (by rw [aw_rows]; omega) (rows_ok aw_inv.word (by decide)) v W hN hT)
  obtain ⟨TX, hTX⟩ : ∃ t : ByteArray, ⟨(textL (rowsL awEs)).toArray⟩ = t := ⟨_, rfl⟩
  simp only [hTX] at HPRN
  have htx := aw_text
  rw [hTX] at htx
  clear hR hT hTX
  go_enter Tryd.func7, Tryd.ntmps7
  go_upto_region 4 with (first | refine wpList_built (tag_build _ _) rfl rfl rfl ?_ | (go_at_call 17; go_must (refine (HNEW.out _).mono ?_; rintro e w1 ⟨q, rfl, hq1, hL1, hb1⟩; have hq2 := hL1.lt; have HL1 := Lib.hid hL1; clear hL1)) | (go_at_call 18; go_must (refine (HPER.out _).mono ?_; rintro e w2 ⟨pq, pb, rfl, hP2, hp1, hp2, hb2⟩; have HP2 := Lib.hid hP2; clear hP2)) | (go_at_call 19; go_must (refine (HFL.out _).mono ?_; rintro e w3 ⟨v3, rfl, hN3, hb3⟩; obtain ⟨p3, c3, rfl⟩ := IsRow.form hN3; have HN3 := Lib.hid hN3; clear hN3)))
  refine wp_opaque (fun W4 hb4 => ?_)
  have HO4 := Lib.hid (Own.one hb4)
  have hb34 := hb4.un1
  have HL4 := Lib.hid (((HL1.out.later hb2).later hb3).later hb34)
  have HP4 := Lib.hid ((HP2.out.later hb3).later hb34)
  have HN4 := Lib.hid (IsRow.later HN3.out hb34)
  have hw4 := ((hb1.trans hb2).trans hb3).trans hb34
  obtain ⟨⟨z4, d4, f4⟩, -⟩ := HO4.out
  clear HL1 HP2 HN3 hb1 hb2 hb3 hb4 hb34 hp1 hp2 hq2 HNEW HPER HFL
  go_upto_region 7 with (first | refine wpList_builtS (en_lit _ _ _ _ _ _ _ _ _) rfl rfl rfl ?_ | (go_at_call 20; go_must (refine (HPOST.out _ _ _ _ _ (HL4.out.later (by repeat (first | with_reducible exact Later.refl _ | with_reducible assumption | with_reducible refine Later.ofdrew ?_ | with_reducible refine Later.ofdrewN ?_ | with_reducible refine Later.setCell ?_ ?_ _ | with_reducible refine Later.alloc ?_ _ | with_reducible refine Later.drewN ?_ _ | with_reducible refine Later.drew ?_ | (with_reducible refine Later.trans ?_ (by assumption)) | (simp only [World.size_setCell, World.size_alloc, World.heap_drewN]; omega) | (simp; done) | (simp; omega)))) (HP4.out.later (by repeat (first | with_reducible exact Later.refl _ | with_reducible assumption | with_reducible refine Later.ofdrew ?_ | with_reducible refine Later.ofdrewN ?_ | with_reducible refine Later.setCell ?_ ?_ _ | with_reducible refine Later.alloc ?_ _ | with_reducible refine Later.drewN ?_ _ | with_reducible refine Later.drew ?_ | (with_reducible refine Later.trans ?_ (by assumption)) | (simp only [World.size_setCell, World.size_alloc, World.heap_drewN]; omega) | (simp; done) | (simp; omega)))) (entries_one (Own.one (Later.refl _)) (IsRow.later HN4.out (by repeat (first | with_reducible exact Later.refl _ | with_reducible assumption | with_reducible refine Later.ofdrew ?_ | with_reducible refine Later.ofdrewN ?_ | with_reducible refine Later.setCell ?_ ?_ _ | with_reducible refine Later.alloc ?_ _ | with_reducible refine Later.drewN ?_ _ | with_reducible refine Later.drew ?_ | (with_reducible refine Later.trans ?_ (by assumption)) | (simp only [World.size_setCell, World.size_alloc, World.heap_drewN]; omega) | (simp; done) | (simp; omega))))) (HR.out.later (hw4.trans (by repeat (first | with_reducible exact Later.refl _ | with_reducible assumption | with_reducible refine Later.ofdrew ?_ | with_reducible refine Later.ofdrewN ?_ | with_reducible refine Later.setCell ?_ ?_ _ | with_reducible refine Later.alloc ?_ _ | with_reducible refine Later.drewN ?_ _ | with_reducible refine Later.drew ?_ | (with_reducible refine Later.trans ?_ (by assumption)) | (simp only [World.size_setCell, World.size_alloc, World.heap_drewN]; omega) | (simp; done) | (simp; omega))))) (HL4.out.later (by repeat (first | with_reducible exact Later.refl _ | with_reducible assumption | with_reducible refine Later.ofdrew ?_ | with_reducible refine Later.ofdrewN ?_ | with_reducible refine Later.setCell ?_ ?_ _ | with_reducible refine Later.alloc ?_ _ | with_reducible refine Later.drewN ?_ _ | with_reducible refine Later.drew ?_ | (with_reducible refine Later.trans ?_ (by assumption)) | (simp only [World.size_setCell, World.size_alloc, World.heap_drewN]; omega) | (simp; done) | (simp; omega)))).lt).mono ?_; rintro e w5 ⟨rfl, hL5, hg5⟩)))
  refine wp_opaque (fun W6 hb6 => ?_)
  have hl5 : Later w w5 := Later.grown (hw4.trans (by repeat (first | with_reducible exact Later.refl _ | with_reducible assumption | with_reducible refine Later.ofdrew ?_ | with_reducible refine Later.ofdrewN ?_ | with_reducible refine Later.setCell ?_ ?_ _ | with_reducible refine Later.alloc ?_ _ | with_reducible refine Later.drewN ?_ _ | with_reducible refine Later.drew ?_ | (with_reducible refine Later.trans ?_ (by assumption)) | (simp only [World.size_setCell, World.size_alloc, World.heap_drewN]; omega) | (simp; done) | (simp; omega)))) hg5 (fun k e => by cases e; exact hq1)
  have HL6 := Lib.hid (hL5.later hb6)
  have hw6 := hl5.trans hb6
  clear hL5 hg5 hb6 hl5 z4 d4 f4 HL4 HP4 HN4 HO4 hw4 HPOST
  go_upto_region 8 with (go_at_call 9; go_must (refine (HROWS.out _ _ (HL6.out.later (by repeat (first | with_reducible exact Later.refl _ | with_reducible assumption | with_reducible refine Later.ofdrew ?_ | with_reducible refine Later.ofdrewN ?_ | with_reducible refine Later.setCell ?_ ?_ _ | with_reducible refine Later.alloc ?_ _ | with_reducible refine Later.drewN ?_ _ | with_reducible refine Later.drew ?_ | (with_reducible refine Later.trans ?_ (by assumption)) | (simp only [World.size_setCell, World.size_alloc, World.heap_drewN]; omega) | (simp; done) | (simp; omega))))).mono ?_; rintro e w7 ⟨v7, rfl, hR7, hb7⟩))
  refine wp_opaque (fun W8 hb8 => ?_)
  have hN8 := hR7.1.later hb8
  have hw8 := (hw6.trans hb7).trans hb8
  have HL8 := Lib.hid ((HL6.out.later hb7).later hb8)
  have HT8 := Lib.hid (HT.out.later hw8)
  obtain ⟨p8, c8, hv8⟩ := hN8.form
  rw [aw_rows] at hv8
  subst hv8
  have HN8 := Lib.hid hN8
  clear hR7 hb7 hb8 HL6 hw6 hN8 HROWS HT HR
  go_wp2_with (first | (go_at_call 21; go_must (refine (HPRN.out _ _ (HN8.out.later (by repeat (first | with_reducible exact Later.refl _ | with_reducible assumption | with_reducible refine Later.ofdrew ?_ | with_reducible refine Later.ofdrewN ?_ | with_reducible refine Later.setCell ?_ ?_ _ | with_reducible refine Later.alloc ?_ _ | with_reducible refine Later.drewN ?_ _ | with_reducible refine Later.drew ?_ | (with_reducible refine Later.trans ?_ (by assumption)) | (simp only [World.size_setCell, World.size_alloc, World.heap_drewN]; omega) | (simp; done) | (simp; omega)))) (HT8.out.later (by repeat (first | with_reducible exact Later.refl _ | with_reducible assumption | with_reducible refine Later.ofdrew ?_ | with_reducible refine Later.ofdrewN ?_ | with_reducible refine Later.setCell ?_ ?_ _ | with_reducible refine Later.alloc ?_ _ | with_reducible refine Later.drewN ?_ _ | with_reducible refine Later.drew ?_ | (with_reducible refine Later.trans ?_ (by assumption)) | (simp only [World.size_setCell, World.size_alloc, World.heap_drewN]; omega) | (simp; done) | (simp; omega))))).mono ?_; rintro e w9 ⟨rfl, hb9⟩)) | (go_at_call 13; go_must (refine (HAG.out _ _ _ (HL8.out.later (by repeat (first | with_reducible exact Later.refl _ | with_reducible assumption | with_reducible refine Later.ofdrew ?_ | with_reducible refine Later.ofdrewN ?_ | with_reducible refine Later.setCell ?_ ?_ _ | with_reducible refine Later.alloc ?_ _ | with_reducible refine Later.drewN ?_ _ | with_reducible refine Later.drew ?_ | (with_reducible refine Later.trans ?_ (by assumption)) | (simp only [World.size_setCell, World.size_alloc, World.heap_drewN]; omega) | (simp; done) | (simp; omega)))) (HN8.out.later (by repeat (first | with_reducible exact Later.refl _ | with_reducible assumption | with_reducible refine Later.ofdrew ?_ | with_reducible refine Later.ofdrewN ?_ | with_reducible refine Later.setCell ?_ ?_ _ | with_reducible refine Later.alloc ?_ _ | with_reducible refine Later.drewN ?_ _ | with_reducible refine Later.drew ?_ | (with_reducible refine Later.trans ?_ (by assumption)) | (simp only [World.size_setCell, World.size_alloc, World.heap_drewN]; omega) | (simp; done) | (simp; omega))))).mono ?_; rintro e w10 ⟨rfl, hb10⟩)))
  go_ret
  exact ⟨rfl, by repeat (first | with_reducible exact Later.refl _ | with_reducible assumption | with_reducible refine Later.ofdrew ?_ | with_reducible refine Later.ofdrewN ?_ | with_reducible refine Later.setCell ?_ ?_ _ | with_reducible refine Later.alloc ?_ _ | with_reducible refine Later.drewN ?_ _ | with_reducible refine Later.drew ?_ | (with_reducible refine Later.trans ?_ (by assumption)) | (simp only [World.size_setCell, World.size_alloc, World.heap_drewN]; omega) | (simp; done) | (simp; omega))⟩
end Go.Proofs.YtpblfheeeifjcaaDoor
