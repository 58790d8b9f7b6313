/- term.Of: the ways ahead of the loop -/
import Derived.Test.YtkjabiabeemfhaaGreatDoorZ8
import Derived.Test.YtkjabiabeemfhaaGreatDoorZ2
import Derived.Test.YtkjabiabeemfhaaGreatDoorZ3
import Derived.Deep.DeepCutAuto
import Derived.Deep.LoopGhost
import Derived.Test.YtkjabiabeemfhaaGreatDoorZ7
import Derived.WalkMore
set_option linter.all false
set_option linter.all false
section
namespace Go.Proofs.YtkjabiabeemfhaaGreatDoor
open Go.RowKit
set_option maxRecDepth 100000
attribute [local go_sem] Oper.semAt_some
def dm (l : List Tm) (pre : List (Fin l.length)) : Nat := pre.foldl (fun d i => max d (l[i]).depth) 0
theorem dm_snoc (l : List Tm) (pre : List (Fin l.length)) (i : Fin l.length) : dm l (pre ++ [i]) = max (dm l pre) (l[i]).depth := by simp [dm]
theorem dm_all (x : Nd) (l : List Tm) : dm l (List.finRange l.length) + 1 = (Tm.node x l).depth := by
 have h1 : ∀ (l : List Tm), Tm.depth.depths l = l.foldr (fun t d => max t.depth d) 0 := by
  intro l
  induction l with
  | nil => rfl
  | cons t r ih => simp [Tm.depth.depths, ih]
 have h2 : dm l (List.finRange l.length) = ((List.finRange l.length).map (fun i => (l[i]).depth)).foldl max 0 := by rw [List.foldl_map]; rfl
 have h3 : (List.finRange l.length).map (fun i => (l[i]).depth) = l.map Tm.depth := by
  apply List.ext_getElem <;> simp
 have h4 : ∀ (r : List Nat) (a : Nat), r.foldl max a = max a (r.foldr max 0) := by
  intro r
  induction r with
  | nil => intro a; simp
  | cons b r ih => intro a; rw [List.foldl_cons, ih, List.foldr_cons]; omega
 have h5 : (Tm.node x l).depth = Tm.depth.depths l + 1 := rfl
 rw [h2, h3, h4, h5, h1, List.foldr_map]; omega
set_option maxHeartbeats 2000000 in
theorem deep_any (ts : List Nd) (hlen : ts.length ≤ 100000) : ∀ (T : Tm) (k : Nat) (v : Value) (w : World), TmAt ts k T → Shapes w → IsNodes w v ts →
  Calls Tryz.prog 123 #[v, .int .i64 k] w fun e w' => e = .returned (.int .i64 (T.depth : Int)) ∧ Later w w' := by
 intro T
 induction T using Tm.ind with
 | h x l ih =>
  intro k v w hT hS hN
  obtain ⟨p, cp, rfl⟩ := hN.form
  have HK := Lib.hid (fun W => kids_make p ts.length cp (k : Int) W)
  have hST := Lib.hid hS
  have hNT := Lib.hid hN
  have HT := Lib.hid hT
  have HIH := Lib.hid (fun (i : Fin l.length) (W : World) (hl : Later w W) => ih l[i] (List.getElem_mem _) (placeN k l i.1) (.slice p ts.length cp) W (placeN_at hT i.2) (hS.later hl) (hN.later hl))
  clear ih hS hN hT
  refine callsIn_wide.1 (callsIn_of_wp_marks (n := 9) Tryz.func123 rfl trivial ?_ rfl)
  simp only [Tryz.ntmps123, List.size_toArray, List.length_cons, List.length_nil, Nat.reduceAdd, Nat.reduceSub, Array.replicate_succ, Array.replicate_zero, List.push_toArray, List.append_toArray, List.nil_append, List.cons_append]
  gi_wp2_with ((first | (refine ⟨trivial, ?_⟩; gi_at_call 120) | (refine ⟨trivial, fun hh => (by cases hh), ?_⟩; gi_at_call 120)); go_must (refine (callsIn_wide.2 (HK.out _)).mono ?_; rintro e w1 ⟨rfl, rfl⟩))
  have hO := Lib.hid (Own.four (Later.refl ((((w.alloc (.cells #[.slice p ts.length cp] 22)).alloc (.cells #[.int .i64 0] 3)).alloc (.cells #[.slice p ts.length cp] 22)).alloc (.cells #[.int .i64 k] 3))))
  have hL := Lib.hid (((((Later.refl w).alloc (.cells #[.slice p ts.length cp] 22)).alloc (.cells #[.int .i64 0] 3)).alloc (.cells #[.slice p ts.length cp] 22)).alloc (.cells #[.int .i64 k] 3))
  obtain ⟨W0, hW0⟩ : ∃ W0, ((((w.alloc (.cells #[.slice p ts.length cp] 22)).alloc (.cells #[.int .i64 0] 3)).alloc (.cells #[.slice p ts.length cp] 22)).alloc (.cells #[.int .i64 k] 3)) = W0 := ⟨_, rfl⟩
  rw [hW0] at hO hL ⊢
  clear hW0
  obtain ⟨⟨z0, c0, -⟩, ⟨z1, c1, f1⟩, ⟨z2, c2, -⟩, ⟨z3, c3, -⟩, -⟩ := hO.out
  clear hO
  refine wpIn_rangeFunc_ownF rfl (by omega) (gf := 166) (lb := #[.pointer (some ⟨w.heap.size + 1 + 1 + 1, 0, none⟩), .pointer (some ⟨w.heap.size + 1 + 1, 0, none⟩)]) rfl trivial (enters_of Tryz.func166 (by kernel_rfl) rfl)
   (kids_stops ts hlen k x l HT.out 8 (w.heap.size + 1 + 1) (w.heap.size + 1 + 1 + 1) (.slice p ts.length cp) w W0 hST.out hNT.out hL.out (c2 0) (c3 0)) kb_t (kb_b (Below.size hL.out) (by simp; omega)) (Below.refl _ _) (fun _ => rfl)
   (fun pre W => (W.cell? ⟨w.heap.size + 1, 0, none⟩ = some (.int .i64 (dm l pre : Int)) ∧ W.frozen? ⟨w.heap.size + 1, 0, none⟩ = false ∧ W.cell? ⟨w.heap.size, 0, none⟩ = some (.slice p ts.length cp) ∧ W.cell? ⟨w.heap.size + 1 + 1, 0, none⟩ = some (.slice p ts.length cp)) ∧ Below w.heap.size w W)
   (fun _ _ _ => False)
   (OwnFrom.and (Own.from (fun s A B row hs hg hr => ⟨cell_kept hs.1 hg hr, (frozen_kept hs.1 hg hr).trans hs.2.1, cell_kept hs.2.2.1 hg hr, cell_kept hs.2.2.2 hg hr⟩) _) (ownFrom_below (Nat.le_refl _) (Below.size hL.out)))
   (fun _ _ _ _ _ hs _ _ => hs)
   ⟨⟨c1 0, f1 0 (by simp), c0 0, c2 0⟩, hL.out⟩
   (fun i => { tmps := #[.slice p ts.length cp, .int .i64 k, .pointer (some ⟨w.heap.size, 0, none⟩), undef, .int .i64 0, .pointer (some ⟨w.heap.size + 1, 0, none⟩), undef, .int .i64 (placeN k l i.1 : Int), .slice p ts.length cp, .int .i64 k, .func (.func 166) #[] #[.pointer (some ⟨w.heap.size + 1 + 1 + 1, 0, none⟩), .pointer (some ⟨w.heap.size + 1 + 1, 0, none⟩)], .int .i64 (i.1 : Int), .int .i64 (placeN k l i.1 : Int), undef, undef, undef, undef, undef, undef, undef], defers := [] }) ?assign ?body ?done ?stop
  case assign =>
   intro ll i W K hK
   gi_wp2
   exact hK
  case body =>
   rintro ll pre i W ⟨⟨hc, hf, ht, hu⟩, hB⟩ _
   have HI := Lib.hid (HIH.out i)
   clear HIH
   have hBl : Later w W := hB
   have hz1 := World.block_lt_of_cell? _ _ hc
   have hz0 := World.block_lt_of_cell? _ _ ht
   have hz2 := World.block_lt_of_cell? _ _ hu
   have hsz := Below.size hB
   have HS := Lib.hid (dm_snoc l pre i)
   clear hB c0 c1 c2 c3 f1 z0 z1 z2 z3 HT HK hST hNT
   gi_wp2
   refine wpIn_region_plan 5 (.one [0, 1, 2] 3 (.one [] 4 (.one [] 5 (.done [])))) (by kernel_rfl) (by kernel_rfl) (by rintro ⟨_, _, h⟩; exact h) (fun _ _ d _ _ h => by cases d <;> exact h) ?_
   repeat' (first
    | ((first | refine plan_done (fun K hK => ?_) | refine plan_one (by rfl) (fun K hK => ?_)); (first | (simp only [zq9]; repeat (go_big_quiet_step (fail))) | simp only [pick_nil]); refine wpQuiet_nil (hK _ ?_); clear hK K)
    | ((with_reducible refine at_list ?_); go_wp2_with ((go_at_call 123; go_must (refine (HI.out _ (by repeat (first | with_reducible (first | exact zq1 _ | assumption | refine zq2 ?_ | refine zq4 ?_ ?_ _ | refine zq5 ?_ _ | refine zq6 ?_ _ | refine zq7 ?_ | refine zq8 ?_ (by assumption)) | (simp only [zq10]; omega) | (simp; done) | (simp; omega)))).mono ?_; rintro e w2 ⟨rfl, hb2⟩; replace hb2 := Later.undrew hb2; have g2 := ((bcell hb2).1 _ _ hz1).trans hc; have f2 := ((bcell hb2).2 _ _ hz1).trans hf; have t2 := ((bcell hb2).1 _ _ hz0).trans ht; have u2 := ((bcell hb2).1 _ _ hz2).trans hu))); first | refine behind_store (t := 5) (by decide) ?_ | refine behind (by with_reducible repeat (first | exact zq1 _ | assumption | refine zq2 ?_ | refine zq5 ?_ _ | refine zq6 ?_ _ | refine zq7 ?_ | refine zq8 ?_ (by assumption))) ?_))
   have hm : (max (dm l pre : Int) (l[i].depth : Int)) = ((dm l (pre ++ [i]) : Nat) : Int) := by rw [HS.out]; omega
   refine ⟨(keepsOthers_later hb2).trans (KeepsOthers.setCell _ _ _), ⟨(Below.mono hb2 hsz).setCell (p := ⟨w.heap.size + 1, 0, none⟩) (by show w.heap.size ≤ w.heap.size + 1; omega) _, ?_⟩, ⟨?_, ?_, ?_, ?_⟩, (below_later hBl hsz hb2).setCell (p := ⟨w.heap.size + 1, 0, none⟩) (by show w.heap.size ≤ w.heap.size + 1; omega) _⟩
   ·intro b hb j
    obtain rfl : b = w.heap.size + 1 + 1 := by simpa using hb
    exact (cell_other (by omega) _).trans ((bcell hb2).1 _ _ hz2)
   ·rw [← hm]; exact World.cell?_setCell_same' _ _ _ (by rw [g2]; rfl)
   ·rw [World.frozen?_setCell]; exact f2
   ·exact (cell_other (by omega) _).trans t2
   ·exact (cell_other (by omega) _).trans u2
  case done =>
   rintro D ys W hD rfl ⟨⟨hc, hf, ht, hu⟩, hB⟩ hK
   have hdl := dm_all x l
   have hdz := (Tm.node x l).depth_size
   have hle := HT.out.le
   obtain ⟨d, hd⟩ : ∃ d, dm l (List.finRange l.length) = d := ⟨_, rfl⟩
   rw [hd] at hc hdl
   have hdb : d ≤ 100000 := by omega
   have HD := Lib.hid hdl
   clear hdl hdz hle hd HT HIH HK hST hNT c0 c1 c2 c3 f1 z0 z1 z2 z3
   gi_wp2
   refine ⟨by simp, .inl ⟨_, _, rfl, run_takeDeferred hK, ?_⟩⟩
   exact ⟨_, results_tmp rfl _ _ _, by rw [← HD.out]; rfl, Below.trans hB (belowK_b (w := W0) (Below.size hL.out) W D _ _ hD hK rfl rfl)⟩
  case stop =>
   rintro D c pre W _ _ h _
   exact h.elim
end Go.Proofs.YtkjabiabeemfhaaGreatDoor
end
section
namespace Go.Proofs.YtkjabiabeemfhaaGreatDoor
open Go.RowKit
set_option maxRecDepth 100000
theorem own_set_row {w : World} {b k : Nat} {xs : List Value} {x : Value} (h : Own w [(b, xs.toArray)]) (hk : k < xs.length) : Own (w.setCell ⟨b, k, none⟩ x) [(b, (xs.set k x).toArray)] :=
 Own.cons (by simpa using h.1.1) (fun i => by rw [set_own h.1.2.1 x (by simpa using hk) i]; simp) (fun i hi => set_frozen (n := xs.length) (fun i hi => h.1.2.2 i (by simpa using hi)) x i (by simpa using hi)) trivial
def placesI (k : Nat) (l : List Tm) (j : Nat) : List Int := (List.range j).map (fun i => (placeN k l i : Int))
theorem placesI_length (k : Nat) (l : List Tm) (j : Nat) : (placesI k l j).length = j := by simp [placesI]
namespace Tm
def top : Tm → Bool
 | node x l => decide (∀ j (h : j < l.length), makesI (l[j]).root.op = belI x.op j)
def sorted : Tm → Bool
 | node x l => top (node x l) && sorteds l
where sorteds : List Tm → Bool
 | [] => true
 | t :: r => sorted t && sorteds r
theorem sorteds_iff (l : List Tm) : sorted.sorteds l = true ↔ ∀ t ∈ l, t.sorted = true := by
 induction l with
 | nil => simp [sorted.sorteds]
 | cons t r ih => simp [sorted.sorteds, ih]
end Tm
theorem sorted_at {ts : List Nd} : ∀ {t : Tm} {k j : Nat} {s : Tm}, TmAt ts k t → t.sorted = true → k ≤ j → j < k + t.size → TmAt ts j s → s.top = true := by
 intro t
 induction t using Tm.ind with
 | h x l ih =>
  intro k j s h hs h1 h2 h3
  unfold Tm.sorted at hs
  simp only [Bool.and_eq_true] at hs
  by_cases hj : j = k
  ·subst hj; rw [← TmAt.unique h h3]; exact hs.1
  ·obtain ⟨_, h4, _, _⟩ := h.root
   have key : ∀ (r : List Tm) (i : Nat), (∀ t ∈ r, ∀ {k j : Nat} {s : Tm}, TmAt ts k t → t.sorted = true → k ≤ j → j < k + t.size → TmAt ts j s → s.top = true) → Tm.sorted.sorteds r = true → TmsAt ts i r → i ≤ j → j < i + Tm.size.sizes r → s.top = true := by
    intro r
    induction r with
    | nil => intro i _ _ _ h5 h6; simp [Tm.size.sizes] at h6; omega
    | cons t r ihr =>
     intro i hr hso hi h5 h6
     obtain ⟨h7, h8⟩ := hi.cons
     simp only [Tm.size.sizes] at h6
     simp only [Tm.sorted.sorteds, Bool.and_eq_true] at hso
     by_cases hlt : j < i + t.size
     ·exact hr t (by simp) h7 hso.1 h5 hlt h3
     ·exact ihr _ (fun s hs => hr s (by simp [hs])) hso.2 h8 (by omega) (by omega)
   have h5 : (Tm.node x l).size = 1 + Tm.size.sizes l := rfl
   rw [h5] at h2
   exact key l (k + 1) ih hs.2 h4 (by omega) (by omega)
theorem unsorted_at {ts : List Nd} : ∀ {t : Tm} {k : Nat}, TmAt ts k t → t.sorted = false → ∃ j s, k ≤ j ∧ j < k + t.size ∧ TmAt ts j s ∧ s.top = false := by
 intro t
 induction t using Tm.ind with
 | h x l ih =>
  intro k h hs
  unfold Tm.sorted at hs
  simp only [Bool.and_eq_false_iff] at hs
  have hp := (Tm.node x l).size_pos
  rcases hs with hs | hs
  ·exact ⟨k, _, Nat.le_refl _, by omega, h, hs⟩
  ·obtain ⟨_, h4, _, _⟩ := h.root
   have key : ∀ (r : List Tm) (i : Nat), (∀ t ∈ r, ∀ {k : Nat}, TmAt ts k t → t.sorted = false → ∃ j s, k ≤ j ∧ j < k + t.size ∧ TmAt ts j s ∧ s.top = false) → Tm.sorted.sorteds r = false → TmsAt ts i r → ∃ j s, i ≤ j ∧ j < i + Tm.size.sizes r ∧ TmAt ts j s ∧ s.top = false := by
    intro r
    induction r with
    | nil => intro i _ h5 _; simp [Tm.sorted.sorteds] at h5
    | cons t r ihr =>
     intro i hr hso hi
     obtain ⟨h7, h8⟩ := hi.cons
     simp only [Tm.size.sizes]
     simp only [Tm.sorted.sorteds, Bool.and_eq_false_iff] at hso
     rcases hso with hso | hso
     ·obtain ⟨j, s, a1, a2, a3, a4⟩ := hr t (by simp) h7 hso
      exact ⟨j, s, a1, by omega, a3, a4⟩
     ·obtain ⟨j, s, a1, a2, a3, a4⟩ := ihr _ (fun s hs => hr s (by simp [hs])) hso h8
      exact ⟨j, s, by omega, by omega, a3, a4⟩
   have h5 : (Tm.node x l).size = 1 + Tm.size.sizes l := rfl
   obtain ⟨j, s, a1, a2, a3, a4⟩ := key l (k + 1) ih hs h4
   exact ⟨j, s, by omega, by omega, a3, a4⟩
open Classical in
noncomputable def treeOf (ts : List Nd) : Option Tm := if h : ∃ T : Tm, T.ok ∧ T.flat = ts then some h.choose else none
theorem flat_inj {s t : Tm} (hs : s.ok) (ht : t.ok) (h : s.flat = t.flat) : s = t := by
 have h1 := TmAt.self s hs
 rw [h] at h1
 exact TmAt.unique h1 (TmAt.self t ht)
theorem treeOf_iff {ts : List Nd} {T : Tm} : treeOf ts = some T ↔ T.ok ∧ T.flat = ts := by
 unfold treeOf
 constructor
 ·intro h
  split at h
  ·rename_i hh; cases h; exact hh.choose_spec
  ·cases h
 ·intro h
  rw [dif_pos ⟨T, h⟩]
  have hc := (⟨T, h⟩ : ∃ T : Tm, T.ok ∧ T.flat = ts).choose_spec
  exact congrArg some (flat_inj hc.1 h.1 (hc.2.trans h.2.symm))
theorem treeOf_at {ts : List Nd} {T : Tm} (h : treeOf ts = some T) : TmAt ts 0 T ∧ T.size = ts.length := by
 obtain ⟨h1, rfl⟩ := treeOf_iff.1 h
 exact ⟨TmAt.self T h1, T.size_flat.symm⟩
theorem treeOf_none {ts : List Nd} (h : treeOf ts = none) (r : Nat) (he : endN ts 0 = some r) : r ≠ ts.length := by
 rintro rfl
 obtain ⟨t, ht, hr⟩ := tm_of_end (Nat.le_refl _) he
 have : treeOf ts = some t := treeOf_iff.2 ⟨ht.1, by
  obtain ⟨c, hc⟩ := ht.2
  rw [List.drop_zero] at hc
  have hl := congrArg List.length hc
  rw [List.length_append, Tm.size_flat] at hl
  have : c = [] := List.eq_nil_of_length_eq_zero (by omega)
  rw [this, List.append_nil] at hc
  exact hc⟩
 rw [h] at this; cases this
noncomputable def ofE (ts : List Nd) : Int :=
 if 64 < ts.length then 15 else match treeOf ts with
  | none => 13
  | some T => if ts.all fieldsB = true then (if T.sorted = true then (if T.depth ≤ 12 then 0 else 15) else 14) else 10
noncomputable def ofS (ts : List Nd) : Int := if ofE ts = 0 then (match treeOf ts with | none => 0 | some T => makesI T.root.op) else 0
set_option maxHeartbeats 400000 in
theorem off_any (x : Nd) (w : World) (hx : x.ok) :
  Calls Tryz.prog 118 #[x.val] w fun e w' => e = .returned (.bool (!fieldsB x)) ∧ Later w w' := by
 have HF := Lib.hid (fun W => fields_any x W hx)
 obtain ⟨r, hr⟩ : ∃ r, fieldsB x = r := ⟨_, rfl⟩
 rw [hr] at HF ⊢
 clear hr hx
 obtain ⟨op, a, b, n, d⟩ := x
 unfold Nd.val at *
 simp only at *
 go_enter Tryz.func118, Tryz.ntmps118
 go_wp2_with (go_at_call 119; go_must (refine (HF.out _).mono ?_; rintro e w1 ⟨rfl, hb1⟩))
 go_ret
 exact ⟨rfl, Later.trans (by repeat (first | with_reducible (first | exact zq1 _ | assumption | refine zq2 ?_ | refine zq4 ?_ ?_ _ | refine zq5 ?_ _ | refine zq6 ?_ _ | refine zq7 ?_ | refine zq8 ?_ (by assumption)) | (simp only [zq10]; omega) | (simp; done) | (simp; omega))) hb1⟩
set_option maxHeartbeats 1600000 in
theorem index_any (ts : List Nd) (hlen : ts.length ≤ 100000) (hok : ∀ x ∈ ts, x.ok) (v : Value) (w : World) (hN : IsNodes w v ts) :
  Calls Tryz.prog 163 #[v, .func (.func 118) #[] #[]] w fun e w' => (∃ r : Int, e = .returned (.int .i64 r) ∧ decide (0 ≤ r) = !ts.all fieldsB) ∧ Later w w' := by
 obtain ⟨p, cp, rfl⟩ := hN.form
 have HO := Lib.hid (fun (j : Nat) (h : j < ts.length) W => off_any ts[j] W (hok _ (List.getElem_mem _)))
 have HN := Lib.hid hN
 clear hok hN
 obtain ⟨L, hL⟩ : ∃ L, ts.length = L := ⟨_, rfl⟩
 rw [hL] at HN hlen ⊢
 have HL := Lib.hid hL
 clear hL
 go_enter Tryz.func163, Tryz.ntmps163
 go_wp2
 go_loopw [8] (fun s8 wr => ∃ j : Nat, j ≤ L ∧ s8 = .int .i64 j ∧ Hid (∀ i (h : i < ts.length), i < j → fieldsB ts[i] = true) ∧ Later w wr) (fun s8 _ => L - (intOf s8).toNat)
 case atStart => exact ⟨0, Nat.zero_le _, rfl, Lib.hid (fun i _ h => by omega), Later.refl _⟩
 case round =>
  obtain ⟨j, hj, rfl, hall, hlat⟩ := hrel
  by_cases hlt : j < L
  ·have hjl : j < ts.length := by rw [HL.out]; exact hlt
   obtain ⟨b, o, cp', hv, hb, hcap, g0, g1, g2, g3, g4⟩ := HN.out.full (i := j) hjl
   rw [HL.out] at hv
   cases hv
   have e0 := ((bcell hlat).1 _ _ hb).trans g0
   have e1 := ((bcell hlat).1 _ _ hb).trans g1
   have e2 := ((bcell hlat).1 _ _ hb).trans g2
   have e3 := ((bcell hlat).1 _ _ hb).trans g3
   have e4 := ((bcell hlat).1 _ _ hb).trans g4
   have HC := Lib.hid (HO.out j hjl)
   unfold Nd.val at HC
   clear g0 g1 g2 g3 g4
   cases hf : fieldsB ts[j] with
   | true =>
    have HA : Hid (∀ i (h : i < ts.length), i < j + 1 → fieldsB ts[i] = true) := Lib.hid (fun i h1 h2 => by
     by_cases h : i = j
     ·subst h; exact hf
     ·exact hall.out i h1 (by omega))
    rw [hf] at HC
    clear hf hall
    generalize (ts[j]).op = x0 at *
    generalize (ts[j]).a = x1 at *
    generalize (ts[j]).b = x2 at *
    generalize (ts[j]).n = x3 at *
    generalize (ts[j]).d = x4 at *
    go_wp2_with (go_at_call 118; go_must (refine (HC.out _).mono ?_; rintro e w3 ⟨rfl, hb3⟩))
    go_roundw
    case rel => exact ⟨j + 1, by omega, by go_num, HA, hlat.trans hb3⟩
    case measure => simp [intOf]; omega
   | false =>
    have HF : Hid (ts.all fieldsB = false) := Lib.hid (by rw [List.all_eq_false]; exact ⟨ts[j], List.getElem_mem _, by simp [hf]⟩)
    rw [hf] at HC
    clear hf hall
    generalize (ts[j]).op = x0 at *
    generalize (ts[j]).a = x1 at *
    generalize (ts[j]).b = x2 at *
    generalize (ts[j]).n = x3 at *
    generalize (ts[j]).d = x4 at *
    go_wp2_with (go_at_call 118; go_must (refine (HC.out _).mono ?_; rintro e w3 ⟨rfl, hb3⟩))
    go_ret
    exact ⟨⟨j, rfl, by rw [HF.out]; simp⟩, hlat.trans hb3⟩
  ·have HF : Hid (ts.all fieldsB = true) := Lib.hid (by
    rw [List.all_eq_true]
    intro x hx
    obtain ⟨i, hi, rfl⟩ := List.getElem_of_mem hx
    exact hall.out i hi (by rw [HL.out] at hi; omega))
   clear hall
   go_wp2
   go_ret
   exact ⟨⟨-1, rfl, by rw [HF.out]; simp⟩, hlat⟩
set_option maxHeartbeats 400000 in
theorem contains_any (ts : List Nd) (hlen : ts.length ≤ 100000) (hok : ∀ x ∈ ts, x.ok) (v : Value) (w : World) (hN : IsNodes w v ts) :
  Calls Tryz.prog 117 #[v, .func (.func 118) #[] #[]] w fun e w' => e = .returned (.bool (!ts.all fieldsB)) ∧ Later w w' := by
 have HC := Lib.hid (index_any ts hlen hok v w hN)
 obtain ⟨p, cp, rfl⟩ := hN.form
 obtain ⟨q, hq⟩ : ∃ q, (!ts.all fieldsB) = q := ⟨_, rfl⟩
 rw [hq] at HC ⊢
 clear hq hN hok
 go_enter Tryz.func117, Tryz.ntmps117
 go_wp2_with (go_at_call 163; go_must (refine HC.out.mono ?_; rintro e w1 ⟨⟨r, rfl, hr⟩, hb1⟩))
 go_ret
 exact ⟨rfl, hb1⟩
end Go.Proofs.YtkjabiabeemfhaaGreatDoor
end
section
namespace Go.Proofs.YtkjabiabeemfhaaGreatDoor
open Go.RowKit
set_option maxRecDepth 100000
theorem endI_len {ts : List Nd} (hne : ts.length ≠ 0) (h : treeOf ts = none) : (optI (endN ts 0) == (ts.length : Int)) = false := by
 cases he : endN ts 0 with
 | none => simp [optI]
 | some r => have := treeOf_none h r he; simp [optI]; omega
theorem endI_tree {ts : List Nd} {T : Tm} (h : treeOf ts = some T) : optI (endN ts 0) = (ts.length : Int) := by
 obtain ⟨h1, h2⟩ := treeOf_at h
 rw [h1.end_, ← h2]; simp [optI]
set_option maxHeartbeats 1600000 in
theorem of_great (ts : List Nd) (v : Value) (w : World) (hN : IsNodes w v ts) (hg : 64 < ts.length) (hlen : ts.length ≤ 100000) :
  Calls Tryz.prog 77 #[v] w fun e w' => e = .returned (.tuple #[.int .i64 0, .int .i64 15]) ∧ Later w w' := by
 obtain ⟨p, cp, rfl⟩ := hN.form
 clear hN
 generalize ts.length = L at *
 go_enter Tryz.func77, Tryz.ntmps77
 go_wp2
 go_step3
 go_wp2
 rw [Exit.noGoto_ret]
 go_ret2
 exact ⟨rfl, by repeat (first | with_reducible (first | exact zq1 _ | assumption | refine zq2 ?_ | refine zq4 ?_ ?_ _ | refine zq5 ?_ _ | refine zq6 ?_ _ | refine zq7 ?_ | refine zq8 ?_ (by assumption)) | (simp only [zq10]; omega) | (simp; done) | (simp; omega))⟩
set_option maxHeartbeats 1600000 in
theorem of_empty (w : World) (v : Value) (hN : IsNodes w v []) :
  Calls Tryz.prog 77 #[v] w fun e w' => e = .returned (.tuple #[.int .i64 0, .int .i64 13]) ∧ Later w w' := by
 obtain ⟨p, cp, rfl⟩ := hN.form
 clear hN
 simp only [List.length_nil]
 go_enter Tryz.func77, Tryz.ntmps77
 go_wp2
 go_step3
 go_wp2
 refine wp_region_plan 11 (.one [0] 1 (.two [2, 3, 4, 6] 5 (.one [] 7 (.done [8, 9, 10])) 7 (.one [] 5 (.done [8, 9, 10])))) (by kernel_rfl) (by kernel_rfl) (fun _ _ d _ _ h => by cases d <;> exact h) ?_
 repeat' (first
  | ((first | refine plan_done (fun K hK => ?_) | refine plan_one (by rfl) (fun K hK => ?_)); (first | (simp only [zq9]; repeat (go_big_quiet_step (fail))) | simp only [pick_nil]); refine wpQuiet_nil (hK _ ?_); clear hK K)
  | (refine plan_two (by rfl) (by rfl) (fun K hK => ?_); (first | (simp only [zq9]; repeat (go_big_quiet_step (fail))) | simp only [pick_nil]); refine wpQuiet_nil (hK _ ?_); clear hK K; refine ⟨?_, ?_⟩)
  | ((with_reducible refine at_list ?_); go_wp2_with (fail); first | refine behind_store (t := 11) (by decide) ?_ | refine behind (by with_reducible repeat (first | exact zq1 _ | assumption | refine zq2 ?_ | refine zq5 ?_ _ | refine zq6 ?_ _ | refine zq7 ?_ | refine zq8 ?_ (by assumption))) ?_))
 all_goals
  go_wp2
  rw [Exit.noGoto_ret]
  go_ret2
  exact ⟨rfl, by repeat (first | with_reducible (first | exact zq1 _ | assumption | refine zq2 ?_ | refine zq4 ?_ ?_ _ | refine zq5 ?_ _ | refine zq6 ?_ _ | refine zq7 ?_ | refine zq8 ?_ (by assumption)) | (simp only [zq10]; omega) | (simp; done) | (simp; omega))⟩
set_option maxHeartbeats 1600000 in
theorem of_form (ts : List Nd) (v : Value) (w : World) (hS : Shapes w) (hN : IsNodes w v ts) (hg : ts.length ≤ 64) (hne : ts.length ≠ 0) (h : treeOf ts = none) :
  Calls Tryz.prog 77 #[v] w fun e w' => e = .returned (.tuple #[.int .i64 0, .int .i64 13]) ∧ Later w w' := by
 have HE := Lib.hid (fun W (hl : Later w W) => end_any ts (by omega) _ 0 v W (Nat.le_refl _) (by omega) (hS.later hl) (hN.later hl))
 have hd := endI_len hne h
 obtain ⟨p, cp, rfl⟩ := hN.form
 clear hN hS h
 generalize optI (endN ts 0) = en at *
 generalize ts.length = L at *
 have h0 : ((L : Int) == 0) = false := by simp; omega
 go_enter Tryz.func77, Tryz.ntmps77
 go_wp2
 go_step3
 go_wp2
 refine wp_region_plan 11 (.one [0] 1 (.two [2, 3, 4, 6] 5 (.one [] 7 (.done [8, 9, 10])) 7 (.one [] 5 (.done [8, 9, 10])))) (by kernel_rfl) (by kernel_rfl) (fun _ _ d _ _ h => by cases d <;> exact h) ?_
 repeat' (first
  | ((first | refine plan_done (fun K hK => ?_) | refine plan_one (by rfl) (fun K hK => ?_)); (first | (simp only [zq9]; repeat (go_big_quiet_step (fail))) | simp only [pick_nil]); refine wpQuiet_nil (hK _ ?_); clear hK K)
  | (refine plan_two (by rfl) (by rfl) (fun K hK => ?_); (first | (simp only [zq9]; repeat (go_big_quiet_step (fail))) | simp only [pick_nil]); refine wpQuiet_nil (hK _ ?_); clear hK K; refine ⟨?_, ?_⟩)
  | ((with_reducible refine at_list ?_); go_wp2_with ((go_at_call 78; go_must (refine (HE.out _ (by repeat (first | with_reducible (first | exact zq1 _ | assumption | refine zq2 ?_ | refine zq4 ?_ ?_ _ | refine zq5 ?_ _ | refine zq6 ?_ _ | refine zq7 ?_ | refine zq8 ?_ (by assumption)) | (simp only [zq10]; omega) | (simp; done) | (simp; omega)))).mono ?_; rintro e w2 ⟨rfl, hb2⟩))); first | refine behind_store (t := 11) (by decide) ?_ | refine behind (by with_reducible repeat (first | exact zq1 _ | assumption | refine zq2 ?_ | refine zq5 ?_ _ | refine zq6 ?_ _ | refine zq7 ?_ | refine zq8 ?_ (by assumption))) ?_))
 all_goals
  go_wp2
  rw [Exit.noGoto_ret]
  go_ret2
  exact ⟨rfl, by repeat (first | with_reducible (first | exact zq1 _ | assumption | refine zq2 ?_ | refine zq4 ?_ ?_ _ | refine zq5 ?_ _ | refine zq6 ?_ _ | refine zq7 ?_ | refine zq8 ?_ (by assumption)) | (simp only [zq10]; omega) | (simp; done) | (simp; omega))⟩
set_option maxHeartbeats 1600000 in
theorem of_range (ts : List Nd) (T : Tm) (v : Value) (w : World) (hS : Shapes w) (hN : IsNodes w v ts) (hok : ∀ x ∈ ts, x.ok) (hg : ts.length ≤ 64) (h : treeOf ts = some T) (hf : ts.all fieldsB = false) :
  Calls Tryz.prog 77 #[v] w fun e w' => e = .returned (.tuple #[.int .i64 0, .int .i64 10]) ∧ Later w w' := by
 have HE := Lib.hid (fun W (hl : Later w W) => end_any ts (by omega) _ 0 v W (Nat.le_refl _) (by omega) (hS.later hl) (hN.later hl))
 rw [endI_tree h] at HE
 have HC := Lib.hid (fun W (hl : Later w W) => contains_any ts (by omega) hok v W (hN.later hl))
 rw [hf] at HC
 have hne : ts.length ≠ 0 := by have := (treeOf_at h).2; have := T.size_pos; omega
 obtain ⟨p, cp, rfl⟩ := hN.form
 clear hN hS h hf hok
 generalize ts.length = L at *
 have h0 : ((L : Int) == 0) = false := by simp; omega
 go_enter Tryz.func77, Tryz.ntmps77
 go_wp2
 go_step3
 go_wp2
 go_cut [13] (fun s13 wx => s13 = .bool false ∧ Own wx [(w.heap.size, #[.slice p L cp])] ∧ Later w wx)
 case first =>
  have hO := Lib.hid (own_alloc w #[.slice p L cp] 22)
  refine wp_region_plan 11 (.one [0] 1 (.two [2, 3, 4, 6] 5 (.one [] 7 (.done [8, 9, 10])) 7 (.one [] 5 (.done [8, 9, 10])))) (by kernel_rfl) (by kernel_rfl) (fun _ _ d _ _ h => by cases d <;> exact h) ?_
  repeat' (first
   | ((first | refine plan_done (fun K hK => ?_) | refine plan_one (by rfl) (fun K hK => ?_)); (first | (simp only [zq9]; repeat (go_big_quiet_step (fail))) | simp only [pick_nil]); refine wpQuiet_nil (hK _ ?_); clear hK K)
   | (refine plan_two (by rfl) (by rfl) (fun K hK => ?_); (first | (simp only [zq9]; repeat (go_big_quiet_step (fail))) | simp only [pick_nil]); refine wpQuiet_nil (hK _ ?_); clear hK K; refine ⟨?_, ?_⟩)
   | ((with_reducible refine at_list ?_); go_wp2_with ((go_at_call 78; go_must (refine (HE.out _ (by repeat (first | with_reducible (first | exact zq1 _ | assumption | refine zq2 ?_ | refine zq4 ?_ ?_ _ | refine zq5 ?_ _ | refine zq6 ?_ _ | refine zq7 ?_ | refine zq8 ?_ (by assumption)) | (simp only [zq10]; omega) | (simp; done) | (simp; omega)))).mono ?_; rintro e w2 ⟨rfl, hb2⟩))); first | refine behind_store (t := 11) (by decide) ?_ | refine behind (by with_reducible repeat (first | exact zq1 _ | assumption | refine zq2 ?_ | refine zq5 ?_ _ | refine zq6 ?_ _ | refine zq7 ?_ | refine zq8 ?_ (by assumption))) ?_))
  all_goals
   go_wp2_with fail
   go_meet
   exact ⟨rfl, hO.out.later (by repeat (first | with_reducible (first | exact zq1 _ | assumption | refine zq2 ?_ | refine zq4 ?_ ?_ _ | refine zq5 ?_ _ | refine zq6 ?_ _ | refine zq7 ?_ | refine zq8 ?_ (by assumption)) | (simp only [zq10]; omega) | (simp; done) | (simp; omega))), by repeat (first | with_reducible (first | exact zq1 _ | assumption | refine zq2 ?_ | refine zq4 ?_ ?_ _ | refine zq5 ?_ _ | refine zq6 ?_ _ | refine zq7 ?_ | refine zq8 ?_ (by assumption)) | (simp only [zq10]; omega) | (simp; done) | (simp; omega))⟩
 case rest =>
  obtain ⟨rfl, hO, hl⟩ := hcut
  obtain ⟨z0, c0, -⟩ := own_get hO
  have g0 := c0 0
  simp only [List.getElem?_toArray, List.getElem?_cons_zero] at g0
  clear c0 hO
  go_wp2_with (go_at_call 117; go_must (refine (HC.out _ hl).mono ?_; rintro e w3 ⟨rfl, hb3⟩))
  rw [Exit.noGoto_ret]
  go_ret2
  exact ⟨rfl, hl.trans hb3⟩
end Go.Proofs.YtkjabiabeemfhaaGreatDoor
end
