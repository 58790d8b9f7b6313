/- facts made of facts that are told, however many -/
import Derived.Test.YtkjabiabeemfhaaGreatDoorW31
import Derived.Test.YtkjabiabeemfhaaGreatDoorW29
import Derived.Test.YtkjabiabeemfhaaGreatDoorW26
import Derived.Test.YtkjabiabeemfhaaGreatDoorW22
import Derived.Test.YtkjabiabeemfhaaGreatDoorW21
import Derived.Test.YtkjabiabeemfhaaGreatDoorW18
import Derived.Test.YtkjabiabeemfhaaGreatDoorW17
import Derived.Test.YtkjabiabeemfhaaGreatDoorW15
import Derived.Test.YtkjabiabeemfhaaGreatDoorW13
import Derived.Test.YtkjabiabeemfhaaGreatDoorY1
import Derived.Test.YtkjabiabeemfhaaGreatDoorW14
import Derived.Test.YtkjabiabeemfhaaGreatDoorW3
import Derived.Test.YtkjabiabeemfhaaGreatDoorW2
import Derived.Test.YtkjabiabeemfhaaGreatDoorRows
import Derived.Test.YtkjabiabeemfhaaGreatDoorW1
import Derived.Shelf.Small.Bits
import Derived.Shelf.Small.Wraps
import Derived.Shelf.Strconv.Itoa0
import Derived.Shelf.Bits.Mul64
import Derived.Ground.Names2Prog
import Derived.Shelf.Slices.Clone
import Derived.Shelf.Slices.SearchI
import Derived.Ground.SlgnProg
import Derived.Shelf.SlicesE.Clone
import Derived.Shelf.SlLaysF0
import Derived.Ground.SlsfProg
import Derived.Test.YtkjabiabeemfhaaGreatDoorProg
import Derived.WalkKit
import Derived.Lib.BitFns
import Derived.Lib.ItoaNum
import Derived.WalkSpells
import Derived.WalkSmall
import Derived.WalkLawsBesides
import Derived.BigQuiet
import Derived.Deep.RegionHeld3
import Derived.Deep.DeepCutAuto
import Derived.Deep.CutBlock
import Derived.Lib.Hide
import Derived.Deep.Quiet
import Derived.Below
import Derived.OrdersHeld
import Derived.Shelf.Spec.BitsCarry
import Derived.Laws.AppendOwnNone
import Derived.OwnWalk
import Derived.Great.BuildSlice
import Derived.ArgAppend
import Derived.Shelf.SlSortCmp.Insertion
import Derived.Laws.IdiomCopy
import Derived.Deep.Upon
import Derived.Shelf.GgSortFunc.InsertionK
import Derived.Test.YtkjabiabeemfhaaGreatDoorW16
import Derived.Test.YtkjabiabeemfhaaGreatDoorW12
import Derived.Test.YtkjabiabeemfhaaGreatDoorW11
import Derived.WalkMore
import Derived.Test.YtkjabiabeemfhaaGreatDoorW19
import Derived.Test.YtkjabiabeemfhaaGreatDoorW9
import Derived.Test.YtkjabiabeemfhaaGreatDoorW8
import Derived.RangeFuncNested
import Derived.RangeFuncBound
import Derived.RangeFuncCalls
import Derived.RangeFuncLeaves
import Derived.Shelf.Abstract
import Derived.Shelf.RegionOpen
import Derived.OwnWalkIn
import Derived.TacticsInMore
import Derived.LoopNIn
import Derived.LoopIn
import Derived.Test.YtkjabiabeemfhaaGreatDoorW4
import Derived.Test.YtkjabiabeemfhaaGreatDoorW7
import Derived.Test.YtkjabiabeemfhaaGreatDoorW5
import Derived.Test.YtkjabiabeemfhaaGreatDoorW6
import Derived.Deep.LoopGhost
import Derived.RangeFuncBox
import Derived.Test.YtkjabiabeemfhaaGreatDoorW10
import Derived.DeepKeys4
import Derived.Maps.Own
import Derived.Lib.Strings
import Derived.Test.YtkjabiabeemfhaaGreatDoorW20
import Derived.Shelf.SlSortCmp.NoneTotal
import Derived.Shelf.SlSortCmp.WholeK
import Derived.Laws.IdiomRangeMap
import Derived.Test.YtkjabiabeemfhaaGreatDoorW23
import Derived.Test.YtkjabiabeemfhaaGreatDoorW24
import Derived.Test.YtkjabiabeemfhaaGreatDoorW25
import Derived.Test.YtkjabiabeemfhaaGreatDoorW27
import Derived.Test.YtkjabiabeemfhaaGreatDoorW28
import Derived.Lib.SliceRun
import Derived.Test.YtkjabiabeemfhaaGreatDoorW30
import Derived.Shelf.SlMaps.Clone
set_option linter.all false
set_option linter.all false
section
/- step: a run and facts are copied -/
namespace Go.Proofs.YtkjabiabeemfhaaGreatDoor
open Go.RowKit
set_option maxRecDepth 100000

/-- A row of its own, made between two worlds. -/
def Mid (w W : World) (v : Value) : Prop := ∀ k, v.ownBlock = some k → w.heap.size ≤ k ∧ k < W.heap.size
theorem Mid.of {w a b W : World} {v : Value} {sz n : Nat} {xs : List Value} (h : B.Que a.heap.size sz b v n xs) (h1 : w.heap.size ≤ a.heap.size) (h2 : b.heap.size ≤ W.heap.size) : Mid w W v := fun k e => by
  have := h.lo k e
  omega
set_option maxHeartbeats 3200000 in
/-- A copy of a run. -/
theorem rcopy_any {w : World} {b : Nat} {ts : List Nd} {tv lv wv : Value} {s : RunS} (h : RunAt w b ts tv lv wv s) (h1 : ts.length ≤ 100000) (h2 : s.L.length ≤ 100000) (h3 : s.W.length ≤ 100000) :
    Calls Tryz.prog 44 #[.pointer (some ⟨b, 0, none⟩)] w fun e w' => ∃ nb tv' lv' wv', e = .returned (.pointer (some ⟨nb, 0, none⟩)) ∧ RunAt w' nb ts tv' lv' wv' s ∧ (∀ k, RunB nb tv' lv' wv' k → w.heap.size ≤ k ∧ k < w'.heap.size) ∧ Later w w' := by
  suffices hm : Calls Tryz.prog 44 #[.pointer (some ⟨b, 0, none⟩)] w fun e w' => ∃ (W : World) (tv' lv' wv' : Value), Later w W ∧ (IsNodes W tv' ts ∧ Mid w W tv') ∧ (IsHeld W lv' s.L ∧ Mid w W lv') ∧ (IsWaits W wv' s.W ∧ Mid w W wv') ∧ e = .returned (.pointer (some ⟨W.heap.size, 0, none⟩)) ∧ w' = W.alloc (.cells #[tv', lv', .int .i64 s.day, wv'] 170) from
    hm.mono (fun e w' ⟨W, tv', lv', wv', hl, ⟨n1, q1⟩, ⟨n2, q2⟩, ⟨n3, q3⟩, he, hw⟩ => by
      subst hw
      have hO := own_alloc W #[tv', lv', .int .i64 s.day, wv'] 170
      have hla := (Later.refl W).alloc (.cells #[tv', lv', .int .i64 s.day, wv'] 170)
      have hs := hl.size
      have b1 : ∀ k, tv'.ownBlock = some k → w.heap.size ≤ k ∧ k < W.heap.size := q1
      have b2 : ∀ k, lv'.ownBlock = some k → w.heap.size ≤ k ∧ k < W.heap.size := q2
      have b3 : ∀ k, wv'.ownBlock = some k → w.heap.size ≤ k ∧ k < W.heap.size := q3
      refine ⟨W.heap.size, tv', lv', wv', he, ⟨hO, n1.later hla, n2.later hla, n3.later hla, fun e => ?_, fun e => ?_, fun e => ?_⟩, fun k hk => ?_, hl.trans hla⟩
      · have := (b1 _ e).2; omega
      · have := (b2 _ e).2; omega
      · have := (b3 _ e).2; omega
      · rw [World.size_alloc]
        rcases hk with rfl | hk | hk | hk
        · omega
        · have := b1 _ hk; omega
        · have := b2 _ hk; omega
        · have := b3 _ hk; omega)
  have HC1 := Lib.hid (fun W (hl : Later w W) => clone_nodes ts h1 tv W (h.nodes.later hl))
  have HC2 := Lib.hid (fun W (hl : Later w W) => clone_held s.L h2 lv W (h.held.later hl))
  have HC3 := Lib.hid (fun W (hl : Later w W) => clone_waits s.W h3 wv W (h.waits.later hl))
  obtain ⟨⟨z, c, -⟩, -⟩ := id h.own
  obtain ⟨p1, k1, rfl⟩ := h.nodes.form
  obtain ⟨p2, k2, rfl⟩ := h.held.form
  obtain ⟨p3, k3, rfl⟩ := h.waits.form
  obtain ⟨L, hL⟩ : ∃ n, s.L.length = n := ⟨_, rfl⟩
  obtain ⟨M, hM⟩ : ∃ n, s.W.length = n := ⟨_, rfl⟩
  obtain ⟨K, hK⟩ : ∃ n, ts.length = n := ⟨_, rfl⟩
  obtain ⟨d, hd⟩ : ∃ d, s.day = d := ⟨_, rfl⟩
  obtain ⟨XL, hXL⟩ : ∃ x, s.L = x := ⟨_, rfl⟩
  obtain ⟨XW, hXW⟩ : ∃ x, s.W = x := ⟨_, rfl⟩
  rw [hL, hM, hK, hd] at c
  have c0 : w.cell? ⟨b, 0, none⟩ = some (.slice p1 K k1) := c 0
  have c1 : w.cell? ⟨b, 1, none⟩ = some (.slice p2 L k2) := c 1
  have c2 : w.cell? ⟨b, 2, none⟩ = some (.int .i64 d) := c 2
  have c3 : w.cell? ⟨b, 3, none⟩ = some (.slice p3 M k3) := c 3
  rw [hd]
  rw [hXL] at hL
  rw [hXW] at hM
  rw [hXL, hXW]
  rw [hXL] at HC2
  rw [hXW] at HC3
  rw [hK] at HC1
  rw [hL] at HC2
  rw [hM] at HC3
  have HF1 := Lib.hid (fun W (v : Value) (hn : IsNodes W v ts) => show ∃ p c, v = .slice p K c from by rw [← hK]; exact hn.form)
  have HF2 := Lib.hid (fun W (v : Value) (hn : IsHeld W v XL) => show ∃ p c, v = .slice p L c from by rw [← hL]; exact hn.form)
  have HF3 := Lib.hid (fun W (v : Value) (hn : IsWaits W v XW) => show ∃ p c, v = .slice p M c from by rw [← hM]; exact hn.form)
  clear h c hL hM hK hd hXL hXW h1 h2 h3
  go_enter Tryz.func44, Tryz.ntmps44
  go_upto_region 3 with (fail)
  refine N.wp_region_plan 22 (.one [0, 1, 2, 3, 5, 6, 7, 8, 10, 11, 12, 13, 14, 15, 16, 17] 4 (.one [] 9 (.one [] 18 (.one [19] 20 (.done [21]))))) (by kernel_rfl) (by kernel_rfl) (fun _ _ d _ _ h => by cases d <;> exact h) ?_
  repeat' (first
    | (refine plan_done (fun K hK => ?_); (first | (simp only [pick_cons, pick_nil, toList_some_append, List.getElem?_toArray, List.getElem?_cons_zero, List.getElem?_cons_succ]; repeat (go_big_quiet_step (fail))) | simp only [pick_nil]); refine wpQuiet_nil (hK _ ?_); clear hK K)
    | (refine plan_one (by rfl) (fun K hK => ?_); (first | (simp only [pick_cons, pick_nil, toList_some_append, List.getElem?_toArray, List.getElem?_cons_zero, List.getElem?_cons_succ]; repeat (go_big_quiet_step (fail))) | simp only [pick_nil]); refine wpQuiet_nil (hK _ ?_); clear hK K)
    | ((with_reducible refine at_list ?_); go_wp2_with (first | (go_at_call 81; go_must (refine (HC1.out _ (by repeat (first | with_reducible exact Later.refl _ | with_reducible assumption | with_reducible refine Later.ofdrew ?_ | with_reducible refine Later.ofdrewN ?_ | with_reducible refine Later.setCell ?_ ?_ _ | with_reducible refine Later.alloc ?_ _ | with_reducible refine Later.drewN ?_ _ | with_reducible refine Later.drew ?_ | (with_reducible refine Later.trans ?_ (by assumption)) | (simp only [World.size_setCell, World.size_alloc, World.heap_drewN]; omega) | (simp; done) | (simp; omega)))).mono ?_; rintro e w1 ⟨v1, rfl, hn1, hq1, hb1⟩; obtain ⟨q1, e1, rfl⟩ := HF1.out _ _ hn1; have HN1 := Lib.hid hn1; have HQ1 := Lib.hid hq1; clear hn1 hq1)) | (go_at_call 82; go_must (refine (HC2.out _ (by repeat (first | with_reducible exact Later.refl _ | with_reducible assumption | with_reducible refine Later.ofdrew ?_ | with_reducible refine Later.ofdrewN ?_ | with_reducible refine Later.setCell ?_ ?_ _ | with_reducible refine Later.alloc ?_ _ | with_reducible refine Later.drewN ?_ _ | with_reducible refine Later.drew ?_ | (with_reducible refine Later.trans ?_ (by assumption)) | (simp only [World.size_setCell, World.size_alloc, World.heap_drewN]; omega) | (simp; done) | (simp; omega)))).mono ?_; rintro e w2 ⟨v2, rfl, hn2, hq2, hb2⟩; obtain ⟨q2, e2, rfl⟩ := HF2.out _ _ hn2; have HN2 := Lib.hid hn2; have HQ2 := Lib.hid hq2; clear hn2 hq2)) | (go_at_call 89; go_must (refine (HC3.out _ (by repeat (first | with_reducible exact Later.refl _ | with_reducible assumption | with_reducible refine Later.ofdrew ?_ | with_reducible refine Later.ofdrewN ?_ | with_reducible refine Later.setCell ?_ ?_ _ | with_reducible refine Later.alloc ?_ _ | with_reducible refine Later.drewN ?_ _ | with_reducible refine Later.drew ?_ | (with_reducible refine Later.trans ?_ (by assumption)) | (simp only [World.size_setCell, World.size_alloc, World.heap_drewN]; omega) | (simp; done) | (simp; omega)))).mono ?_; rintro e w3 ⟨v3, rfl, hn3, hq3, hb3⟩; obtain ⟨q3, e3, rfl⟩ := HF3.out _ _ hn3; have HN3 := Lib.hid hn3; have HQ3 := Lib.hid hq3; clear hn3 hq3))); first | refine behind_store (t := 22) (by decide) ?_ | refine behind (by repeat (first | with_reducible exact Later.refl _ | with_reducible assumption | with_reducible refine Later.ofdrew ?_ | with_reducible refine Later.ofdrewN ?_ | with_reducible refine Later.alloc ?_ _ | with_reducible refine Later.drewN ?_ _ | with_reducible refine Later.drew ?_ | (with_reducible refine Later.trans ?_ (by assumption)))) ?_))
  go_wp2_with fail
  go_ret
  have s1 : w.heap.size ≤ w1.heap.size := hb1.size
  have s2 := hb2.size
  have s3 := hb3.size
  have hl1 : Later w w1 := by repeat (first | with_reducible exact Later.refl _ | with_reducible assumption | with_reducible refine Later.ofdrew ?_ | with_reducible refine Later.ofdrewN ?_ | with_reducible refine Later.setCell ?_ ?_ _ | with_reducible refine Later.alloc ?_ _ | with_reducible refine Later.drewN ?_ _ | with_reducible refine Later.drew ?_ | (with_reducible refine Later.trans ?_ (by assumption)) | (simp only [World.size_setCell, World.size_alloc, World.heap_drewN]; omega) | (simp; done) | (simp; omega))
  exact ⟨w3, _, _, _, (hl1.trans hb2).trans hb3, ⟨(HN1.out.later hb2).later hb3, Mid.of HQ1.out (Nat.le_refl _) (by omega)⟩, ⟨HN2.out.later hb3, Mid.of HQ2.out (by omega) (by omega)⟩, ⟨HN3.out, Mid.of HQ3.out (by omega) (by omega)⟩, rfl, rfl⟩
set_option maxHeartbeats 1600000 in
theorem map_clone_fx (b : Nat) (es : Array MapEntry) (clock : Nat) (w : World) (hb : w.heap[b]? = some (.map es clock)) :
    Calls Tryz.prog 90 #[.map (some b)] w fun e w' => e = .returned (.map (some w.heap.size)) ∧ w' = w.alloc (.map es clock) := by
  have hq := fun w => run_eql_map_nil_sl (P := Tryz.prog) w 144 _ _ (some b) Tryz.underlying144
  go_enter Tryz.func90, Tryz.ntmps90
  go_wp2
  rw [run_callFunc_extern Tryz.func131 (by kernel_rfl) (by kernel_rfl) (by kernel_rfl) (e := Extern.MapsClone.clone) (by kernel_rfl), run_maps_clone_sl w 144 hb]
  simp only [Result.andThen]
  rw [Oper.upon_value]
  go_wp2
  rw [run_typeAssert_map_sl _ 144 20 _ _ _ Tryz.underlying144]
  simp only [Result.andThen]
  rw [Oper.upon_value]
  go_wp2
  go_ret
  exact ⟨rfl, rfl⟩
set_option maxHeartbeats 1600000 in
theorem map_clone_ch (b : Nat) (es : Array MapEntry) (clock : Nat) (w : World) (hb : w.heap[b]? = some (.map es clock)) :
    Calls Tryz.prog 91 #[.map (some b)] w fun e w' => e = .returned (.map (some w.heap.size)) ∧ w' = w.alloc (.map es clock) := by
  have hq := fun w => run_eql_map_nil_sl (P := Tryz.prog) w 146 _ _ (some b) Tryz.underlying146
  go_enter Tryz.func91, Tryz.ntmps91
  go_wp2
  rw [run_callFunc_extern Tryz.func131 (by kernel_rfl) (by kernel_rfl) (by kernel_rfl) (e := Extern.MapsClone.clone) (by kernel_rfl), run_maps_clone_sl w 146 hb]
  simp only [Result.andThen]
  rw [Oper.upon_value]
  go_wp2
  rw [run_typeAssert_map_sl _ 146 20 _ _ _ Tryz.underlying146]
  simp only [Result.andThen]
  rw [Oper.upon_value]
  go_wp2
  go_ret
  exact ⟨rfl, rfl⟩
section
variable {w w' : World} {p m1 m2 mm : Nat} {fx : FxL} {ch : ChL}
end
set_option maxHeartbeats 1600000 in
/-- A copy of facts. -/
theorem fcopy_any {w : World} {p m1 m2 : Nat} {fx : FxL} {ch : ChL} (h : FactsAt w p m1 m2 fx ch) :
    Calls Tryz.prog 45 #[.pointer (some ⟨p, 0, none⟩)] w fun e w' => ∃ q n1 n2, e = .returned (.pointer (some ⟨q, 0, none⟩)) ∧ FactsAt w' q n1 n2 fx ch ∧ w.heap.size ≤ n1 ∧ w.heap.size ≤ n2 ∧ Later w w' := by
  obtain ⟨es, cl, k1, k2⟩ := id h.x1
  obtain ⟨es', cl', k1', k2'⟩ := id h.x2
  have c0 := h.c0
  have c1 := h.c1
  have HC1 := Lib.hid (fun W (hl : Later w W) => map_clone_fx m1 es cl W ((hl.block m1 (Array.getElem?_eq_some_iff.1 k1).1).trans k1))
  have HC2 := Lib.hid (fun W (hl : Later w W) => map_clone_ch m2 es' cl' W ((hl.block m2 (Array.getElem?_eq_some_iff.1 k1').1).trans k1'))
  have HK := Lib.hid (And.intro k2 k2')
  clear h k1 k2 k1' k2'
  go_enter Tryz.func45, Tryz.ntmps45
  go_upto_region 3 with (fail)
  refine N.wp_region_plan 13 (.one [0, 1, 2, 3, 5, 6, 7, 8] 4 (.one [] 9 (.one [10] 11 (.done [12])))) (by kernel_rfl) (by kernel_rfl) (fun _ _ d _ _ h => by cases d <;> exact h) ?_
  repeat' (first
    | (refine plan_done (fun K hK => ?_); (first | (simp only [pick_cons, pick_nil, toList_some_append, List.getElem?_toArray, List.getElem?_cons_zero, List.getElem?_cons_succ]; repeat (go_big_quiet_step (fail))) | simp only [pick_nil]); refine wpQuiet_nil (hK _ ?_); clear hK K)
    | (refine plan_one (by rfl) (fun K hK => ?_); (first | (simp only [pick_cons, pick_nil, toList_some_append, List.getElem?_toArray, List.getElem?_cons_zero, List.getElem?_cons_succ]; repeat (go_big_quiet_step (fail))) | simp only [pick_nil]); refine wpQuiet_nil (hK _ ?_); clear hK K)
    | ((with_reducible refine at_list ?_); go_wp2_with (first | (go_at_call 90; go_must (refine (HC1.out _ (by repeat (first | with_reducible exact Later.refl _ | with_reducible assumption | with_reducible refine Later.ofdrew ?_ | with_reducible refine Later.ofdrewN ?_ | with_reducible refine Later.setCell ?_ ?_ _ | with_reducible refine Later.alloc ?_ _ | with_reducible refine Later.drewN ?_ _ | with_reducible refine Later.drew ?_ | (with_reducible refine Later.trans ?_ (by assumption)) | (simp only [World.size_setCell, World.size_alloc, World.heap_drewN]; omega) | (simp; done) | (simp; omega)))).mono ?_; rintro e w1 ⟨rfl, rfl⟩)) | (go_at_call 91; go_must (refine (HC2.out _ (by repeat (first | with_reducible exact Later.refl _ | with_reducible assumption | with_reducible refine Later.ofdrew ?_ | with_reducible refine Later.ofdrewN ?_ | with_reducible refine Later.setCell ?_ ?_ _ | with_reducible refine Later.alloc ?_ _ | with_reducible refine Later.drewN ?_ _ | with_reducible refine Later.drew ?_ | (with_reducible refine Later.trans ?_ (by assumption)) | (simp only [World.size_setCell, World.size_alloc, World.heap_drewN]; omega) | (simp; done) | (simp; omega)))).mono ?_; rintro e w2 ⟨rfl, rfl⟩))); first | refine behind_store (t := 13) (by decide) ?_ | refine behind (by repeat (first | with_reducible exact Later.refl _ | with_reducible assumption | with_reducible refine Later.ofdrew ?_ | with_reducible refine Later.ofdrewN ?_ | with_reducible refine Later.alloc ?_ _ | with_reducible refine Later.drewN ?_ _ | with_reducible refine Later.drew ?_ | (with_reducible refine Later.trans ?_ (by assumption)))) ?_))
  go_wp2_with fail
  go_ret
  have hl : Later w (((w.drew.alloc (.map es cl)).alloc (.map es' cl')).alloc (.cells #[.map (some w.drew.heap.size), .map (some (w.drew.heap.size + 1))] 148)) := by repeat (first | with_reducible exact Later.refl _ | with_reducible assumption | with_reducible refine Later.ofdrew ?_ | with_reducible refine Later.ofdrewN ?_ | with_reducible refine Later.setCell ?_ ?_ _ | with_reducible refine Later.alloc ?_ _ | with_reducible refine Later.drewN ?_ _ | with_reducible refine Later.drew ?_ | (with_reducible refine Later.trans ?_ (by assumption)) | (simp only [World.size_setCell, World.size_alloc, World.heap_drewN]; omega) | (simp; done) | (simp; omega))
  refine ⟨w.drew.heap.size + 1 + 1, w.drew.heap.size, w.drew.heap.size + 1, by simp, ?_, Nat.le_refl _, Nat.le_succ _, hl⟩
  have h3 := own_alloc ((w.drew.alloc (.map es cl)).alloc (.map es' cl')) #[.map (some w.drew.heap.size), .map (some (w.drew.heap.size + 1))] 148
  simp only [World.size_alloc] at h3
  obtain ⟨z, c, -⟩ := own_get h3
  have e1 := (MapKept.heap_alloc w.drew (.map es cl)).1
  have e2 := (MapKept.heap_alloc (w.drew.alloc (.map es cl)) (.map es' cl')).1
  have la := (((Later.refl (w.drew.alloc (.map es cl))).alloc (.map es' cl')).alloc (.cells #[.map (some w.drew.heap.size), .map (some (w.drew.heap.size + 1))] 148))
  have lb := ((Later.refl ((w.drew.alloc (.map es cl)).alloc (.map es' cl'))).alloc (.cells #[.map (some w.drew.heap.size), .map (some (w.drew.heap.size + 1))] 148))
  have m1' : FxMap (w.drew.alloc (.map es cl)) w.drew.heap.size fx := ⟨es, cl, e1, HK.out.1⟩
  have m2' : ChMap ((w.drew.alloc (.map es cl)).alloc (.map es' cl')) (w.drew.heap.size + 1) ch := ⟨es', cl', by rw [World.size_alloc] at e2; exact e2, HK.out.2⟩
  exact ⟨c 0, c 1, m1'.later la, m2'.later lb, by omega⟩
end Go.Proofs.YtkjabiabeemfhaaGreatDoor
end
section
/- step: where a run stopped does not count (plain) -/
namespace Go.Proofs.YtkjabiabeemfhaaGreatDoor
open Go.RowKit Go.Sort

section
variable {env : Env} {ts : List Nd} {T : Tm} {day last : Int} {s : RunS} {F : List Fl}
theorem go_cases (env : Env) (s : RunS) (tod : Int) : (tod < s.day ∨ 73048 < tod) ∧ goR env s tod = (18, [], s) ∨ ¬ (tod < s.day ∨ 73048 < tod) ∧ ((runQ env tod (sizesH s.L) s.L).1 = 0 ∧ (goR env s tod).1 = 0 ∨ (runQ env tod (sizesH s.L) s.L).1 ≠ 0 ∧ goR env s tod = ((runQ env tod (sizesH s.L) s.L).1, [], s)) := by
  by_cases h : tod < s.day ∨ 73048 < tod
  · exact .inl ⟨h, goR_early h⟩
  · by_cases h1 : (runQ env tod (sizesH s.L) s.L).1 = 0
    · exact .inr ⟨h, .inl ⟨h1, by rw [goR_done h h1]⟩⟩
    · exact .inr ⟨h, .inr ⟨h1, goR_over h h1⟩⟩
end
end Go.Proofs.YtkjabiabeemfhaaGreatDoor
end
section
/- StepCopies: its plain law; runs beside one another -/
namespace Go.Proofs.YtkjabiabeemfhaaGreatDoor
open Go.RowKit Go.Sort

section
variable {ts : List Nd} {T : Tm} {env : Env} {tod day : Int} {s : RunS}
/-- Where nothing is held on, nothing is waited for. -/
theorem run_nil_waits (hG : Good ts T) (hok : ∀ x ∈ ts, x.ok) (hE : EnvOk env) : ∀ (n : Nat) (q : List Hd), (∀ h ∈ q, HdOk ts h) → (runQ env tod n q).1 = 0 → keptQ env tod n q = [] → (runQ env tod n q).2.2 = [] := by
  intro n
  induction n with
  | zero => intro q _ _ _; rfl
  | succ n ih =>
    intro q hq h0 hk
    cases q with
    | nil => rfl
    | cons h r =>
      have hh := hq h List.mem_cons_self
      have hk' : keptH env tod h ++ keptQ env tod n (r ++ (oneH env tod h).2.1) = [] := hk
      obtain ⟨ka, kb⟩ := List.append_eq_nil_iff.1 hk'
      simp only [runQ] at h0 ⊢
      by_cases h1 : (oneH env tod h).1 = 0
      · rw [if_neg (by rw [h1]; simp)] at h0 ⊢
        have hw : (oneH env tod h).2.2.2 = [] := by
          rcases one_go hG hok (Int.le_refl tod) (EnvLeD.refl ts tod env) hh h1 with ⟨k1, -, -⟩ | ⟨-, -, k3, -⟩
          · rw [k1] at ka; cases ka
          · exact k3
        unfold comb at h0 ⊢
        simp only [ne_eq, not_true_eq_false, if_false] at h0 ⊢
        by_cases h2 : (runQ env tod n (r ++ (oneH env tod h).2.1)).1 = 0
        · rw [if_neg (by rw [h2]; simp)]
          have := ih _ (fun y hy => by
            rcases List.mem_append.1 hy with hy | hy
            · exact hq y (List.mem_cons_of_mem _ hy)
            · exact one_ok hG hok hE hh y hy) h2 kb
          simp only [hw, this, List.append_nil]
        · rw [if_pos (by exact h2)]
      · rw [if_pos (by exact h1)]
theorem wait_nil : waitL [] = [] := by simp [waitL, sortL, cmpL]
theorem over_waits (hG : Good ts T) (hm : makesI T.root.op = 2) (hok : ∀ x ∈ ts, x.ok) (hE : EnvOk env) (h0 : 0 ≤ day) (h1 : day ≤ 73048) (h : (goR env (newR T day) tod).2.2.L = []) : (goR env (newR T day) tod).2.2.W = [] := by
  rcases go_cases env (newR T day) tod with ⟨-, e⟩ | ⟨k0, ⟨k1, -⟩ | ⟨-, e⟩⟩
  · rw [e] at h; cases h
  · rw [goR_done k0 k1] at h ⊢
    show waitL _ = []
    rw [run_nil_waits hG hok hE _ _ (new_ok hG hm h0 h1).held k1 h]
    exact wait_nil
  · rw [e] at h; cases h
theorem over_stays (h : s.L = []) : (goR env s tod).2.2.L = [] := by
  rcases go_cases env s tod with ⟨-, e⟩ | ⟨k0, ⟨k1, -⟩ | ⟨-, e⟩⟩
  · rw [e]; exact h
  · rw [goR_done k0 k1, h]
    rfl
  · rw [e]; exact h
end
section
variable {α : Type} {sz : Nat} {f : α → Nat → Value} {w w' : World} {v : Value} {xs ys : List α}
theorem row_lt (h : IsRow sz f w v xs) : ∀ k, v.ownBlock = some k → xs ≠ [] → k < w.heap.size := by
  intro k hk hx
  rcases h with h | ⟨b, o, cap, h1, h2, h3, h4, h5⟩
  · exact absurd h.2 hx
  · rw [h1] at hk; cases hk; exact h2
theorem row_latx (h : IsRow sz f w v xs) {Z : Nat → Prop} (hL : S.LatB Z w w') (hZ : ∀ k, v.ownBlock = some k → xs ≠ [] → ¬ Z k) : IsRow sz f w' v xs := by
  rcases h with h | ⟨b, o, cap, h1, h2, h3, h4, h5⟩
  · exact .inl h
  · refine .inr ⟨b, o, cap, h1, Nat.lt_of_lt_of_le h2 hL.size, h3, h4, fun i hi j hj => ?_⟩
    rw [hL.cell h2 (hZ b (by rw [h1]; rfl) (fun e => by rw [e] at hi; cases hi))]
    exact h5 i hi j hj
theorem row_same (h : IsRow sz f w v xs) (k : IsRow sz f w' v ys) : xs.length = ys.length := by
  obtain ⟨p, c, h1⟩ := h.form
  obtain ⟨q, d, h2⟩ := k.form
  rw [h1] at h2
  simp only [Value.slice.injEq] at h2
  omega
end
section
variable {w w' : World} {b : Nat} {ts : List Nd} {tv lv wv : Value} {s : RunS}
theorem RunAt.latx (h : RunAt w b ts tv lv wv s) {Z : Nat → Prop} (hl : S.LatB Z w w') (hb : ¬ Z b) (ht : ∀ k, tv.ownBlock = some k → ¬ Z k) (h1 : ∀ k, lv.ownBlock = some k → s.L ≠ [] → ¬ Z k) (h2 : ∀ k, wv.ownBlock = some k → s.W ≠ [] → ¬ Z k) : RunAt w' b ts tv lv wv s := by
  obtain ⟨⟨z, c, f⟩, -⟩ := id h.own
  refine ⟨Own.cons (Nat.lt_of_lt_of_le z hl.size) (fun i => (hl.cell (p := ⟨b, i, none⟩) z hb).trans (c i)) (fun i hi => (hl.frozen (p := ⟨b, i, none⟩) z hb).trans (f i hi)) trivial, nodes_lat h.nodes hl ht, row_latx h.held hl h1, row_latx h.waits hl h2, h.tb, h.lb, h.wb⟩
/-- A row of waits lies not in a run's block. -/
theorem RunAt.waits_ne (h : RunAt w b ts tv lv wv s) {v : Value} {xs : List Wt} (hw : IsWaits w v xs) : ∀ k, v.ownBlock = some k → xs ≠ [] → ¬ k = b := by
  intro k hk hx e
  subst e
  rcases hw with hw | ⟨b', o, cap, h1, h2, h3, h4, h5⟩
  · exact hx hw.2
  · rw [h1] at hk; cases hk
    obtain ⟨⟨z, c, -⟩, -⟩ := id h.own
    have hl : 0 < xs.length := List.length_pos_iff.2 hx
    have g := h5 0 hl 0 (by decide)
    have g2 := c (o + 0 * 3 + 0)
    rw [g] at g2
    obtain ⟨p1, k1, e1⟩ := h.nodes.form
    obtain ⟨p2, k2, e2⟩ := h.held.form
    obtain ⟨p3, k3, e3⟩ := h.waits.form
    subst e1 e2 e3
    rcases o with _ | _ | _ | _ | o <;> simp [wtF] at g2
end
/-- What a go leaves of a run's rows. -/
theorem GoEnd.left {g : Int × List Fl × RunS} {w : World} {rb : Nat} {ts : List Nd} {tv lv wv : Value} {s : RunS} {e : Ending} {w' : World} (h : GoEnd g w rb ts tv lv wv e w') (hr : RunAt w rb ts tv lv wv s) {N : Nat} (hN : N ≤ w.heap.size) (hl : ∀ k, lv.ownBlock = some k → s.L ≠ [] → k < N) (hw : ∀ k, wv.ownBlock = some k → s.W ≠ [] → k < N) :
    ∃ fv lv' wv', e = .returned (.tuple #[fv, .int .i64 g.1]) ∧ IsFlows w' fv g.2.1 ∧ (∀ k, fv.ownBlock = some k → w.heap.size ≤ k) ∧ RunAt w' rb ts tv lv' wv' g.2.2 ∧ (∀ k, lv'.ownBlock = some k → g.2.2.L ≠ [] → k < N ∨ w.heap.size ≤ k) ∧ (∀ k, wv'.ownBlock = some k → g.2.2.W ≠ [] → k < N ∨ w.heap.size ≤ k) ∧ S.LatB (fun k => k = rb) w w' := by
  obtain ⟨fv, lv', wv', he, hf, hfz, hr', hn, hla⟩ := h
  refine ⟨fv, lv', wv', he, hf, hfz, hr', fun k hk hx => ?_, fun k hk hx => ?_, hla⟩
  · rcases hn with ⟨rfl, rfl⟩ | hn
    · refine .inl (hl k hk (fun e => hx ?_))
      have := row_same hr.held hr'.held
      rw [e] at this
      exact List.length_eq_zero_iff.1 this.symm
    · exact .inr (hn k (.inl hk))
  · rcases hn with ⟨rfl, rfl⟩ | hn
    · refine .inl (hw k hk (fun e => hx ?_))
      have := row_same hr.waits hr'.waits
      rw [e] at this
      exact List.length_eq_zero_iff.1 this.symm
    · exact .inr (hn k (.inr hk))
end Go.Proofs.YtkjabiabeemfhaaGreatDoor
end
section
/- facts made of facts that are told, however many -/
namespace Go.Proofs.YtkjabiabeemfhaaGreatDoor
open Go.RowKit
set_option maxRecDepth 100000

theorem row_len {α : Type} {sz : Nat} {f : α → Nat → Value} {w : World} {v : Value} {xs : List α} (h : IsRow sz f w v xs) : xs.length ≤ 9223372036854775807 := by
  rcases h with ⟨_, rfl⟩ | ⟨b, o, cap, h1, h2, h3, h4, h5⟩
  · exact Nat.zero_le _
  · unfold maxLen at h4; omega
set_option maxHeartbeats 1600000 in
theorem made_big (l : List Td) (hlen : l.length ≤ 9223372036854775807) (hok : ∀ x ∈ l, x.ok) (v : Value) (w : World) (hN : IsTolds w v l) :
    Calls Tryz.prog 15 #[v] w fun e w' => ∃ p m1 m2, e = .returned (.pointer (some ⟨p, 0, none⟩)) ∧ FactsAt w' p m1 m2 (madeFx l) (madeCh l) ∧ w.heap.size ≤ m1 ∧ w.heap.size ≤ m2 ∧ Later w w' := by
  obtain ⟨p0, cp, rfl⟩ := hN.form
  have HN := Lib.hid hN
  have HNEW := Lib.hid (fnew_any w)
  have HTL := Lib.hid (fun (j : Nat) (h : j < l.length) p m1 m2 fx ch W hF => tell_any p m1 m2 fx ch l[j] W hF (hok _ (List.getElem_mem _)))
  clear hok hN
  obtain ⟨L, hL⟩ : ∃ L, l.length = L := ⟨_, rfl⟩
  rw [hL] at HN hlen ⊢
  have HL := Lib.hid hL
  clear hL
  go_enter Tryz.func15, Tryz.ntmps15
  go_wp2_with (go_at_call 36; go_must (refine HNEW.out.mono ?_; rintro e w1 ⟨p, m1, m2, rfl, hF1, h1, h2, hb1⟩))
  have HF1 := Lib.hid hF1
  clear hF1 HNEW
  go_loopw [4] (fun s4 wr => ∃ j : Nat, j ≤ L ∧ s4 = .int .i64 j ∧ Hid (FactsAt wr p m1 m2 ((l.take j).foldl tellFx []) ((l.take j).foldl tellCh [])) ∧ Later w wr) (fun s4 _ => L - (intOf s4).toNat)
  case atStart => exact ⟨0, Nat.zero_le _, rfl, HF1, hb1⟩
  case round =>
    obtain ⟨j, hj, rfl, hF, hlat⟩ := hrel
    by_cases hlt : j < L
    · have hjl : j < l.length := by rw [HL.out]; exact hlt
      obtain ⟨b, o, cp2, hv, hb, gg⟩ := HN.out.full (i := j) hjl
      rw [HL.out] at hv
      cases hv
      have g0 := ((bcell hlat).1 _ _ hb).trans (gg 0 (by omega))
      have g1 := ((bcell hlat).1 _ _ hb).trans (gg 1 (by omega))
      have g2 := ((bcell hlat).1 _ _ hb).trans (gg 2 (by omega))
      have g3 := ((bcell hlat).1 _ _ hb).trans (gg 3 (by omega))
      have g4 := ((bcell hlat).1 _ _ hb).trans (gg 4 (by omega))
      have g5 := ((bcell hlat).1 _ _ hb).trans (gg 5 (by omega))
      have HC := Lib.hid (HTL.out j hjl p m1 m2 _ _ wr hF.out)
      have ht : l.take (j + 1) = l.take j ++ [l[j]] := List.take_succ_eq_append_getElem hjl
      have HT1 := Lib.hid (show (l.take (j + 1)).foldl tellFx [] = tellFx ((l.take j).foldl tellFx []) l[j] by rw [ht, List.foldl_append]; rfl)
      have HT2 := Lib.hid (show (l.take (j + 1)).foldl tellCh [] = tellCh ((l.take j).foldl tellCh []) l[j] by rw [ht, List.foldl_append]; rfl)
      unfold Td.val at HC
      simp only [Td.cell, Nat.add_zero] at g0 g1 g2 g3 g4 g5
      generalize (l[j]).c = x0 at g0 HC
      generalize (l[j]).k = x1 at g1 HC
      generalize (l[j]).d = x2 at g2 HC
      generalize (l[j]).n = x3 at g3 HC
      generalize (l[j]).m = x4 at g4 HC
      generalize (l[j]).p = x5 at g5 HC
      clear gg ht hF HTL
      go_wp2_with (go_at_call 26; go_must (refine HC.out.mono ?_; rintro e w3 ⟨rfl, hF3, mm, hmm, hg3⟩))
      go_roundw
      case rel => exact ⟨j + 1, by omega, by go_num, Lib.hid (by rw [HT1.out, HT2.out]; exact hF3), Later.grown hlat hg3 (fun k e => by cases e; rcases hmm with rfl | rfl <;> assumption)⟩
      case measure => simp [intOf]; omega
    · have hfin : l.take j = l := List.take_of_length_le (by rw [HL.out]; omega)
      have hFF := hF.out
      rw [hfin] at hFF
      have HFF := Lib.hid hFF
      clear hF hFF hfin
      go_wp2
      go_ret
      exact ⟨p, m1, m2, rfl, HFF.out, h1, h2, hlat⟩
end Go.Proofs.YtkjabiabeemfhaaGreatDoor
end
