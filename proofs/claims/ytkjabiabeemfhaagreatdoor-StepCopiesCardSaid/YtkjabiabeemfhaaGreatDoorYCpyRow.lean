/- StepCopies: for every input the call returns true, and each argument reads behind it as it read before; the table of shapes tied to the program's text. -/
import Derived.Test.YtkjabiabeemfhaaGreatDoorY3
import Derived.Test.YtkjabiabeemfhaaGreatDoorW33
import Derived.Test.YtkjabiabeemfhaaGreatDoorW11
import Derived.Test.YtkjabiabeemfhaaGreatDoorY1
import Derived.Test.YtkjabiabeemfhaaGreatDoorW2
import Derived.Deep.Quiet
import Derived.BigQuiet
import Derived.Below
import Derived.OrdersHeld
import Derived.WalkKit
import Derived.ChangeSame
import Derived.ProofKit
import Derived.Carry
import Derived.ReadAgain
import Derived.Deep.Slices
import Derived.OpenShut
import Derived.LaidMore
import Derived.Test.YtkjabiabeemfhaaGreatDoorW4
import Derived.Test.YtkjabiabeemfhaaGreatDoorW3
import Derived.Test.YtkjabiabeemfhaaGreatDoorRows
import Derived.Test.YtkjabiabeemfhaaGreatDoorW1
import Derived.Shelf.Small.Bits
import Derived.Shelf.Small.Wraps
import Derived.Shelf.Strconv.Itoa0
import Derived.Shelf.Bits.Mul64
import Derived.Ground.Names2Prog
import Derived.Shelf.Slices.Clone
import Derived.Shelf.Slices.SearchI
import Derived.Ground.SlgnProg
import Derived.Shelf.SlicesE.Clone
import Derived.Shelf.SlLaysF0
import Derived.Ground.SlsfProg
import Derived.Test.YtkjabiabeemfhaaGreatDoorProg
import Derived.Lib.BitFns
import Derived.Lib.ItoaNum
import Derived.WalkSpells
import Derived.WalkSmall
import Derived.WalkLawsBesides
import Derived.Deep.RegionHeld3
import Derived.Deep.DeepCutAuto
import Derived.Deep.CutBlock
import Derived.Lib.Hide
import Derived.Shelf.Spec.BitsCarry
import Derived.Laws.AppendOwnNone
import Derived.OwnWalk
import Derived.LaidByTextLater
import Derived.Deep.Strs
import Derived.Test.YtkjabiabeemfhaaGreatDoorW31
import Derived.Test.YtkjabiabeemfhaaGreatDoorW29
import Derived.Test.YtkjabiabeemfhaaGreatDoorW26
import Derived.Test.YtkjabiabeemfhaaGreatDoorW22
import Derived.Test.YtkjabiabeemfhaaGreatDoorW21
import Derived.Test.YtkjabiabeemfhaaGreatDoorW18
import Derived.Test.YtkjabiabeemfhaaGreatDoorW17
import Derived.Test.YtkjabiabeemfhaaGreatDoorW15
import Derived.Test.YtkjabiabeemfhaaGreatDoorW13
import Derived.Test.YtkjabiabeemfhaaGreatDoorW14
import Derived.Great.BuildSlice
import Derived.ArgAppend
import Derived.Shelf.SlSortCmp.Insertion
import Derived.Laws.IdiomCopy
import Derived.Deep.Upon
import Derived.Shelf.GgSortFunc.InsertionK
import Derived.Test.YtkjabiabeemfhaaGreatDoorW16
import Derived.Test.YtkjabiabeemfhaaGreatDoorW12
import Derived.WalkMore
import Derived.Test.YtkjabiabeemfhaaGreatDoorW19
import Derived.Test.YtkjabiabeemfhaaGreatDoorW9
import Derived.Test.YtkjabiabeemfhaaGreatDoorW8
import Derived.RangeFuncNested
import Derived.RangeFuncBound
import Derived.RangeFuncCalls
import Derived.RangeFuncLeaves
import Derived.Shelf.Abstract
import Derived.Shelf.RegionOpen
import Derived.OwnWalkIn
import Derived.TacticsInMore
import Derived.LoopNIn
import Derived.LoopIn
import Derived.Test.YtkjabiabeemfhaaGreatDoorW7
import Derived.Test.YtkjabiabeemfhaaGreatDoorW5
import Derived.Test.YtkjabiabeemfhaaGreatDoorW6
import Derived.Deep.LoopGhost
import Derived.RangeFuncBox
import Derived.Test.YtkjabiabeemfhaaGreatDoorW10
import Derived.DeepKeys4
import Derived.Maps.Own
import Derived.Lib.Strings
import Derived.Test.YtkjabiabeemfhaaGreatDoorW20
import Derived.Shelf.SlSortCmp.NoneTotal
import Derived.Shelf.SlSortCmp.WholeK
import Derived.Laws.IdiomRangeMap
import Derived.Test.YtkjabiabeemfhaaGreatDoorW23
import Derived.Test.YtkjabiabeemfhaaGreatDoorW24
import Derived.Test.YtkjabiabeemfhaaGreatDoorW25
import Derived.Test.YtkjabiabeemfhaaGreatDoorW27
import Derived.Test.YtkjabiabeemfhaaGreatDoorW28
import Derived.Lib.SliceRun
import Derived.Test.YtkjabiabeemfhaaGreatDoorW30
import Derived.Test.YtkjabiabeemfhaaGreatDoorTie
import Derived.Test.YtkjabiabeemfhaaGreatDoorCards
import Derived.Lib.SmallJoins
set_option linter.all false
set_option linter.all false
section
/- StepCopies: for every input the call returns true, and each argument reads behind it as it read before; the table of shapes tied to the program's text. -/
namespace Go.Proofs.YtkjabiabeemfhaaGreatDoor
open Go.ChangeShapes Go.WideShapes Go.ChangeAt Go.RowKit Go.Joins

theorem own_StepCopies : ownKnob Tryz.prog.godebug = none := by kernel_rfl
theorem door_StepCopies (os : Os) (args : Array Value) : laidMetH Tryz.prog laidT ((World.doorLaid Tryz.prog 44 os).forCall (fun _ _ => 0) ⟨#[], args, []⟩).memory :=
  laidMetH_of_parts3 (fuel := 8) (laidMet_of_run' 8 (by kernel_rfl) (by kernel_rfl)) (by kernel_rfl) (by kernel_rfl)

set_option maxRecDepth 100000 in
theorem StepCopies_lifted (os : Os) (started : os.Started) (H : Type) (enc : TypeId × Value → H) :
    ReturnsInHanded {} Tryz.checked os 13 .any (fun w args => (Rows.stepCopiesSpec.pre enc Tryz.prog Tryz.f13 [] false w args ∧ laidMetH Tryz.prog laidT w) ∧ sizedMet enc Tryz.prog Tryz.f13 (OpenSpec.ofChange Rows.stepCopiesSpec) false w args)
      (Rows.stepCopiesSpec.post enc Tryz.prog Tryz.f13 false true false false) := by
  refine returnsInHanded_of_change_and (C := Tryz.checked) (X := fun w _ => laidMetH Tryz.prog laidT w) (fun _ _ _ hh h => h.of_heap hh) own_StepCopies started (by kernel_rfl) Tryz.func13
    (ChangeSpec.witness_shaped (enc := enc) (C := Tryz.checked) (os := os) (X := fun w _ => laidMetH Tryz.prog laidT w) false (World.doorLaid Tryz.prog 44 os) #[.agg #[.slice none 0 0, .int .i64 0, .int .i64 0, .slice none 0 0], .slice none 0 0] 8 rfl (World.shaped_of_RefB (by kernel_rfl) (by kernel_rfl)) (by kernel_rfl) (by kernel_rfl) (by kernel_rfl) (door_StepCopies os _)) ?_
  intro W base args ds gs before hval0 hW _ _ hL _
  have hval : ∀ (j : Nat) t v, Tryz.f13.params[j]? = some t → args[j]? = some v → Value.okWide Tryz.prog W .any base t v := hval0
  have hW' := hW
  have hlt := hW.lt
  obtain ⟨p, q, hA0, hV, rfl, hfz, hnd⟩ := hW
  have hA : DataW.TrodAll enc Tryz.prog W 0 (fun _ => true) true Tryz.f13.params.toList args.toList ds p := hA0
  have hS := shapes_of_laid hL
  rw [Tryz.params13] at hA hval
  have hA1 := hA
  obtain ⟨v0, v1, d0, d1, p0, p1, rfl, rfl, rfl, h0, h1⟩ := trodAll_two hA
  obtain ⟨rfl, rfl⟩ := trodVars_none hV
  have stay : ∀ (W' : World) (sp : Nat → Bool), Later W W' → (∀ y ∈ p0 ++ p1, sp y.block = true) → DataW.TrodAll enc Tryz.prog W' 0 sp true [25, 76] [v0, v1] [d0, d1] (p0 ++ p1) := fun W' sp hb hs =>
    args_stay (fun t ht => of_decide_eq_true (List.all_eq_true.1 (show ([25, 76].all fun t => decide (t < Tryz.prog.types.size)) = true by kernel_rfl) t ht)) hA1 (fun p hp => hlt p (by simpa using hp)) hb hs
  obtain ⟨k0, h0⟩ := h0
  obtain ⟨u0, a0, b0, uu0, x0, xx0, rfl, ia0, ib0, g0, gg0, o0, oo0⟩ := job_of_trod (hval 0 25 v0 rfl rfl) h0
  obtain ⟨k1, h1⟩ := h1
  have e1 : v1.cells.toList = [v1] := by obtain ⟨_, _, _, rfl⟩ := okWide_slice Tryz.underlying76 (hval 1 76 v1 rfl rfl); rfl
  rw [e1] at h1
  obtain ⟨x1, g1, o1⟩ := ops_rd h1
  clear hA0 hval0
  simp only [List.append_nil] at hW'
  refine (cpy_any x0 xx0 x1 u0 uu0 v1 a0 b0 W o0 oo0 o1 hS g0 gg0 g1).mono fun e W' ⟨he, hg⟩ => ?_
  subst he
  exact ⟨_, rfl, post_of_later (pa := p0 ++ p1) (pv := []) hW' (fun _ _ _ => trodAll_mk1 (shut_bool Tryz.underlying4 _)) (fun sp hs => stay W' sp hg hs) (fun _ _ => rfl) (by simp)
    hg (ok_one (by kernel_rfl) rfl (okWide_bool_mk Tryz.underlying4 _))⟩

set_option maxHeartbeats 8000000 in
set_option maxRecDepth 100000 in
theorem StepCopies_closed : joinedFacts Tryz.prog 13 Tryz.f13 Rows.stepCopiesSpec Rows.stepCopiesRow = true := by
  unfold joinedFacts
  simp only [Bool.and_eq_true]
  repeat' apply And.intro
  all_goals (as_aux_lemma => kernel_rfl)
theorem StepCopies_said : Rows.StepCopiesSaid :=
  OpenClaim.holds_of_wide 13 Tryz.f13 rfl rfl rfl rfl rfl rfl rfl ⟨rfl, rfl, rfl, rfl, rfl⟩ rfl rfl rfl rfl rfl (by kernel_rfl) Tryz.func13 StepCopies_closed
    (of_decide_eq_true (by kernel_rfl)) (by unfold Func.isWrapper; first | (rw [if_pos (by decide +kernel)]; kernel_rfl) | (rw [if_neg (by decide +kernel)]; exact ⟨rfl, rfl⟩))
    (fun os started H enc _ => StepCopies_lifted os started H enc)

/-- THE CARD. -/
theorem StepCopies_holds : Rows.StepCopiesCardSaid :=
  Claim7.holds_tied_plain_at .later [] [.data] true (true, "1a8d975bdf9b1950c22ecb4f9bebd6c1245f7ab52f135819e6dd269b2c536703") true
    StepCopies_said (fun _ h => by cases h) (by kernel_rfl) (fun _ h => by cases h) stepCopies_row_tie rfl ⟨rfl, rfl⟩ (by kernel_rfl) rfl
    (fun f fn hf hfn => by
      obtain rfl : f = 13 := Option.some.inj ((show Tryz.prog.funcNamed Rows.stepCopiesRow.func = some 13 by kernel_rfl).symm.trans hf) |>.symm
      obtain rfl : fn = Tryz.f13 := (Option.some.inj (Tryz.func13.symm.trans hfn)).symm
      exact ⟨by kernel_rfl, fun j t ht => by
        rw [Tryz.params13] at ht
        have hm : t ∈ [25, 76] := by simpa using Array.mem_of_getElem? ht
        have hall : ([25, 76].all fun u => !Tryz.prog.wantsStandIn u) = true := by kernel_rfl
        exact (show Tryz.prog.wantsStandIn t = false by simpa using List.all_eq_true.1 hall t hm)⟩)
    (by kernel_rfl)
#print axioms StepCopies_holds
end Go.Proofs.YtkjabiabeemfhaaGreatDoor
end
