/- DenoteBoth: for every input the call returns true, and each argument reads behind it as it read before; the table of shapes tied to the program's text. -/
import Derived.Test.YtkjabiabeemfhaaGreatDoorT3
import Derived.Test.YtkjabiabeemfhaaGreatDoorQ35
import Derived.Test.YtkjabiabeemfhaaGreatDoorQ13
import Derived.Test.YtkjabiabeemfhaaGreatDoorQ12
import Derived.Test.YtkjabiabeemfhaaGreatDoorQ3
import Derived.Test.YtkjabiabeemfhaaGreatDoorQ2
import Derived.Test.YtkjabiabeemfhaaGreatDoorRows
import Derived.Test.YtkjabiabeemfhaaGreatDoorQ1
import Derived.Shelf.Small.Bits
import Derived.Shelf.Small.Wraps
import Derived.Shelf.Strconv.Itoa0
import Derived.Shelf.Bits.Mul64
import Derived.Ground.Names2Prog
import Derived.Shelf.Slices.Clone
import Derived.Shelf.Slices.SearchI
import Derived.Ground.SlgnProg
import Derived.Shelf.SlicesE.Clone
import Derived.Shelf.SlLaysF0
import Derived.Ground.SlsfProg
import Derived.Test.YtkjabiabeemfhaaGreatDoorProg
import Derived.WalkKit
import Derived.Lib.BitFns
import Derived.Lib.ItoaNum
import Derived.WalkSpells
import Derived.WalkSmall
import Derived.WalkLawsBesides
import Derived.BigQuiet
import Derived.Deep.RegionHeld3
import Derived.Deep.DeepCutAuto
import Derived.Deep.CutBlock
import Derived.Lib.Hide
import Derived.Deep.Quiet
import Derived.Below
import Derived.OrdersHeld
import Derived.Shelf.Spec.BitsCarry
import Derived.Laws.AppendOwnNone
import Derived.OwnWalk
import Derived.Great.BuildSlice
import Derived.DeepKeys4
import Derived.Maps.Own
import Derived.Test.YtkjabiabeemfhaaGreatDoorQ11
import Derived.Test.YtkjabiabeemfhaaGreatDoorQ10
import Derived.Test.YtkjabiabeemfhaaGreatDoorQ4
import Derived.RangeFuncNested
import Derived.RangeFuncBound
import Derived.RangeFuncCalls
import Derived.RangeFuncLeaves
import Derived.Shelf.Abstract
import Derived.Shelf.RegionOpen
import Derived.OwnWalkIn
import Derived.TacticsInMore
import Derived.LoopNIn
import Derived.LoopIn
import Derived.Test.YtkjabiabeemfhaaGreatDoorT1
import Derived.Deep.LoopGhost
import Derived.Test.YtkjabiabeemfhaaGreatDoorQ8
import Derived.Test.YtkjabiabeemfhaaGreatDoorQ7
import Derived.Test.YtkjabiabeemfhaaGreatDoorQ5
import Derived.WalkMore
import Derived.Lib.Strings
import Derived.ChangeSame
import Derived.ProofKit
import Derived.Carry
import Derived.ReadAgain
import Derived.Deep.Slices
import Derived.OpenShut
import Derived.LaidMore
import Derived.LaidByTextLater
import Derived.Deep.Strs
import Derived.Test.YtkjabiabeemfhaaGreatDoorQ36
import Derived.Test.YtkjabiabeemfhaaGreatDoorTie
import Derived.Test.YtkjabiabeemfhaaGreatDoorCards
import Derived.Lib.SmallJoins
set_option linter.all false
set_option linter.all false
section
/- DenoteBoth: for every input the call returns true, and each argument reads behind it as it read before; the table of shapes tied to the program's text. -/
namespace Go.Proofs.YtkjabiabeemfhaaGreatDoor
open Go.ChangeShapes Go.WideShapes Go.ChangeAt Go.RowKit Go.Joins

theorem own_DenoteBoth : ownKnob Tryz.prog.godebug = none := by kernel_rfl
theorem door_DenoteBoth (os : Os) (args : Array Value) : laidMetH Tryz.prog laidT ((World.doorLaid Tryz.prog 44 os).forCall (fun _ _ => 0) ⟨#[], args, []⟩).memory :=
  laidMetH_of_parts3 (fuel := 8) (laidMet_of_run' 8 (by kernel_rfl) (by kernel_rfl)) (by kernel_rfl) (by kernel_rfl)

set_option maxRecDepth 100000 in
theorem DenoteBoth_lifted (os : Os) (started : os.Started) (H : Type) (enc : TypeId × Value → H) :
    ReturnsInHanded {} Tryz.checked os 9 .any (fun w args => (Rows.denoteBothSpec.pre enc Tryz.prog Tryz.f9 [] false w args ∧ laidMetH Tryz.prog laidT w) ∧ sizedMet enc Tryz.prog Tryz.f9 (OpenSpec.ofChange Rows.denoteBothSpec) false w args)
      (Rows.denoteBothSpec.post enc Tryz.prog Tryz.f9 false true false false) := by
  refine returnsInHanded_of_change_and (C := Tryz.checked) (X := fun w _ => laidMetH Tryz.prog laidT w) (fun _ _ _ hh h => h.of_heap hh) own_DenoteBoth started (by kernel_rfl) Tryz.func9
    (ChangeSpec.witness_shaped (enc := enc) (C := Tryz.checked) (os := os) (X := fun w _ => laidMetH Tryz.prog laidT w) false (World.doorLaid Tryz.prog 44 os) #[.agg #[.slice none 0 0, .int .i64 0, .int .i64 0, .slice none 0 0], .slice none 0 0, .int .i64 0] 8 rfl (World.shaped_of_RefB (by kernel_rfl) (by kernel_rfl)) (by kernel_rfl) (by kernel_rfl) (by kernel_rfl) (door_DenoteBoth os _)) ?_
  intro W base args ds gs before hval0 hW _ _ hL _
  have hval : ∀ (j : Nat) t v, Tryz.f9.params[j]? = some t → args[j]? = some v → Value.okWide Tryz.prog W .any base t v := hval0
  have hW' := hW
  have hlt := hW.lt
  obtain ⟨p, q, hA0, hV, rfl, hfz, hnd⟩ := hW
  have hA : DataW.TrodAll enc Tryz.prog W 0 (fun _ => true) true Tryz.f9.params.toList args.toList ds p := hA0
  have hS := shapes_of_laid hL
  rw [Tryz.params9] at hA hval
  have hA1 := hA
  obtain ⟨v0, v1, v2, d0, d1, d2, p0, p1, p2, rfl, rfl, rfl, h0, h1, h2⟩ := trodAll_three hA
  obtain ⟨rfl, rfl⟩ := trodVars_none hV
  have stay : ∀ (W' : World) (sp : Nat → Bool), Later W W' → (∀ y ∈ p0 ++ p1 ++ p2, sp y.block = true) → DataW.TrodAll enc Tryz.prog W' 0 sp true [25, 22, 3] [v0, v1, v2] [d0, d1, d2] (p0 ++ p1 ++ p2) := fun W' sp hb hs =>
    args_stay (fun t ht => of_decide_eq_true (List.all_eq_true.1 (show ([25, 22, 3].all fun t => decide (t < Tryz.prog.types.size)) = true by kernel_rfl) t ht)) hA1 (fun p hp => hlt p (by simpa using hp)) hb hs
  obtain ⟨k0, h0⟩ := h0
  obtain ⟨u0, a0, b0, uu0, x0, xx0, rfl, ia0, ib0, g0, gg0, o0, oo0⟩ := job_of_trod (hval 0 25 v0 rfl rfl) h0
  obtain ⟨k1, h1⟩ := h1
  have e1 : v1.cells.toList = [v1] := by obtain ⟨_, _, _, rfl⟩ := okWide_slice Tryz.underlying22 (hval 1 22 v1 rfl rfl); rfl
  rw [e1] at h1
  obtain ⟨x1, g1, o1⟩ := nodes_rd h1
  obtain ⟨a2, rfl, rfl, rfl, wi2⟩ := open_int Tryz.underlying3 (hval 2 3 v2 rfl rfl) h2
  have ia2 : I64 a2 := wf_i64 wi2
  clear hA0 hval0
  simp only [List.append_nil] at hW'
  refine (both_any x0 x1 xx0 u0 v1 uu0 a0 b0 a2 W o0 o1 ia2 oo0 hS g0 g1 gg0).mono fun e W' ⟨he, hg⟩ => ?_
  subst he
  exact ⟨_, rfl, post_of_later (pa := p0 ++ p1) (pv := []) hW' (fun _ _ _ => trodAll_mk1 (shut_bool Tryz.underlying4 _)) (fun sp hs => by have hst := stay W' sp hg (by simpa only [List.append_nil] using hs); simp only [List.append_nil] at hst; exact hst) (fun _ _ => rfl) (by simp)
    hg (ok_one (by kernel_rfl) rfl (okWide_bool_mk Tryz.underlying4 _))⟩

set_option maxHeartbeats 8000000 in
set_option maxRecDepth 100000 in
theorem DenoteBoth_closed : joinedFacts Tryz.prog 9 Tryz.f9 Rows.denoteBothSpec Rows.denoteBothRow = true := by
  unfold joinedFacts
  simp only [Bool.and_eq_true]
  repeat' apply And.intro
  all_goals (as_aux_lemma => kernel_rfl)
theorem DenoteBoth_said : Rows.DenoteBothSaid :=
  OpenClaim.holds_of_wide 9 Tryz.f9 rfl rfl rfl rfl rfl rfl rfl ⟨rfl, rfl, rfl, rfl, rfl⟩ rfl rfl rfl rfl rfl (by kernel_rfl) Tryz.func9 DenoteBoth_closed
    (of_decide_eq_true (by kernel_rfl)) (by unfold Func.isWrapper; first | (rw [if_pos (by decide +kernel)]; kernel_rfl) | (rw [if_neg (by decide +kernel)]; exact ⟨rfl, rfl⟩))
    (fun os started H enc _ => DenoteBoth_lifted os started H enc)

/-- THE CARD. -/
theorem DenoteBoth_holds : Rows.DenoteBothCardSaid :=
  Claim7.holds_tied_plain_at .later [] [.data] true (true, "1a8d975bdf9b1950c22ecb4f9bebd6c1245f7ab52f135819e6dd269b2c536703") true
    DenoteBoth_said (fun _ h => by cases h) (by kernel_rfl) (fun _ h => by cases h) denoteBoth_row_tie rfl ⟨rfl, rfl⟩ (by kernel_rfl) rfl
    (fun f fn hf hfn => by
      obtain rfl : f = 9 := Option.some.inj ((show Tryz.prog.funcNamed Rows.denoteBothRow.func = some 9 by kernel_rfl).symm.trans hf) |>.symm
      obtain rfl : fn = Tryz.f9 := (Option.some.inj (Tryz.func9.symm.trans hfn)).symm
      exact ⟨by kernel_rfl, fun j t ht => by
        rw [Tryz.params9] at ht
        have hm : t ∈ [25, 22, 3] := by simpa using Array.mem_of_getElem? ht
        have hall : ([25, 22, 3].all fun u => !Tryz.prog.wantsStandIn u) = true := by kernel_rfl
        exact (show Tryz.prog.wantsStandIn t = false by simpa using List.all_eq_true.1 hall t hm)⟩)
    (by kernel_rfl)
#print axioms DenoteBoth_holds
end Go.Proofs.YtkjabiabeemfhaaGreatDoor
end
