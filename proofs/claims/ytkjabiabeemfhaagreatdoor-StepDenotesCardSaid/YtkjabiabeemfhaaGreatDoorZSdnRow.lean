/- StepDenotes: for every input the call returns true, and each argument reads behind it as it read before; the table of shapes tied to the program's text. -/
import Derived.Test.YtkjabiabeemfhaaGreatDoorZ41
import Derived.Test.YtkjabiabeemfhaaGreatDoorZ42
import Derived.Test.YtkjabiabeemfhaaGreatDoorTie
import Derived.Test.YtkjabiabeemfhaaGreatDoorCards
import Derived.Lib.SmallJoins
set_option linter.all false
set_option linter.all false
section
namespace Go.Proofs.YtkjabiabeemfhaaGreatDoor
open Go.ChangeShapes Go.WideShapes Go.ChangeAt Go.RowKit Go.Joins
theorem own_StepDenotes : ownKnob Tryz.prog.godebug = none := by kernel_rfl
theorem door_StepDenotes (os : Os) (args : Array Value) : laidMetH Tryz.prog laidT ((World.doorLaid Tryz.prog 44 os).forCall (fun _ _ => 0) ⟨#[], args, []⟩).memory :=
  laidMetH_of_parts3 (fuel := 8) (laidMet_of_run' 8 (by kernel_rfl) (by kernel_rfl)) (by kernel_rfl) (by kernel_rfl)
set_option maxRecDepth 100000 in
theorem StepDenotes_lifted (os : Os) (started : os.Started) (H : Type) (enc : TypeId × Value → H) :
    ReturnsInHanded {} Tryz.checked os 14 .any (fun w args => (Rows.stepDenotesSpec.pre enc Tryz.prog Tryz.f14 [] false w args ∧ laidMetH Tryz.prog laidT w) ∧ sizedMet enc Tryz.prog Tryz.f14 (OpenSpec.ofChange Rows.stepDenotesSpec) false w args)
      (Rows.stepDenotesSpec.post enc Tryz.prog Tryz.f14 false true false false) := by
  refine returnsInHanded_of_change_and (C := Tryz.checked) (X := fun w _ => laidMetH Tryz.prog laidT w) (fun _ _ _ hh h => h.of_heap hh) own_StepDenotes started (by kernel_rfl) Tryz.func14
    (ChangeSpec.witness_shaped (enc := enc) (C := Tryz.checked) (os := os) (X := fun w _ => laidMetH Tryz.prog laidT w) false (World.doorLaid Tryz.prog 44 os) #[.slice none 0 0, .int .i64 0, .slice none 0 0] 8 rfl (World.shaped_of_RefB (by kernel_rfl) (by kernel_rfl)) (by kernel_rfl) (by kernel_rfl) (by kernel_rfl) (door_StepDenotes os _)) ?_
  intro W base args ds gs before hval0 hW _ _ hL _
  have hval : ∀ (j : Nat) t v, Tryz.f14.params[j]? = some t → args[j]? = some v → Value.okWide Tryz.prog W .any base t v := hval0
  have hW' := hW
  have hlt := hW.lt
  obtain ⟨p, q, hA0, hV, rfl, hfz, hnd⟩ := hW
  have hA : DataW.TrodAll enc Tryz.prog W 0 (fun _ => true) true Tryz.f14.params.toList args.toList ds p := hA0
  have hS := shapes_of_laid hL
  rw [Tryz.params14] at hA hval
  have hA1 := hA
  obtain ⟨v0, v1, v2, d0, d1, d2, p0, p1, p2, rfl, rfl, rfl, h0, h1, h2⟩ := trodAll_three hA
  obtain ⟨rfl, rfl⟩ := trodVars_none hV
  have stay : ∀ (W' : World) (sp : Nat → Bool), Later W W' → (∀ y ∈ p0 ++ p1 ++ p2, sp y.block = true) → DataW.TrodAll enc Tryz.prog W' 0 sp true [22, 3, 76] [v0, v1, v2] [d0, d1, d2] (p0 ++ p1 ++ p2) := fun W' sp hb hs =>
    args_stay (fun t ht => of_decide_eq_true (List.all_eq_true.1 (show ([22, 3, 76].all fun t => decide (t < Tryz.prog.types.size)) = true by kernel_rfl) t ht)) hA1 (fun p hp => hlt p (by simpa using hp)) hb hs
  obtain ⟨k0, h0⟩ := h0
  have e0 : v0.cells.toList = [v0] := by obtain ⟨_, _, _, rfl⟩ := okWide_slice Tryz.underlying22 (hval 0 22 v0 rfl rfl); rfl
  rw [e0] at h0
  obtain ⟨x0, g0, o0⟩ := nodes_rd h0
  obtain ⟨a1, rfl, rfl, rfl, wi1⟩ := open_int Tryz.underlying3 (hval 1 3 v1 rfl rfl) h1
  have ia1 : I64 a1 := wf_i64 wi1
  obtain ⟨k2, h2⟩ := h2
  have e2 : v2.cells.toList = [v2] := by obtain ⟨_, _, _, rfl⟩ := okWide_slice Tryz.underlying76 (hval 2 76 v2 rfl rfl); rfl
  rw [e2] at h2
  obtain ⟨x2, g2, o2⟩ := ops_rd h2
  clear hA0 hval0
  simp only [List.append_nil] at hW'
  refine (sdn_any x0 x2 v0 v2 a1 W o0 o2 hS g0 g2).mono fun e W' ⟨he, hg⟩ => ?_
  subst he
  exact ⟨_, rfl, post_of_later (pa := p0 ++ p2) (pv := []) hW' (fun _ _ _ => trodAll_mk1 (shut_bool Tryz.underlying4 _)) (fun sp hs => by have hst := stay W' sp hg (by simpa only [List.append_nil] using hs); simp only [List.append_nil] at hst; exact hst) (fun _ _ => rfl) (by simp)
    hg (ok_one (by kernel_rfl) rfl (okWide_bool_mk Tryz.underlying4 _))⟩
set_option maxHeartbeats 8000000 in
set_option maxRecDepth 100000 in
theorem StepDenotes_closed : joinedFacts Tryz.prog 14 Tryz.f14 Rows.stepDenotesSpec Rows.stepDenotesRow = true := by
  unfold joinedFacts
  simp only [Bool.and_eq_true]
  repeat' apply And.intro
  all_goals (as_aux_lemma => kernel_rfl)
theorem StepDenotes_said : Rows.StepDenotesSaid :=
  OpenClaim.holds_of_wide 14 Tryz.f14 rfl rfl rfl rfl rfl rfl rfl ⟨rfl, rfl, rfl, rfl, rfl⟩ rfl rfl rfl rfl rfl (by kernel_rfl) Tryz.func14 StepDenotes_closed
    (of_decide_eq_true (by kernel_rfl)) (by unfold Func.isWrapper; first | (rw [if_pos (by decide +kernel)]; kernel_rfl) | (rw [if_neg (by decide +kernel)]; exact ⟨rfl, rfl⟩))
    (fun os started H enc _ => StepDenotes_lifted os started H enc)
theorem StepDenotes_holds : Rows.StepDenotesCardSaid :=
  Claim7.holds_tied_plain_at .later [] [.data] true (true, "1a8d975bdf9b1950c22ecb4f9bebd6c1245f7ab52f135819e6dd269b2c536703") true
    StepDenotes_said (fun _ h => by cases h) (by kernel_rfl) (fun _ h => by cases h) stepDenotes_row_tie rfl ⟨rfl, rfl⟩ (by kernel_rfl) rfl
    (fun f fn hf hfn => by
      obtain rfl : f = 14 := Option.some.inj ((show Tryz.prog.funcNamed Rows.stepDenotesRow.func = some 14 by kernel_rfl).symm.trans hf) |>.symm
      obtain rfl : fn = Tryz.f14 := (Option.some.inj (Tryz.func14.symm.trans hfn)).symm
      exact ⟨by kernel_rfl, fun j t ht => by
        rw [Tryz.params14] at ht
        have hm : t ∈ [22, 3, 76] := by simpa using Array.mem_of_getElem? ht
        have hall : ([22, 3, 76].all fun u => !Tryz.prog.wantsStandIn u) = true := by kernel_rfl
        exact (show Tryz.prog.wantsStandIn t = false by simpa using List.all_eq_true.1 hall t hm)⟩)
    (by kernel_rfl)
#print axioms StepDenotes_holds
end Go.Proofs.YtkjabiabeemfhaaGreatDoor
end
