/- AuditChecks: for every input the call returns true, and each argument reads behind it as it read before; the tables tied to the program's text. -/
import Derived.Test.YtckeaibamgkegaaGreatDoorQ30
import Derived.Test.YtckeaibamgkegaaGreatDoorQ31
import Derived.Test.YtckeaibamgkegaaGreatDoorTie
import Derived.Test.YtckeaibamgkegaaGreatDoorCards
import Derived.Lib.SmallJoins
set_option linter.all false
set_option linter.all false
section
/- AuditChecks: for every input the call returns true, and each argument reads behind it as it read before; the tables tied to the program's text. -/
namespace Go.Proofs.YtckeaibamgkegaaGreatDoor
open Go.ChangeShapes Go.WideShapes Go.ChangeAt Go.RowKit Go.Joins

theorem own_AuditChecks : ownKnob Tryz.prog.godebug = none := by kernel_rfl
theorem door_AuditChecks (os : Os) (args : Array Value) : laidMetH Tryz.prog laidA ((World.doorLaid Tryz.prog 200 os).forCall (fun _ _ => 0) ⟨#[], args, []⟩).memory :=
  laidMetH_of_parts3 (fuel := 8) (laidMet_of_run' 8 (by kernel_rfl) (by kernel_rfl)) (by kernel_rfl) (by kernel_rfl)

set_option maxRecDepth 100000 in
theorem AuditChecks_lifted (os : Os) (started : os.Started) (H : Type) (enc : TypeId × Value → H) :
    ReturnsInHanded {} Tryz.checked os 3 .any (fun w args => (Rows.auditChecksSpec.pre enc Tryz.prog Tryz.f3 [] false w args ∧ laidMetH Tryz.prog laidA w) ∧ sizedMet enc Tryz.prog Tryz.f3 (OpenSpec.ofChange Rows.auditChecksSpec) false w args)
      (Rows.auditChecksSpec.post enc Tryz.prog Tryz.f3 false true false false) := by
  refine returnsInHanded_of_change_and (C := Tryz.checked) (X := fun w _ => laidMetH Tryz.prog laidA w) (fun _ _ _ hh h => h.of_heap hh) own_AuditChecks started (by kernel_rfl) Tryz.func3
    (ChangeSpec.witness_shaped (enc := enc) (C := Tryz.checked) (os := os) (X := fun w _ => laidMetH Tryz.prog laidA w) false (World.doorLaid Tryz.prog 200 os) #[.slice none 0 0, .agg #[.int .i64 0, .int .i64 0, .int .i64 0]] 8 rfl (World.shaped_of_RefB (by kernel_rfl) (by kernel_rfl)) (by kernel_rfl) (by kernel_rfl) (by kernel_rfl) (door_AuditChecks os _)) ?_
  intro W base args ds gs before hval0 hW _ _ hL _
  have hval : ∀ (j : Nat) t v, Tryz.f3.params[j]? = some t → args[j]? = some v → Value.okWide Tryz.prog W .any base t v := hval0
  have hW' := hW
  have hlt := hW.lt
  obtain ⟨p, q, hA0, hV, rfl, hfz, hnd⟩ := hW
  have hA : DataW.TrodAll enc Tryz.prog W 0 (fun _ => true) true Tryz.f3.params.toList args.toList ds p := hA0
  have hR := rules_of_laidA hL
  have hT := pow_of_laidA hL
  rw [Tryz.params3] at hA hval
  have hA1 := hA
  obtain ⟨v0, v1, d0, d1, p0, p1, rfl, rfl, rfl, h0, h1⟩ := trodAll_two hA
  obtain ⟨rfl, rfl⟩ := trodVars_none hV
  have stay : ∀ (W' : World) (sp : Nat → Bool), Later W W' → (∀ p ∈ p0 ++ p1, sp p.block = true) → DataW.TrodAll enc Tryz.prog W' 0 sp true [22, 23] [v0, v1] [d0, d1] (p0 ++ p1) := fun W' sp hb hs =>
    rd_stay (fun t ht => of_decide_eq_true (List.all_eq_true.1 (show ([22, 23].all fun t => decide (t < Tryz.prog.types.size)) = true by kernel_rfl) t ht)) hA1 (fun p hp => hlt p (by simpa using hp)) hb hs
  obtain ⟨k0, h0⟩ := h0
  have e0 : v0.cells.toList = [v0] := by obtain ⟨_, _, _, rfl⟩ := okWide_slice Tryz.underlying22 (hval 0 22 v0 rfl rfl); rfl
  rw [e0] at h0
  obtain ⟨x0, g0, o0⟩ := rows_of_trod h0
  obtain ⟨k1, h1⟩ := h1
  obtain ⟨cs1, rfl, hs1⟩ := okWide_arr3 (hval 1 23 v1 rfl rfl)
  obtain ⟨a1, b1, c1, e1⟩ := three_of_trod h1
  have e2 : cs1 = #[.int .i64 a1, .int .i64 b1, .int .i64 c1] := Array.toList_inj.1 e1
  subst e2
  clear hA0 hval0
  simp only [List.append_nil] at hW'
  refine (audchecks_any x0 a1 b1 c1 o0 v0 W g0 hR hT).mono fun e W' ⟨he, hg⟩ => ?_
  subst he
  exact ⟨_, rfl, post_of_later (pa := p0 ++ p1) (pv := []) hW' (fun _ _ _ => trodAll_mk1 (shut_bool Tryz.underlying4 _)) (fun sp hs => by have hst := stay W' sp hg (by simpa only [List.append_nil] using hs); exact hst) (fun _ _ => rfl) (by simp)
    hg (ok_one (by kernel_rfl) rfl (okWide_bool_mk Tryz.underlying4 _))⟩

theorem AuditChecks_said : Rows.AuditChecksSaid :=
  OpenClaim.holds_of_wide 3 Tryz.f3 rfl rfl rfl rfl rfl rfl rfl ⟨rfl, rfl, rfl, rfl, rfl⟩ rfl rfl rfl rfl rfl (by kernel_rfl) Tryz.func3 (by kernel_rfl)
    (of_decide_eq_true (by kernel_rfl)) (by unfold Func.isWrapper; first | (rw [if_pos (by decide +kernel)]; kernel_rfl) | (rw [if_neg (by decide +kernel)]; exact ⟨rfl, rfl⟩))
    (fun os started H enc _ => AuditChecks_lifted os started H enc)

/-- THE CARD. -/
theorem AuditChecks_holds : Rows.AuditChecksCardSaid :=
  Claim7.holds_tied_plain_at .later [] [.data, .data, .data, .funcs] true Rows.auditChecksCard.stood.harness true
    AuditChecks_said (fun _ h => by cases h) (by kernel_rfl) (fun _ h => by cases h) auditChecks_row_tie rfl ⟨rfl, rfl⟩ (by kernel_rfl) rfl
    (fun f fn hf hfn => by
      obtain rfl : f = 3 := Option.some.inj ((show Tryz.prog.funcNamed Rows.auditChecksRow.func = some 3 by kernel_rfl).symm.trans hf) |>.symm
      obtain rfl : fn = Tryz.f3 := (Option.some.inj (Tryz.func3.symm.trans hfn)).symm
      exact ⟨by kernel_rfl, fun j t ht => by
        rw [Tryz.params3] at ht
        have hm : t ∈ [22, 23] := by simpa using Array.mem_of_getElem? ht
        have hall : ([22, 23].all fun u => !Tryz.prog.wantsStandIn u) = true := by kernel_rfl
        exact (show Tryz.prog.wantsStandIn t = false by simpa using List.all_eq_true.1 hall t hm)⟩)
    (by kernel_rfl)
#print axioms AuditChecks_holds
end Go.Proofs.YtckeaibamgkegaaGreatDoor
end
