/- AuditBack: for every input the call returns true, and each argument reads behind it as it read before; the tables tied to the program's text. -/
import Derived.Test.YtpblfheeeifjcaaDoorBack
import Derived.Test.YtpblfheeeifjcaaDoorLaidA
import Derived.Test.YtpblfheeeifjcaaDoorOpenA
import Derived.Test.YtpblfheeeifjcaaDoorTie
import Derived.Test.YtpblfheeeifjcaaDoorCards
import Derived.Lib.SmallJoins
set_option linter.all false
namespace Go.Proofs.YtpblfheeeifjcaaDoor
open Go.ChangeShapes Go.WideShapes Go.ChangeAt Go.RowKit Go.Joins

theorem own_AuditBack : ownKnob Tryd.prog.godebug = none := by kernel_rfl
theorem door_AuditBack (os : Os) (args : Array Value) : laidMetH Tryd.prog laidA ((World.doorLaid Tryd.prog 200 os).forCall (fun _ _ => 0) ⟨#[], args, []⟩).memory :=
  laidMetH_of_parts3 (fuel := 8) (laidMet_of_run' 8 (by kernel_rfl) (by kernel_rfl)) (by kernel_rfl) (by kernel_rfl)

set_option maxRecDepth 100000 in
theorem AuditBack_lifted (os : Os) (started : os.Started) (H : Type) (enc : TypeId × Value → H) :
    ReturnsInHanded {} Tryd.checked os 5 .any (fun w args => (Rows.auditBackSpec.pre enc Tryd.prog Tryd.f5 [] false w args ∧ laidMetH Tryd.prog laidA w) ∧ sizedMet enc Tryd.prog Tryd.f5 (OpenSpec.ofChange Rows.auditBackSpec) false w args)
      (Rows.auditBackSpec.post enc Tryd.prog Tryd.f5 false true false false) := by
  refine returnsInHanded_of_change_and (C := Tryd.checked) (X := fun w _ => laidMetH Tryd.prog laidA w) (fun _ _ _ hh h => h.of_heap hh) own_AuditBack started (by kernel_rfl) Tryd.func5
    (ChangeSpec.witness_shaped (enc := enc) (C := Tryd.checked) (os := os) (X := fun w _ => laidMetH Tryd.prog laidA w) false (World.doorLaid Tryd.prog 200 os) #[.slice none 0 0, .int .i64 0] 8 rfl (World.shaped_of_RefB (by kernel_rfl) (by kernel_rfl)) (by kernel_rfl) (by kernel_rfl) (by kernel_rfl) (door_AuditBack os _)) ?_
  intro W base args ds gs before hval0 hW _ _ hL _
  have hval : ∀ (j : Nat) t v, Tryd.f5.params[j]? = some t → args[j]? = some v → Value.okWide Tryd.prog W .any base t v := hval0
  have hW' := hW
  have hlt := hW.lt
  obtain ⟨p, q, hA0, hV, rfl, hfz, hnd⟩ := hW
  have hA : DataW.TrodAll enc Tryd.prog W 0 (fun _ => true) true Tryd.f5.params.toList args.toList ds p := hA0
  have hR := rules_of_laidA hL
  have hT := pow_of_laidA hL
  rw [Tryd.params5] at hA hval
  have hA1 := hA
  obtain ⟨v0, v1, d0, d1, p0, p1, rfl, rfl, rfl, h0, h1⟩ := trodAll_two hA
  obtain ⟨rfl, rfl⟩ := trodVars_none hV
  have stay : ∀ (W' : World) (sp : Nat → Bool), Later W W' → (∀ p ∈ p0 ++ p1, sp p.block = true) → DataW.TrodAll enc Tryd.prog W' 0 sp true [22, 3] [v0, v1] [d0, d1] (p0 ++ p1) := fun W' sp hb hs =>
    rd_stay (fun t ht => of_decide_eq_true (List.all_eq_true.1 (show ([22, 3].all fun t => decide (t < Tryd.prog.types.size)) = true by kernel_rfl) t ht)) hA1 (fun p hp => hlt p (by simpa using hp)) hb hs
  obtain ⟨k0, h0⟩ := h0
  have e0 : v0.cells.toList = [v0] := by obtain ⟨_, _, _, rfl⟩ := okWide_slice Tryd.underlying22 (hval 0 22 v0 rfl rfl); rfl
  rw [e0] at h0
  obtain ⟨x0, g0, o0⟩ := ops_of_trod h0
  obtain ⟨a1, rfl, rfl, rfl, wi1⟩ := open_int Tryd.underlying3 (hval 1 3 v1 rfl rfl) h1
  have ia1 : I64 a1 := wf_i64 wi1
  clear hA0 hval0
  simp only [List.append_nil] at hW'
  refine (audback_any x0 a1 ia1 o0 v0 W g0 hR hT).mono fun e W' ⟨he, hg⟩ => ?_
  subst he
  exact ⟨_, rfl, post_of_later (pa := p0) (pv := []) hW' (fun _ _ _ => trodAll_mk1 (shut_bool Tryd.underlying4 _)) (fun sp hs => by have hst := stay W' sp hg (by simpa only [List.append_nil] using hs); rw [List.append_nil] at hst; exact hst) (fun _ _ => rfl) (by simp)
    hg (ok_one (by kernel_rfl) rfl (okWide_bool_mk Tryd.underlying4 _))⟩

theorem AuditBack_said : Rows.AuditBackSaid :=
  OpenClaim.holds_of_wide 5 Tryd.f5 rfl rfl rfl rfl rfl rfl rfl ⟨rfl, rfl, rfl, rfl, rfl⟩ rfl rfl rfl rfl rfl (by kernel_rfl) Tryd.func5 (by kernel_rfl)
    (of_decide_eq_true (by kernel_rfl)) (by unfold Func.isWrapper; first | (rw [if_pos (by decide +kernel)]; kernel_rfl) | (rw [if_neg (by decide +kernel)]; exact ⟨rfl, rfl⟩))
    (fun os started H enc _ => AuditBack_lifted os started H enc)

/-- THE CARD. -/
theorem AuditBack_holds : Rows.AuditBackCardSaid :=
  Claim7.holds_tied_plain_at .later [] [.data, .data, .data, .funcs] true (true, "bd181b4bd13b9ae69864f0dcdee58cfd9856800cddae063ae8a3680c9a777d97") true
    AuditBack_said (fun _ h => by cases h) (by kernel_rfl) (fun _ h => by cases h) auditBack_row_tie rfl ⟨rfl, rfl⟩ (by kernel_rfl) rfl
    (fun f fn hf hfn => by
      obtain rfl : f = 5 := Option.some.inj ((show Tryd.prog.funcNamed Rows.auditBackRow.func = some 5 by kernel_rfl).symm.trans hf) |>.symm
      obtain rfl : fn = Tryd.f5 := (Option.some.inj (Tryd.func5.symm.trans hfn)).symm
      exact ⟨by kernel_rfl, fun j t ht => by
        rw [Tryd.params5] at ht
        have hm : t ∈ [22, 3] := by simpa using Array.mem_of_getElem? ht
        have hall : ([22, 3].all fun u => !Tryd.prog.wantsStandIn u) = true := by kernel_rfl
        exact (show Tryd.prog.wantsStandIn t = false by simpa using List.all_eq_true.1 hall t hm)⟩)
    (by kernel_rfl)
#print axioms AuditBack_holds
end Go.Proofs.YtpblfheeeifjcaaDoor
