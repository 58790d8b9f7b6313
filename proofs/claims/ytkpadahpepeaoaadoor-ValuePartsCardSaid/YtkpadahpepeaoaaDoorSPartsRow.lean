/- ValueParts: for every input the call returns true, and each argument reads behind it as it read before; the table of shapes tied to the program's text. -/
import Derived.Test.YtkpadahpepeaoaaDoorSParts
import Derived.Test.YtkpadahpepeaoaaDoorJu
import Derived.Test.YtkpadahpepeaoaaDoorSOpenP
import Derived.Test.YtkpadahpepeaoaaDoorTie
import Derived.Test.YtkpadahpepeaoaaDoorCards
import Derived.Lib.SmallJoins
set_option linter.all false
namespace Go.Proofs.YtkpadahpepeaoaaDoor
open Go.ChangeShapes Go.WideShapes Go.ChangeAt Go.RowKit Go.Joins

theorem own_ValueParts : ownKnob Tryd.prog.godebug = none := by kernel_rfl
theorem door_ValueParts (os : Os) (args : Array Value) : laidMetH Tryd.prog laidT ((World.doorLaid Tryd.prog 44 os).forCall (fun _ _ => 0) ⟨#[], args, []⟩).memory :=
  laidMetH_of_parts3 (fuel := 8) (laidMet_of_run' 8 (by kernel_rfl) (by kernel_rfl)) (by kernel_rfl) (by kernel_rfl)

set_option maxRecDepth 100000 in
theorem ValueParts_lifted (os : Os) (started : os.Started) (H : Type) (enc : TypeId × Value → H) :
    ReturnsInHanded {} Tryd.checked os 5 .any (fun w args => (Rows.valuePartsSpec.pre enc Tryd.prog Tryd.f5 [] false w args ∧ laidMetH Tryd.prog laidT w) ∧ sizedMet enc Tryd.prog Tryd.f5 (OpenSpec.ofChange Rows.valuePartsSpec) false w args)
      (Rows.valuePartsSpec.post enc Tryd.prog Tryd.f5 false true false false) := by
  refine returnsInHanded_of_change_and (C := Tryd.checked) (X := fun w _ => laidMetH Tryd.prog laidT w) (fun _ _ _ hh h => h.of_heap hh) own_ValueParts started (by kernel_rfl) Tryd.func5
    (ChangeSpec.witness_shaped (enc := enc) (C := Tryd.checked) (os := os) (X := fun w _ => laidMetH Tryd.prog laidT w) false (World.doorLaid Tryd.prog 44 os) #[.agg #[.slice none 0 0, .slice none 0 0], .slice none 0 0, .int .i64 0] 8 rfl (World.shaped_of_RefB (by kernel_rfl) (by kernel_rfl)) (by kernel_rfl) (by kernel_rfl) (by kernel_rfl) (door_ValueParts os _)) ?_
  intro W base args ds gs before hval0 hW _ _ hL _
  have hval : ∀ (j : Nat) t v, Tryd.f5.params[j]? = some t → args[j]? = some v → Value.okWide Tryd.prog W .any base t v := hval0
  have hW' := hW
  have hlt := hW.lt
  obtain ⟨p, q, hA0, hV, rfl, hfz, hnd⟩ := hW
  have hA : DataW.TrodAll enc Tryd.prog W 0 (fun _ => true) true Tryd.f5.params.toList args.toList ds p := hA0
  have hS := shapes_of_laid hL
  rw [Tryd.params5] at hA hval
  have hA1 := hA
  obtain ⟨v0, v1, v2, d0, d1, d2, p0, p1, p2, rfl, rfl, rfl, h0, h1, h2⟩ := trodAll_three hA
  obtain ⟨rfl, rfl⟩ := trodVars_none hV
  have stay : ∀ (W' : World) (sp : Nat → Bool), Later W W' → (∀ p ∈ p0 ++ p1 ++ p2, sp p.block = true) → DataW.TrodAll enc Tryd.prog W' 0 sp true [49, 23, 3] [v0, v1, v2] [d0, d1, d2] (p0 ++ p1 ++ p2) := fun W' sp hb hs =>
    args_stay (fun t ht => of_decide_eq_true (List.all_eq_true.1 (show ([49, 23, 3].all fun t => decide (t < Tryd.prog.types.size)) = true by kernel_rfl) t ht)) hA1 (fun p hp => hlt p (by simpa using hp)) hb hs
  obtain ⟨k0, h0⟩ := h0
  obtain ⟨u0, uu0, x0, xx0, rfl, g0, gg0, o0, oo0⟩ := nodes2_of_trod (hval 0 49 v0 rfl rfl) h0
  obtain ⟨k1, h1⟩ := h1
  have w1 : Cell.okWide Tryd.prog W .any base 23 v1 := by have := hval 1 23 v1 rfl rfl; simpa only [Value.okWide, Tryd.underlying23] using this
  have e1 : v1.cells.toList = [v1] := by obtain ⟨_, _, _, rfl⟩ := okWide_slice Tryd.underlying23 (hval 1 23 v1 rfl rfl); rfl
  rw [e1] at h1
  obtain ⟨x1, g1, o1⟩ := tolds_of_trod w1 h1
  obtain ⟨a2, rfl, rfl, rfl, wi2⟩ := open_int Tryd.underlying3 (hval 2 3 v2 rfl rfl) h2
  have ia2 : I64 a2 := wf_i64 wi2
  clear hA0 hval0
  simp only [List.append_nil] at hW'
  refine (parts_any x0 xx0 x1 a2 u0 uu0 v1 W o0 oo0 o1 ia2 hS g0 gg0 g1).mono fun e W' ⟨he, hg⟩ => ?_
  subst he
  exact ⟨_, rfl, post_of_later (pa := p0 ++ p1) (pv := []) hW' (fun _ _ _ => trodAll_mk1 (shut_bool Tryd.underlying4 _)) (fun sp hs => by have hst := stay W' sp hg (by simpa only [List.append_nil] using hs); rw [List.append_nil] at hst; exact hst) (fun _ _ => rfl) (by simp)
    hg (ok_one (by kernel_rfl) rfl (okWide_bool_mk Tryd.underlying4 _))⟩

theorem ValueParts_said : Rows.ValuePartsSaid :=
  OpenClaim.holds_of_wide 5 Tryd.f5 rfl rfl rfl rfl rfl rfl rfl ⟨rfl, rfl, rfl, rfl, rfl⟩ rfl rfl rfl rfl rfl (by kernel_rfl) Tryd.func5 (by kernel_rfl)
    (of_decide_eq_true (by kernel_rfl)) (by unfold Func.isWrapper; first | (rw [if_pos (by decide +kernel)]; kernel_rfl) | (rw [if_neg (by decide +kernel)]; exact ⟨rfl, rfl⟩))
    (fun os started H enc _ => ValueParts_lifted os started H enc)

/-- THE CARD. -/
theorem ValueParts_holds : Rows.ValuePartsCardSaid :=
  Claim7.holds_tied_plain_at .later [] [.data] true (true, "759c720a8e0040d270ec94249336b11c772b3a7cc9fe27a00400f89f00d2d35e") false
    ValueParts_said (fun _ h => by cases h) (by kernel_rfl) (fun _ h => by cases h) valueParts_row_tie rfl ⟨rfl, rfl⟩ (by kernel_rfl) rfl
    (fun f fn hf hfn => by
      obtain rfl : f = 5 := Option.some.inj ((show Tryd.prog.funcNamed Rows.valuePartsRow.func = some 5 by kernel_rfl).symm.trans hf) |>.symm
      obtain rfl : fn = Tryd.f5 := (Option.some.inj (Tryd.func5.symm.trans hfn)).symm
      exact ⟨by kernel_rfl, fun j t ht => by
        rw [Tryd.params5] at ht
        have hm : t ∈ [49, 23, 3] := by simpa using Array.mem_of_getElem? ht
        have hall : ([49, 23, 3].all fun u => !Tryd.prog.wantsStandIn u) = true := by kernel_rfl
        exact (show Tryd.prog.wantsStandIn t = false by simpa using List.all_eq_true.1 hall t hm)⟩)
    (by kernel_rfl)
#print axioms ValueParts_holds
end Go.Proofs.YtkpadahpepeaoaaDoor
