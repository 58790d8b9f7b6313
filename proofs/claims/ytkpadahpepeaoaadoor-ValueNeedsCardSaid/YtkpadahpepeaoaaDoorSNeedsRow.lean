/- ValueNeeds: for every input the call returns true, and each argument reads behind it as it read before; the table of shapes tied to the program's text. -/
import Derived.Test.YtkpadahpepeaoaaDoorSNeeds
import Derived.Test.YtkpadahpepeaoaaDoorJu
import Derived.Test.YtkpadahpepeaoaaDoorTie
import Derived.Test.YtkpadahpepeaoaaDoorCards
import Derived.Lib.SmallJoins
set_option linter.all false
namespace Go.Proofs.YtkpadahpepeaoaaDoor
open Go.ChangeShapes Go.WideShapes Go.ChangeAt Go.RowKit Go.Joins

theorem own_ValueNeeds : ownKnob Tryd.prog.godebug = none := by kernel_rfl
theorem door_ValueNeeds (os : Os) (args : Array Value) : laidMetH Tryd.prog laidT ((World.doorLaid Tryd.prog 44 os).forCall (fun _ _ => 0) ⟨#[], args, []⟩).memory :=
  laidMetH_of_parts3 (fuel := 8) (laidMet_of_run' 8 (by kernel_rfl) (by kernel_rfl)) (by kernel_rfl) (by kernel_rfl)

set_option maxRecDepth 100000 in
theorem ValueNeeds_lifted (os : Os) (started : os.Started) (H : Type) (enc : TypeId × Value → H) :
    ReturnsInHanded {} Tryd.checked os 7 .any (fun w args => (Rows.valueNeedsSpec.pre enc Tryd.prog Tryd.f7 [] false w args ∧ laidMetH Tryd.prog laidT w) ∧ sizedMet enc Tryd.prog Tryd.f7 (OpenSpec.ofChange Rows.valueNeedsSpec) false w args)
      (Rows.valueNeedsSpec.post enc Tryd.prog Tryd.f7 false true false false) := by
  refine returnsInHanded_of_change_and (C := Tryd.checked) (X := fun w _ => laidMetH Tryd.prog laidT w) (fun _ _ _ hh h => h.of_heap hh) own_ValueNeeds started (by kernel_rfl) Tryd.func7
    (ChangeSpec.witness_shaped (enc := enc) (C := Tryd.checked) (os := os) (X := fun w _ => laidMetH Tryd.prog laidT w) false (World.doorLaid Tryd.prog 44 os) #[.slice none 0 0, .slice none 0 0, .agg #[.int .i64 0, .int .i64 0]] 8 rfl (World.shaped_of_RefB (by kernel_rfl) (by kernel_rfl)) (by kernel_rfl) (by kernel_rfl) (by kernel_rfl) (door_ValueNeeds os _)) ?_
  intro W base args ds gs before hval0 hW _ _ hL _
  have hval : ∀ (j : Nat) t v, Tryd.f7.params[j]? = some t → args[j]? = some v → Value.okWide Tryd.prog W .any base t v := hval0
  have hW' := hW
  have hlt := hW.lt
  obtain ⟨p, q, hA0, hV, rfl, hfz, hnd⟩ := hW
  have hA : DataW.TrodAll enc Tryd.prog W 0 (fun _ => true) true Tryd.f7.params.toList args.toList ds p := hA0
  have hS := shapes_of_laid hL
  rw [Tryd.params7] at hA hval
  have hA1 := hA
  obtain ⟨v0, v1, v2, d0, d1, d2, p0, p1, p2, rfl, rfl, rfl, h0, h1, h2⟩ := trodAll_three hA
  obtain ⟨rfl, rfl⟩ := trodVars_none hV
  have stay : ∀ (W' : World) (sp : Nat → Bool), Later W W' → (∀ p ∈ p0 ++ p1 ++ p2, sp p.block = true) → DataW.TrodAll enc Tryd.prog W' 0 sp true [22, 23, 24] [v0, v1, v2] [d0, d1, d2] (p0 ++ p1 ++ p2) := fun W' sp hb hs =>
    args_stay (fun t ht => of_decide_eq_true (List.all_eq_true.1 (show ([22, 23, 24].all fun t => decide (t < Tryd.prog.types.size)) = true by kernel_rfl) t ht)) hA1 (fun p hp => hlt p (by simpa using hp)) hb hs
  obtain ⟨k0, h0⟩ := h0
  have w0 : Cell.okWide Tryd.prog W .any base 22 v0 := by have := hval 0 22 v0 rfl rfl; simpa only [Value.okWide, Tryd.underlying22] using this
  have e0 : v0.cells.toList = [v0] := by obtain ⟨_, _, _, rfl⟩ := okWide_slice Tryd.underlying22 (hval 0 22 v0 rfl rfl); rfl
  rw [e0] at h0
  obtain ⟨x0, g0, o0⟩ := nodes_of_trod w0 h0
  obtain ⟨k1, h1⟩ := h1
  have w1 : Cell.okWide Tryd.prog W .any base 23 v1 := by have := hval 1 23 v1 rfl rfl; simpa only [Value.okWide, Tryd.underlying23] using this
  have e1 : v1.cells.toList = [v1] := by obtain ⟨_, _, _, rfl⟩ := okWide_slice Tryd.underlying23 (hval 1 23 v1 rfl rfl); rfl
  rw [e1] at h1
  obtain ⟨x1, g1, o1⟩ := tolds_of_trod w1 h1
  obtain ⟨k2, h2⟩ := h2
  obtain ⟨a2, b2, e2, ia2, ib2⟩ := two_of_trod h2
  obtain ⟨s2, rfl, -, -⟩ : ∃ cs, v2 = .agg cs ∧ cs.size = Tryd.prog.cellsOf 24 ∧ Row.okWide Tryd.prog W .any base 24 cs := by have := hval 2 24 v2 rfl rfl; simpa only [Value.okWide, Tryd.underlying24] using this
  have q2 : s2 = #[.int .i64 a2, .int .i64 b2] := by cases s2; simpa [Value.cells] using e2
  subst q2
  clear hA0 hval0
  simp only [List.append_nil] at hW'
  refine (needs_any x0 x1 a2 b2 v0 v1 W o0 o1 ib2 hS g0 g1).mono fun e W' ⟨he, hg⟩ => ?_
  subst he
  exact ⟨_, rfl, post_of_later (pa := p0 ++ p1 ++ p2) (pv := []) hW' (fun _ _ _ => trodAll_mk1 (shut_bool Tryd.underlying4 _)) (fun sp hs => stay W' sp hg hs) (fun _ _ => rfl) (by simp)
    hg (ok_one (by kernel_rfl) rfl (okWide_bool_mk Tryd.underlying4 _))⟩

theorem ValueNeeds_said : Rows.ValueNeedsSaid :=
  OpenClaim.holds_of_wide 7 Tryd.f7 rfl rfl rfl rfl rfl rfl rfl ⟨rfl, rfl, rfl, rfl, rfl⟩ rfl rfl rfl rfl rfl (by kernel_rfl) Tryd.func7 (by kernel_rfl)
    (of_decide_eq_true (by kernel_rfl)) (by unfold Func.isWrapper; first | (rw [if_pos (by decide +kernel)]; kernel_rfl) | (rw [if_neg (by decide +kernel)]; exact ⟨rfl, rfl⟩))
    (fun os started H enc _ => ValueNeeds_lifted os started H enc)

/-- THE CARD. -/
theorem ValueNeeds_holds : Rows.ValueNeedsCardSaid :=
  Claim7.holds_tied_plain_at .later [] [.data] true (true, "759c720a8e0040d270ec94249336b11c772b3a7cc9fe27a00400f89f00d2d35e") false
    ValueNeeds_said (fun _ h => by cases h) (by kernel_rfl) (fun _ h => by cases h) valueNeeds_row_tie rfl ⟨rfl, rfl⟩ (by kernel_rfl) rfl
    (fun f fn hf hfn => by
      obtain rfl : f = 7 := Option.some.inj ((show Tryd.prog.funcNamed Rows.valueNeedsRow.func = some 7 by kernel_rfl).symm.trans hf) |>.symm
      obtain rfl : fn = Tryd.f7 := (Option.some.inj (Tryd.func7.symm.trans hfn)).symm
      exact ⟨by kernel_rfl, fun j t ht => by
        rw [Tryd.params7] at ht
        have hm : t ∈ [22, 23, 24] := by simpa using Array.mem_of_getElem? ht
        have hall : ([22, 23, 24].all fun u => !Tryd.prog.wantsStandIn u) = true := by kernel_rfl
        exact (show Tryd.prog.wantsStandIn t = false by simpa using List.all_eq_true.1 hall t hm)⟩)
    (by kernel_rfl)
#print axioms ValueNeeds_holds
end Go.Proofs.YtkpadahpepeaoaaDoor
