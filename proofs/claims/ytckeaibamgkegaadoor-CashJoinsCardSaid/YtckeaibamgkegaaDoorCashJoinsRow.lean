/- CashJoins: for every input the call returns true, and each argument reads behind it as it read before; what the row lists tied to the program's text. -/
import Derived.Test.YtckeaibamgkegaaDoorCashJ
import Derived.Test.YtckeaibamgkegaaDoorLaidK
import Derived.Test.YtckeaibamgkegaaDoorOpenT
import Derived.Test.YtckeaibamgkegaaDoorOpenF
import Derived.Test.YtckeaibamgkegaaDoorRead
import Derived.Test.YtckeaibamgkegaaDoorTie
import Derived.Test.YtckeaibamgkegaaDoorCards
import Derived.Lib.SmallJoins
import Derived.ChangeMaps5
set_option linter.all false
namespace Go.Proofs.YtckeaibamgkegaaDoor
open Go.ChangeShapes Go.WideShapes Go.ChangeAt Go.RowKit Go.Joins

theorem own_CashJoins : ownKnob Tryd.prog.godebug = none := by kernel_rfl

set_option maxRecDepth 100000 in
theorem CashJoins_lifted (os : Os) (started : os.Started) (H : Type) (enc : TypeId × Value → H) :
    ReturnsInHanded {} Tryd.checked os 8 .any (fun w args => (Rows.cashJoinsSpec.pre enc Tryd.prog Tryd.f8 [] false w args ∧ laidMetH Tryd.prog laidR w) ∧ sizedMet enc Tryd.prog Tryd.f8 (OpenSpec.ofChange Rows.cashJoinsSpec) false w args)
      (Rows.cashJoinsSpec.post enc Tryd.prog Tryd.f8 false true false false) := by
  refine returns_laidR (X := fun w _ => laidMetH Tryd.prog laidR w) (fun _ _ _ hh h => h.of_heap hh) own_CashJoins started (by kernel_rfl) Tryd.func8
    (ChangeSpec.witness_shaped (enc := enc) (C := Tryd.checked) (os := os) (X := fun w _ => laidMetH Tryd.prog laidR w) false (World.laidAll Tryd.prog os laidR) #[.slice none 0 0, .slice none 0 0] 8 (World.laidAll_os _ _ _) (shaped_R os) (by kernel_rfl) (by kernel_rfl) (by kernel_rfl) (door_R os _)) ?_
  intro W base args ds gs before hval0 hW hL hsh
  have hval : ∀ (j : Nat) t v, Tryd.f8.params[j]? = some t → args[j]? = some v → Value.okWide Tryd.prog W .any base t v := hval0
  have hW' := hW
  have hlt := hW.lt
  obtain ⟨p, q, hA0, hV, rfl, hfz, hnd⟩ := hW
  have hA : DataW.TrodAll enc Tryd.prog W 0 (fun _ => true) true Tryd.f8.params.toList args.toList ds p := hA0
  have hLib := lib_of_laidR hL hsh
  rw [Tryd.params8] at hA hval
  have hA1 := hA
  obtain ⟨v0, v1, d0, d1, p0, p1, rfl, rfl, rfl, h0, h1⟩ := trodAll_two hA
  obtain ⟨rfl, rfl⟩ := trodVars_none hV
  have stay : ∀ (W' : World) (sp : Nat → Bool), Later W W' → (∀ y ∈ p0 ++ p1, sp y.block = true) → DataW.TrodAll enc Tryd.prog W' 0 sp true [47, 47] [v0, v1] [d0, d1] (p0 ++ p1) := fun W' sp hb hs =>
    rd_stay (fun t ht => of_decide_eq_true (List.all_eq_true.1 (show ([47, 47].all fun t => decide (t < Tryd.prog.types.size)) = true by kernel_rfl) t ht)) hA1 (fun p hp => hlt p (by simpa using hp)) hb hs
  obtain ⟨k0, h0⟩ := h0
  have e0 : v0.cells.toList = [v0] := by obtain ⟨_, _, _, rfl⟩ := okWide_slice Tryd.underlying47 (hval 0 47 v0 rfl rfl); rfl
  rw [e0] at h0
  obtain ⟨x0, g0, o0⟩ := flows_of_trod h0
  obtain ⟨k1, h1⟩ := h1
  have e1 : v1.cells.toList = [v1] := by obtain ⟨_, _, _, rfl⟩ := okWide_slice Tryd.underlying47 (hval 1 47 v1 rfl rfl); rfl
  rw [e1] at h1
  obtain ⟨x1, g1, o1⟩ := flows_of_trod h1
  clear hA0 hval0
  simp only [List.append_nil, List.nil_append] at hW'
  refine (ljoins_any x0 x1 o0 o1 v0 v1 W g0 g1 hLib (cur_of_laidR hL)).mono fun e W' ⟨he, hg⟩ => ?_
  subst he
  exact ⟨_, rfl, post_of_later (pa := p0 ++ p1) (pv := []) hW' (fun _ _ _ => trodAll_mk1 (shut_bool Tryd.underlying4 _)) (fun sp hs => by have hst := stay W' sp hg (by simpa only [List.append_nil, List.nil_append] using hs); (try simp only [List.append_nil, List.nil_append] at hst); exact hst) (fun _ _ => rfl) (by simp)
    hg (ok_one (by kernel_rfl) rfl (okWide_bool_mk Tryd.underlying4 _))⟩

theorem CashJoins_said : Rows.CashJoinsSaid :=
  OpenClaim.holds_of_wide 8 Tryd.f8 rfl rfl rfl rfl rfl rfl rfl ⟨rfl, rfl, rfl, rfl, rfl⟩ rfl rfl rfl rfl rfl (by kernel_rfl) Tryd.func8 (by kernel_rfl)
    (of_decide_eq_true (by kernel_rfl)) (by unfold Func.isWrapper; first | (rw [if_pos (by decide +kernel)]; kernel_rfl) | (rw [if_neg (by decide +kernel)]; exact ⟨rfl, rfl⟩))
    (fun os started H enc _ => CashJoins_lifted os started H enc)

/-- THE CARD. -/
theorem CashJoins_holds : Rows.CashJoinsCardSaid :=
  Claim7.holds_tied_plain_at .later [] [.data, .data, .data, .data, .sentinel, .sentinel, .widerDeep, .pinned] true Rows.cashJoinsCard.stood.harness true
    CashJoins_said (fun _ h => by cases h) (by kernel_rfl) (fun _ h => by cases h) cashJoins_row_tie rfl ⟨rfl, rfl⟩ (by kernel_rfl) rfl
    (fun f fn hf hfn => by
      obtain rfl : f = 8 := Option.some.inj ((show Tryd.prog.funcNamed Rows.cashJoinsRow.func = some 8 by kernel_rfl).symm.trans hf) |>.symm
      obtain rfl : fn = Tryd.f8 := (Option.some.inj (Tryd.func8.symm.trans hfn)).symm
      exact ⟨by kernel_rfl, fun j t ht => by
        rw [Tryd.params8] at ht
        have hm : t ∈ [47, 47] := by simpa using Array.mem_of_getElem? ht
        have hall : ([47, 47].all fun u => !Tryd.prog.wantsStandIn u) = true := by kernel_rfl
        exact (show Tryd.prog.wantsStandIn t = false by simpa using List.all_eq_true.1 hall t hm)⟩)
    (by kernel_rfl)
#print axioms CashJoins_holds
end Go.Proofs.YtckeaibamgkegaaDoor
