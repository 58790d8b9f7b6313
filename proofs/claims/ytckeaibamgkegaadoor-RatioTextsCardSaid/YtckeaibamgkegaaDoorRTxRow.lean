/- RatioTexts: for every input the call returns true, and each argument reads behind it as it read before; what the row lists tied to the program's text. -/
import Derived.Test.YtckeaibamgkegaaDoorRTxE
import Derived.Test.YtckeaibamgkegaaDoorLaidT
import Derived.Test.YtckeaibamgkegaaDoorOpenT
import Derived.Test.YtckeaibamgkegaaDoorRead
import Derived.Test.YtckeaibamgkegaaDoorTie
import Derived.Test.YtckeaibamgkegaaDoorCards
import Derived.Lib.SmallJoins
import Derived.ChangeMaps5
set_option linter.all false
namespace Go.Proofs.YtckeaibamgkegaaDoor
open Go.ChangeShapes Go.WideShapes Go.ChangeAt Go.RowKit Go.Joins

theorem own_RatioTexts : ownKnob Tryd.prog.godebug = none := by kernel_rfl
theorem door_RatioTexts (os : Os) (args : Array Value) : laidMetH Tryd.prog laidR ((World.doorLaid Tryd.prog 400 os).forCall (fun _ _ => 0) ⟨#[], args, []⟩).memory :=
  laidMetH_of_parts3 (fuel := 8) (laidMet_of_run' 8 (by kernel_rfl) (by kernel_rfl)) (by kernel_rfl) (by kernel_rfl)

set_option maxRecDepth 100000 in
theorem RatioTexts_lifted (os : Os) (started : os.Started) (H : Type) (enc : TypeId × Value → H) :
    ReturnsInHanded {} Tryd.checked os 3 .any (fun w args => (Rows.ratioTextsSpec.pre enc Tryd.prog Tryd.f3 [] false w args ∧ laidMetH Tryd.prog laidR w) ∧ sizedMet enc Tryd.prog Tryd.f3 (OpenSpec.ofChange Rows.ratioTextsSpec) false w args)
      (Rows.ratioTextsSpec.post enc Tryd.prog Tryd.f3 false true false false) := by
  refine returns_laidR (X := fun w _ => laidMetH Tryd.prog laidR w) (fun _ _ _ hh h => h.of_heap hh) own_RatioTexts started (by kernel_rfl) Tryd.func3
    (ChangeSpec.witness_shaped (enc := enc) (C := Tryd.checked) (os := os) (X := fun w _ => laidMetH Tryd.prog laidR w) false (World.doorLaid Tryd.prog 400 os) #[.agg #[.int .i64 0, .int .i64 0], .string ⟨#[]⟩] 8 rfl (World.shaped_of_RefB (by kernel_rfl) (by kernel_rfl)) (by kernel_rfl) (by kernel_rfl) (by kernel_rfl) (door_RatioTexts os _)) ?_
  intro W base args ds gs before hval0 hW hL hsh
  have hval : ∀ (j : Nat) t v, Tryd.f3.params[j]? = some t → args[j]? = some v → Value.okWide Tryd.prog W .any base t v := hval0
  have hW' := hW
  have hlt := hW.lt
  obtain ⟨p, q, hA0, hV, rfl, hfz, hnd⟩ := hW
  have hA : DataW.TrodAll enc Tryd.prog W 0 (fun _ => true) true Tryd.f3.params.toList args.toList ds p := hA0
  have hLib := lib_of_laidR hL hsh
  rw [Tryd.params3] at hA hval
  have hA1 := hA
  obtain ⟨v0, v1, d0, d1, p0, p1, rfl, rfl, rfl, h0, h1⟩ := trodAll_two hA
  obtain ⟨rfl, rfl⟩ := trodVars_none hV
  have stay : ∀ (W' : World) (sp : Nat → Bool), Later W W' → (∀ p ∈ p0 ++ p1, sp p.block = true) → DataW.TrodAll enc Tryd.prog W' 0 sp true [23, 9] [v0, v1] [d0, d1] (p0 ++ p1) := fun W' sp hb hs =>
    rd_stay (fun t ht => of_decide_eq_true (List.all_eq_true.1 (show ([23, 9].all fun t => decide (t < Tryd.prog.types.size)) = true by kernel_rfl) t ht)) hA1 (fun p hp => hlt p (by simpa using hp)) hb hs
  obtain ⟨k0, h0⟩ := h0
  obtain ⟨cs0, rfl, -⟩ := okWide_struct Tryd.underlying23 (hval 0 23 v0 rfl rfl)
  obtain ⟨a0, b0, e0, ia0, ib0⟩ := ratio_of_trod h0
  have q0 : cs0 = #[.int .i64 a0, .int .i64 b0] := by cases cs0; simpa [Value.cells] using e0
  subst q0
  obtain ⟨S1, rfl, rfl, rfl, z1⟩ := Go.ChangeMaps.open_string Tryd.underlying9 (hval 1 9 v1 rfl rfl) h1
  obtain ⟨s1, es1⟩ : ∃ l : List UInt8, S1 = ⟨l.toArray⟩ := ⟨S1.data.toList, ByteArray.ext (by simp)⟩
  subst es1
  have ls1 : s1.length ≤ 9223372036854775807 := by unfold maxLen at z1; rw [ba_len] at z1; omega
  clear hA0 hval0
  simp only [List.append_nil, List.nil_append] at hW'
  refine (rtexts_any a0 b0 ia0 ib0 s1 ls1 W hLib).mono fun e W' ⟨he, hg⟩ => ?_
  subst he
  exact ⟨_, rfl, post_of_later (pa := p0) (pv := []) hW' (fun _ _ _ => trodAll_mk1 (shut_bool Tryd.underlying4 _)) (fun sp hs => by have hst := stay W' sp hg (by simpa only [List.append_nil, List.nil_append] using hs); (try simp only [List.append_nil, List.nil_append] at hst); exact hst) (fun _ _ => rfl) (by simp)
    hg (ok_one (by kernel_rfl) rfl (okWide_bool_mk Tryd.underlying4 _))⟩

theorem RatioTexts_said : Rows.RatioTextsSaid :=
  OpenClaim.holds_of_wide 3 Tryd.f3 rfl rfl rfl rfl rfl rfl rfl ⟨rfl, rfl, rfl, rfl, rfl⟩ rfl rfl rfl rfl rfl (by kernel_rfl) Tryd.func3 (by kernel_rfl)
    (of_decide_eq_true (by kernel_rfl)) (by unfold Func.isWrapper; first | (rw [if_pos (by decide +kernel)]; kernel_rfl) | (rw [if_neg (by decide +kernel)]; exact ⟨rfl, rfl⟩))
    (fun os started H enc _ => RatioTexts_lifted os started H enc)

/-- THE CARD. -/
theorem RatioTexts_holds : Rows.RatioTextsCardSaid :=
  Claim7.holds_tied_plain_at .later [] [.data, .data, .data, .sentinel, .sentinel] true Rows.ratioTextsCard.stood.harness true
    RatioTexts_said (fun _ h => by cases h) (by kernel_rfl) (fun _ h => by cases h) ratioTexts_row_tie rfl ⟨rfl, rfl⟩ (by kernel_rfl) rfl
    (fun f fn hf hfn => by
      obtain rfl : f = 3 := Option.some.inj ((show Tryd.prog.funcNamed Rows.ratioTextsRow.func = some 3 by kernel_rfl).symm.trans hf) |>.symm
      obtain rfl : fn = Tryd.f3 := (Option.some.inj (Tryd.func3.symm.trans hfn)).symm
      exact ⟨by kernel_rfl, fun j t ht => by
        rw [Tryd.params3] at ht
        have hm : t ∈ [23, 9] := by simpa using Array.mem_of_getElem? ht
        have hall : ([23, 9].all fun u => !Tryd.prog.wantsStandIn u) = true := by kernel_rfl
        exact (show Tryd.prog.wantsStandIn t = false by simpa using List.all_eq_true.1 hall t hm)⟩)
    (by kernel_rfl)
#print axioms RatioTexts_holds
end Go.Proofs.YtckeaibamgkegaaDoor
