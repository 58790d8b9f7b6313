/- CashParses: for every input the call returns true, and each argument reads behind it as it read before; what the row lists tied to the program's text. -/
import Derived.Test.YtckeaibamgkegaaDoorCashZ
import Derived.Test.YtckeaibamgkegaaDoorLaidK
import Derived.Test.YtckeaibamgkegaaDoorOpenT
import Derived.Test.YtckeaibamgkegaaDoorRead
import Derived.Test.YtckeaibamgkegaaDoorTie
import Derived.Test.YtckeaibamgkegaaDoorCards
import Derived.Lib.SmallJoins
import Derived.ChangeMaps5
set_option linter.all false
namespace Go.Proofs.YtckeaibamgkegaaDoor
open Go.ChangeShapes Go.WideShapes Go.ChangeAt Go.RowKit Go.Joins

theorem own_CashParses : ownKnob Tryd.prog.godebug = none := by kernel_rfl

set_option maxRecDepth 100000 in
theorem CashParses_lifted (os : Os) (started : os.Started) (H : Type) (enc : TypeId × Value → H) :
    ReturnsInHanded {} Tryd.checked os 5 .any (fun w args => (Rows.cashParsesSpec.pre enc Tryd.prog Tryd.f5 [] false w args ∧ laidMetH Tryd.prog laidR w) ∧ sizedMet enc Tryd.prog Tryd.f5 (OpenSpec.ofChange Rows.cashParsesSpec) false w args)
      (Rows.cashParsesSpec.post enc Tryd.prog Tryd.f5 false true false false) := by
  refine returns_laidR (X := fun w _ => laidMetH Tryd.prog laidR w) (fun _ _ _ hh h => h.of_heap hh) own_CashParses started (by kernel_rfl) Tryd.func5
    (ChangeSpec.witness_shaped (enc := enc) (C := Tryd.checked) (os := os) (X := fun w _ => laidMetH Tryd.prog laidR w) false (World.laidAll Tryd.prog os laidR) #[.string ⟨#[]⟩] 8 (World.laidAll_os _ _ _) (shaped_R os) (by kernel_rfl) (by kernel_rfl) (by kernel_rfl) (door_R os _)) ?_
  intro W base args ds gs before hval0 hW hL hsh
  have hval : ∀ (j : Nat) t v, Tryd.f5.params[j]? = some t → args[j]? = some v → Value.okWide Tryd.prog W .any base t v := hval0
  have hW' := hW
  have hlt := hW.lt
  obtain ⟨p, q, hA0, hV, rfl, hfz, hnd⟩ := hW
  have hA : DataW.TrodAll enc Tryd.prog W 0 (fun _ => true) true Tryd.f5.params.toList args.toList ds p := hA0
  have hLib := lib_of_laidR hL hsh
  rw [Tryd.params5] at hA hval
  have hA1 := hA
  obtain ⟨v0, d0, rfl, rfl, h0⟩ := trodAll_one hA
  obtain ⟨rfl, rfl⟩ := trodVars_none hV
  have stay : ∀ (W' : World) (sp : Nat → Bool), Later W W' → (∀ y ∈ p, sp y.block = true) → DataW.TrodAll enc Tryd.prog W' 0 sp true [9] [v0] [d0] (p) := fun W' sp hb hs =>
    rd_stay (fun t ht => of_decide_eq_true (List.all_eq_true.1 (show ([9].all fun t => decide (t < Tryd.prog.types.size)) = true by kernel_rfl) t ht)) hA1 (fun p hp => hlt p (by simpa using hp)) hb hs
  obtain ⟨S0, rfl, rfl, rfl, z0⟩ := Go.ChangeMaps.open_string Tryd.underlying9 (hval 0 9 v0 rfl rfl) h0
  obtain ⟨s0, es0⟩ : ∃ l : List UInt8, S0 = ⟨l.toArray⟩ := ⟨S0.data.toList, ByteArray.ext (by simp)⟩
  subst es0
  have ls0 : s0.length ≤ 9223372036854775807 := by unfold maxLen at z0; rw [ba_len] at z0; omega
  clear hA0 hval0
  simp only [List.append_nil, List.nil_append] at hW'
  refine (lparses_any s0 ls0 W hLib (cur_of_laidR hL)).mono fun e W' ⟨he, hg⟩ => ?_
  subst he
  exact ⟨_, rfl, post_of_later (pa := []) (pv := []) hW' (fun _ _ _ => trodAll_mk1 (shut_bool Tryd.underlying4 _)) (fun sp hs => by have hst := stay W' sp hg (by simpa only [List.append_nil, List.nil_append] using hs); (try simp only [List.append_nil, List.nil_append] at hst); exact hst) (fun _ _ => rfl) (by simp)
    hg (ok_one (by kernel_rfl) rfl (okWide_bool_mk Tryd.underlying4 _))⟩

theorem CashParses_said : Rows.CashParsesSaid :=
  OpenClaim.holds_of_wide 5 Tryd.f5 rfl rfl rfl rfl rfl rfl rfl ⟨rfl, rfl, rfl, rfl, rfl⟩ rfl rfl rfl rfl rfl (by kernel_rfl) Tryd.func5 (by kernel_rfl)
    (of_decide_eq_true (by kernel_rfl)) (by unfold Func.isWrapper; first | (rw [if_pos (by decide +kernel)]; kernel_rfl) | (rw [if_neg (by decide +kernel)]; exact ⟨rfl, rfl⟩))
    (fun os started H enc _ => CashParses_lifted os started H enc)

/-- THE CARD. -/
theorem CashParses_holds : Rows.CashParsesCardSaid :=
  Claim7.holds_tied_plain_at .later [] [.data, .data, .data, .data, .sentinel, .sentinel, .widerDeep, .pinned] true Rows.cashParsesCard.stood.harness true
    CashParses_said (fun _ h => by cases h) (by kernel_rfl) (fun _ h => by cases h) cashParses_row_tie rfl ⟨rfl, rfl⟩ (by kernel_rfl) rfl
    (fun f fn hf hfn => by
      obtain rfl : f = 5 := Option.some.inj ((show Tryd.prog.funcNamed Rows.cashParsesRow.func = some 5 by kernel_rfl).symm.trans hf) |>.symm
      obtain rfl : fn = Tryd.f5 := (Option.some.inj (Tryd.func5.symm.trans hfn)).symm
      exact ⟨by kernel_rfl, fun j t ht => by
        rw [Tryd.params5] at ht
        have hm : t ∈ [9] := by simpa using Array.mem_of_getElem? ht
        have hall : ([9].all fun u => !Tryd.prog.wantsStandIn u) = true := by kernel_rfl
        exact (show Tryd.prog.wantsStandIn t = false by simpa using List.all_eq_true.1 hall t hm)⟩)
    (by kernel_rfl)
#print axioms CashParses_holds
end Go.Proofs.YtckeaibamgkegaaDoor
