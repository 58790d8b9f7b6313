/- money as a text, plain -/
import Derived.Test.YtckeaibamgkegaaDoorCashA
set_option linter.all false
namespace Go.Proofs.YtckeaibamgkegaaDoor
open Go.RowKit
set_option maxRecDepth 100000

/-- Digits, at least one ahead of the point. -/
def padL (k : Nat) (D : List UInt8) : List UInt8 := List.replicate (k + 1 - D.length) 48 ++ D
def signL (n : Int) : List UInt8 := if n < 0 then [45] else []
/-- Digits with a point ahead of the last k. -/
def pointL (k : Nat) (P : List UInt8) : List UInt8 := P.take (P.length - k) ++ (if k = 0 then [] else 46 :: P.drop (P.length - k))
/-- Money as a text. -/
def textM (c : Nat) (n : Int) : List UInt8 := nmL c ++ 32 :: (signL n ++ pointL (dgN c) (padL (dgN c) (Lib.decDigits n.natAbs)))
theorem padL_len (k : Nat) (D : List UInt8) : (padL k D).length = max (k + 1) D.length := by unfold padL; rw [List.length_append, List.length_replicate]; omega
theorem itoa_sign (n : Int) : Lib.itoa n = signL n ++ Lib.decDigits n.natAbs := by
  unfold signL
  by_cases h : n < 0
  · obtain ⟨u, rfl⟩ : ∃ u : Nat, n = -(u : Int) := ⟨n.natAbs, by omega⟩
    rw [if_pos h, Lib.itoa_neg u (by omega)]
    rw [show (-(u : Int)).natAbs = u by omega]; rfl
  · obtain ⟨u, rfl⟩ := Int.eq_ofNat_of_zero_le (show 0 ≤ n by omega)
    rw [if_neg h, Lib.itoa_nonneg, List.nil_append]; rfl
theorem textM_parts {c k : Nat} (n : Int) (hk : dgN c = k) : textM c n = nmL c ++ [32] ++ signL n ++ (padL k (Lib.decDigits n.natAbs)).take ((padL k (Lib.decDigits n.natAbs)).length - k) ++ (if k = 0 then [] else [46] ++ (padL k (Lib.decDigits n.natAbs)).drop ((padL k (Lib.decDigits n.natAbs)).length - k)) := by
  unfold textM pointL
  rw [hk]
  simp [List.append_assoc]
theorem signL_len (n : Int) : (signL n).length ≤ 1 := by unfold signL; split <;> simp
theorem ext_size (S : ByteArray) (a b : Nat) : (S.extract a b).size ≤ S.size := by
  have h1 : (S.extract a b).data.toList.length = (S.extract a b).size := Array.length_toList
  have h2 : S.data.toList.length = S.size := Array.length_toList
  rw [Lib.extract_data, List.length_take, List.length_drop] at h1
  omega
theorem repeat_nought (m : Nat) : Lib.repeatL [48] m = List.replicate m 48 := by
  induction m with
  | zero => rfl
  | succ m ih => rw [Lib.repeatL, ih]; rfl
/-- The parts of padded digits, as texts. -/
theorem point_parts {k : Nat} {D : List UInt8} {SZ SD SP : ByteArray} (hD : ByteArray.mk D.toArray = SD) (hZ : ByteArray.mk (Lib.repeatL [48] (k + 1 - SD.size)).toArray = SZ) (hP : SZ ++ SD = SP) :
    SP.size = max (k + 1) SD.size ∧ ByteArray.mk ((padL k D).take ((padL k D).length - k)).toArray = SP.extract 0 (SP.size - k) ∧ ByteArray.mk ((padL k D).drop ((padL k D).length - k)).toArray = SP.extract (SP.size - k) SP.size := by
  have hs : SD.size = D.length := by rw [← hD, ba_len]
  have hP2 : SP = ByteArray.mk (padL k D).toArray := by
    rw [← hP, ← hZ, ← hD, ba_app, repeat_nought, ba_len]; rfl
  have hl : SP.size = (padL k D).length := by rw [hP2, ba_len]
  refine ⟨by rw [hl, padL_len, hs], ?_, ?_⟩
  · rw [hl]
    refine ByteArray.ext (Array.toList_inj.1 ?_)
    rw [Lib.extract_data, hP2]
    simp
  · rw [hl]
    refine ByteArray.ext (Array.toList_inj.1 ?_)
    rw [Lib.extract_data, hP2]
    simp
    try (rw [List.take_of_length_le (by simp)])
end Go.Proofs.YtckeaibamgkegaaDoor
