/- RatioRanks: its walk and the plain law, joined -/
import Derived.Test.YtnnjjaknkiklpaaRatTotal
import Derived.Test.YtnnjjaknkiklpaaRatRanks
namespace Go.Proofs.Ytnnjjaknkiklpaa
open Go.RowKit

theorem ranks_any (an ad bn bd cn cd : Int) (w : World) (an1 : -9223372036854775808 ≤ an ∧ an ≤ 9223372036854775807) (ad1 : -9223372036854775808 ≤ ad ∧ ad ≤ 9223372036854775807)
    (bn1 : -9223372036854775808 ≤ bn ∧ bn ≤ 9223372036854775807) (bd1 : -9223372036854775808 ≤ bd ∧ bd ≤ 9223372036854775807) (cn1 : -9223372036854775808 ≤ cn ∧ cn ≤ 9223372036854775807) (cd1 : -9223372036854775808 ≤ cd ∧ cd ≤ 9223372036854775807) :
    Calls Try.prog 4 #[.agg #[.int .i64 an, .int .i64 ad], .agg #[.int .i64 bn, .int .i64 bd], .agg #[.int .i64 cn, .int .i64 cd]] w fun e w' => e = .returned (.bool true) ∧ Later w w' := by
  by_cases hAB : Valid an ad ∧ Valid bn bd
  · obtain ⟨hA, hB⟩ := hAB
    have ha := hA.d0; have hb := hB.d0
    have HP := fun w => Add_total an ad cn cd w an1 ad1 cn1 cd1
    have HQ := fun w => Add_total bn bd cn cd w bn1 bd1 cn1 cd1
    have HS := fun w => Sub_good an ad bn bd w hA hB
    have hD := mul_pos' ha hb
    have sg := fun h => sign_r (n := an * bd + -bn * ad) hD h
    have H8 : ∀ x, cmpI (an * bd) (bn * ad) = x → orI (firstE an ad cn cd) (rE (an * cd + cn * ad) (ad * cd)) = 0 → orI (firstE bn bd cn cd) (rE (bn * cd + cn * bd) (bd * cd)) = 0 →
        Hid (∀ w, Calls Try.prog 14 #[.agg #[.int .i64 (okI (firstE an ad cn cd) (rN (an * cd + cn * ad) (ad * cd))), .int .i64 (okI (firstE an ad cn cd) (rD (an * cd + cn * ad) (ad * cd)))], .agg #[.int .i64 (okI (firstE bn bd cn cd) (rN (bn * cd + cn * bd) (bd * cd))), .int .i64 (okI (firstE bn bd cn cd) (rD (bn * cd + cn * bd) (bd * cd)))]] w fun e' w' => e' = .returned (.tuple #[.int .i64 x, .int .i64 0]) ∧ Later w w') := by
      intro x hx h1 h2
      obtain ⟨f1, g1⟩ := orI_eq_zero h1
      obtain ⟨f2, g2⟩ := orI_eq_zero h2
      have hC := ((first_zero an1.1 an1.2 ad1.2 cn1.1 cn1.2 cd1.2).1 f1).2
      have hc := hC.d0
      rw [f1, f2, okI_zero, okI_zero, okI_zero, okI_zero]
      obtain ⟨_, _, _, _, V1⟩ := r_spec (mul_pos' ha hc) g1
      obtain ⟨_, _, _, _, V2⟩ := r_spec (mul_pos' hb hc) g2
      refine Lib.hid fun w => ?_
      have := compare_good _ _ _ _ w V1 V2
      rwa [cmp_add hA hB hC g1 g2, hx] at this
    rcases cmp_cases (an * bd) (bn * ad) with ⟨h, e1, e2⟩ | ⟨h, e1, e2⟩ | ⟨h, e1, e2⟩
    · have G1 := fun w => compare_good an ad bn bd w hA hB
      have G2 := fun w => compare_good bn bd an ad w hB hA
      rw [e1] at G1; rw [e2] at G2
      refine ranks_lt an ad bn bd cn cd _ _ _ _ _ _ _ _ _ _ _ w (Lib.hid G1) (Lib.hid G2) (Lib.hid fun w => round_good an ad w hA) (Lib.hid fun w => round_good bn bd w hB) (Lib.hid HS) (Lib.hid HP) (Lib.hid HQ) (H8 _ e1) ?_ ?_
      · have := round_mono ha hb h
        simp; omega
      · intro hi
        exact (sg hi).1.2 (by rw [Int.neg_mul]; omega)
    · obtain ⟨rfl, rfl⟩ := valid_unique hA hB h
      have G1 := fun w => compare_good an ad an ad w hA hB
      rw [e1] at G1
      refine ranks_eq an ad cn cd _ _ _ _ _ _ _ _ _ _ w (Lib.hid G1) (Lib.hid G1) (Lib.hid fun w => round_good an ad w hA) (Lib.hid fun w => round_good an ad w hA) (Lib.hid HS) (Lib.hid HP) (Lib.hid HQ) (H8 _ e1) ?_
      intro hi
      exact (sg hi).2.1.2 (by rw [Int.neg_mul]; omega)
    · have G1 := fun w => compare_good an ad bn bd w hA hB
      have G2 := fun w => compare_good bn bd an ad w hB hA
      rw [e1] at G1; rw [e2] at G2
      refine ranks_gt an ad bn bd cn cd _ _ _ _ _ _ _ _ _ _ _ w (Lib.hid G1) (Lib.hid G2) (Lib.hid fun w => round_good an ad w hA) (Lib.hid fun w => round_good bn bd w hB) (Lib.hid HS) (Lib.hid HP) (Lib.hid HQ) (H8 _ e1) ?_ ?_
      · have := round_mono hb ha h
        simp; omega
      · intro hi
        exact (sg hi).2.2.2 (by rw [Int.neg_mul]; omega)
  · have h1 := first_ne an1 ad1 bn1 bd1 hAB
    have h2 := first_ne bn1 bd1 an1 ad1 (fun h => hAB h.symm)
    exact ranks_bad an ad bn bd cn cd _ _ w (Lib.hid fun w => compare_bad an ad bn bd _ w an1.1 an1.2 ad1.1 ad1.2 bn1.1 bn1.2 bd1.1 bd1.2 (Lib.hid rfl) (by simpa using h1))
      (Lib.hid fun w => compare_bad bn bd an ad _ w bn1.1 bn1.2 bd1.1 bd1.2 an1.1 an1.2 ad1.1 ad1.2 (Lib.hid rfl) (by simpa using h2)) (by simpa using h1) (by simpa using h2)
end Go.Proofs.Ytnnjjaknkiklpaa
