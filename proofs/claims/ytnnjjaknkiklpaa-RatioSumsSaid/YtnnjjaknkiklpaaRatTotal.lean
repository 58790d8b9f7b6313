/- the contracts of ratio's functions at any two ratios -/
import Derived.Test.YtnnjjaknkiklpaaRatPlain
namespace Go.Proofs.Ytnnjjaknkiklpaa
open Go.RowKit

/-- What stands if no error came before; else 0. -/
def okI (F x : Int) : Int := if F = 0 then x else 0
/-- The first error of two. -/
def orI (F x : Int) : Int := if F = 0 then x else F
theorem okI_zero (x : Int) : okI 0 x = x := by unfold okI; rw [if_pos rfl]
theorem orI_zero (x : Int) : orI 0 x = x := by unfold orI; rw [if_pos rfl]
theorem okI_ne {F : Int} (h : F ≠ 0) (x : Int) : okI F x = 0 := by unfold okI; rw [if_neg h]
theorem orI_ne {F : Int} (h : F ≠ 0) (x : Int) : orI F x = F := by unfold orI; rw [if_neg h]
theorem orI_eq_zero {F x : Int} (h : orI F x = 0) : F = 0 ∧ x = 0 := by
  unfold orI at h
  split at h
  · exact ⟨‹_›, h⟩
  · exact absurd h ‹_›

theorem Add_total (an ad bn bd : Int) (w : World) (an1 : -9223372036854775808 ≤ an ∧ an ≤ 9223372036854775807) (ad1 : -9223372036854775808 ≤ ad ∧ ad ≤ 9223372036854775807)
    (bn1 : -9223372036854775808 ≤ bn ∧ bn ≤ 9223372036854775807) (bd1 : -9223372036854775808 ≤ bd ∧ bd ≤ 9223372036854775807) :
    Calls Try.prog 17 #[.agg #[.int .i64 an, .int .i64 ad], .agg #[.int .i64 bn, .int .i64 bd]] w fun e' w' =>
      e' = .returned (.tuple #[.agg #[.int .i64 (okI (firstE an ad bn bd) (rN (an * bd + bn * ad) (ad * bd))), .int .i64 (okI (firstE an ad bn bd) (rD (an * bd + bn * ad) (ad * bd)))], .int .i64 (orI (firstE an ad bn bd) (rE (an * bd + bn * ad) (ad * bd)))]) ∧ Later w w' := by
  by_cases h : firstE an ad bn bd = 0
  · obtain ⟨hA, hB⟩ := (first_zero an1.1 an1.2 ad1.2 bn1.1 bn1.2 bd1.2).1 h
    rw [h, okI_zero, okI_zero, orI_zero]
    exact Add_good an ad bn bd w hA hB
  · rw [okI_ne h, okI_ne h, orI_ne h]
    exact Add_bad an ad bn bd _ w an1.1 an1.2 ad1.1 ad1.2 bn1.1 bn1.2 bd1.1 bd1.2 rfl h

theorem Mul_total (an ad bn bd : Int) (w : World) (an1 : -9223372036854775808 ≤ an ∧ an ≤ 9223372036854775807) (ad1 : -9223372036854775808 ≤ ad ∧ ad ≤ 9223372036854775807)
    (bn1 : -9223372036854775808 ≤ bn ∧ bn ≤ 9223372036854775807) (bd1 : -9223372036854775808 ≤ bd ∧ bd ≤ 9223372036854775807) :
    Calls Try.prog 23 #[.agg #[.int .i64 an, .int .i64 ad], .agg #[.int .i64 bn, .int .i64 bd]] w fun e' w' =>
      e' = .returned (.tuple #[.agg #[.int .i64 (okI (firstE an ad bn bd) (rN (an * bn) (ad * bd))), .int .i64 (okI (firstE an ad bn bd) (rD (an * bn) (ad * bd)))], .int .i64 (orI (firstE an ad bn bd) (rE (an * bn) (ad * bd)))]) ∧ Later w w' := by
  by_cases h : firstE an ad bn bd = 0
  · obtain ⟨hA, hB⟩ := (first_zero an1.1 an1.2 ad1.2 bn1.1 bn1.2 bd1.2).1 h
    rw [h, okI_zero, okI_zero, orI_zero]
    exact Mul_good an ad bn bd w hA hB
  · rw [okI_ne h, okI_ne h, orI_ne h]
    exact Mul_bad an ad bn bd _ w an1.1 an1.2 ad1.1 ad1.2 bn1.1 bn1.2 bd1.1 bd1.2 rfl h

theorem Sub_total (an ad bn bd : Int) (w : World) (an1 : -9223372036854775808 ≤ an ∧ an ≤ 9223372036854775807) (ad1 : -9223372036854775808 ≤ ad ∧ ad ≤ 9223372036854775807)
    (bn1 : -9223372036854775808 ≤ bn ∧ bn ≤ 9223372036854775807) (bd1 : -9223372036854775808 ≤ bd ∧ bd ≤ 9223372036854775807) :
    Calls Try.prog 16 #[.agg #[.int .i64 an, .int .i64 ad], .agg #[.int .i64 bn, .int .i64 bd]] w fun e' w' =>
      e' = .returned (.tuple #[.agg #[.int .i64 (okI (firstE an ad bn bd) (rN (an * bd + -bn * ad) (ad * bd))), .int .i64 (okI (firstE an ad bn bd) (rD (an * bd + -bn * ad) (ad * bd)))], .int .i64 (orI (firstE an ad bn bd) (rE (an * bd + -bn * ad) (ad * bd)))]) ∧ Later w w' := by
  by_cases h : firstE an ad bn bd = 0
  · obtain ⟨hA, hB⟩ := (first_zero an1.1 an1.2 ad1.2 bn1.1 bn1.2 bd1.2).1 h
    rw [h, okI_zero, okI_zero, orI_zero]
    exact Sub_good an ad bn bd w hA hB
  · rw [okI_ne h, okI_ne h, orI_ne h]
    exact Sub_bad an ad bn bd _ w an1.1 an1.2 ad1.1 ad1.2 bn1.1 bn1.2 bd1.1 bd1.2 rfl h

theorem Div_total (an ad bn bd : Int) (w : World) (an1 : -9223372036854775808 ≤ an ∧ an ≤ 9223372036854775807) (ad1 : -9223372036854775808 ≤ ad ∧ ad ≤ 9223372036854775807)
    (bn1 : -9223372036854775808 ≤ bn ∧ bn ≤ 9223372036854775807) (bd1 : -9223372036854775808 ≤ bd ∧ bd ≤ 9223372036854775807) :
    Calls Try.prog 24 #[.agg #[.int .i64 an, .int .i64 ad], .agg #[.int .i64 bn, .int .i64 bd]] w fun e' w' =>
      e' = .returned (.tuple #[.agg #[.int .i64 (okI (firstE an ad bn bd) (rN (an * bd) (ad * bn))), .int .i64 (okI (firstE an ad bn bd) (rD (an * bd) (ad * bn)))], .int .i64 (orI (firstE an ad bn bd) (rE (an * bd) (ad * bn)))]) ∧ Later w w' := by
  by_cases h : firstE an ad bn bd = 0
  · obtain ⟨hA, hB⟩ := (first_zero an1.1 an1.2 ad1.2 bn1.1 bn1.2 bd1.2).1 h
    rw [h, okI_zero, okI_zero, orI_zero]
    exact Div_good an ad bn bd w hA hB
  · rw [okI_ne h, okI_ne h, orI_ne h]
    exact Div_bad an ad bn bd _ w an1.1 an1.2 ad1.1 ad1.2 bn1.1 bn1.2 bd1.1 bd1.2 rfl h

theorem first_ne {an ad bn bd : Int} (an1 : -9223372036854775808 ≤ an ∧ an ≤ 9223372036854775807) (ad1 : -9223372036854775808 ≤ ad ∧ ad ≤ 9223372036854775807)
    (bn1 : -9223372036854775808 ≤ bn ∧ bn ≤ 9223372036854775807) (bd1 : -9223372036854775808 ≤ bd ∧ bd ≤ 9223372036854775807) (h : ¬ (Valid an ad ∧ Valid bn bd)) : firstE an ad bn bd ≠ 0 :=
  fun e => h ((first_zero an1.1 an1.2 ad1.2 bn1.1 bn1.2 bd1.2).1 e)

/-- The range of what a sum, a product .. is. -/
theorem r_range (n d : Int) : (-9223372036854775808 ≤ rN n d ∧ rN n d ≤ 9223372036854775807) ∧ (-9223372036854775808 ≤ rD n d ∧ rD n d ≤ 9223372036854775807) := by
  unfold rN rD
  by_cases h : rE n d = 0
  · rw [if_pos h, if_pos h]
    unfold rE at h
    split at h
    · cases h
    · split at h
      · rename_i h1 h2
        have : 0 ≤ redD n d := by unfold redD; exact Int.ediv_nonneg (by omega) (gcd_bd n d)
        omega
      · cases h
  · rw [if_neg h, if_neg h]; decide
theorem ok_range {F x : Int} (h : -9223372036854775808 ≤ x ∧ x ≤ 9223372036854775807) : -9223372036854775808 ≤ okI F x ∧ okI F x ≤ 9223372036854775807 := by
  unfold okI; split
  · exact h
  · decide
end Go.Proofs.Ytnnjjaknkiklpaa
