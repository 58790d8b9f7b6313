/- sums and products of two ratios that may be, by their walks -/
import Derived.Test.YtckeaibamgkegaaDoorRatAdd
import Derived.Test.YtckeaibamgkegaaDoorRatMul
import Derived.Test.YtckeaibamgkegaaDoorRatMath
set_option linter.all false
namespace Go.Proofs.YtckeaibamgkegaaDoor
open Go.RowKit
set_option maxRecDepth 100000

theorem ediv_range {x g : Int} (x0 : 0 < x) (hg : g ∣ x) (g0 : 0 < g) : 1 ≤ x / g ∧ x / g ≤ x := by
  have h1 : x / g * g = x := Int.ediv_mul_cancel hg
  have h2 : 0 < x / g := by
    rw [Int.mul_comm] at h1
    exact pos_right (by rw [h1]; exact x0) g0
  exact ⟨by omega, Int.ediv_le_self _ (by omega)⟩

theorem gcdI_dvd (a b : Int) : gcdI a b ∣ a ∧ gcdI a b ∣ b := ⟨Int.gcd_dvd_left a b, Int.gcd_dvd_right a b⟩

theorem add_any (an ad bn bd : Int) (w : World) (hA : Valid an ad) (hB : Valid bn bd) :
    Calls Tryd.prog 51 #[.agg #[.int .i64 an, .int .i64 ad], .agg #[.int .i64 bn, .int .i64 bd]] w fun e' w' =>
      e' = .returned (.tuple #[.agg #[.int .i64 (rN (an * bd + bn * ad) (ad * bd)), .int .i64 (rD (an * bd + bn * ad) (ad * bd))], .int .i64 (rE (an * bd + bn * ad) (ad * bd))]) ∧ Later w w' := by
  have ad0 := hA.d0; have ad1 := hA.d1; have an0 := hA.n0; have an1 := hA.n1
  have bd0 := hB.d0; have bd1 := hB.d1; have bn0 := hB.n0; have bn1 := hB.n1
  obtain ⟨g, hg⟩ : ∃ g, gcdI ad bd = g := ⟨_, rfl⟩
  obtain ⟨a', ea⟩ : ∃ a', ad / g = a' := ⟨_, rfl⟩
  obtain ⟨b', eb⟩ : ∃ b', bd / g = b' := ⟨_, rfl⟩
  obtain ⟨P, hP⟩ : ∃ P, plusM (an.natAbs * b'.natAbs) (sgn an b') (bn.natAbs * a'.natAbs) (sgn bn a') = P := ⟨_, rfl⟩
  obtain ⟨S, hS⟩ : ∃ S, plusS (an.natAbs * b'.natAbs) (sgn an b') (bn.natAbs * a'.natAbs) (sgn bn a') = S := ⟨_, rfl⟩
  obtain ⟨h, hh⟩ : ∃ h, gcdI (P % g) g = h := ⟨_, rfl⟩
  obtain ⟨N0, hN⟩ : ∃ N0, N0 = an * b' + bn * a' := ⟨_, rfl⟩
  have hsg : signI S P = N0 := by rw [← hS, ← hP, plus_signed, sgn_mul, sgn_mul, hN]
  have gd := gcdI_dvd ad bd
  rw [hg] at gd
  have g1 : 1 ≤ g := by
    have := Int.gcd_pos_of_ne_zero_left bd (show ad ≠ 0 by omega)
    rw [← hg]; unfold gcdI; omega
  have g2 : g ≤ ad := Int.le_of_dvd ad0 gd.1
  have ra := ediv_range ad0 gd.1 (by omega)
  have rb := ediv_range bd0 gd.2 (by omega)
  rw [ea] at ra; rw [eb] at rb
  have pb := plus_bd (sgn an b') (sgn bn a') (mul_natAbs_nonneg an b') (mul_natAbs_nonneg bn a')
  rw [hP] at pb
  have hmul : (an.natAbs : Int) * b'.natAbs ≤ 9223372036854775807 * 9223372036854775807 := Int.mul_le_mul (by omega) (by omega) (by omega) (by omega)
  have hmul2 : (bn.natAbs : Int) * a'.natAbs ≤ 9223372036854775807 * 9223372036854775807 := Int.mul_le_mul (by omega) (by omega) (by omega) (by omega)
  have hPabs : (N0.natAbs : Int) = P := by rw [← hsg, signI_abs]; omega
  have hhN : gcdI N0 g = h := by
    rw [← hh]; unfold gcdI
    have e : Int.gcd (P % g) g = Int.gcd P g := by
      have := Int.gcd_add_mul_left_left g (P % g) (P / g)
      rw [Int.emod_add_mul_ediv] at this
      exact this.symm
    rw [e, ← hPabs]; simp [Int.gcd]
  obtain ⟨g0, h0, dN, dg, fa, fb, a0, b0, fB, bh0, E1, E2, co⟩ := sum_red hA hB hg ea eb hN hhN
  have h2 : h ≤ g := Int.le_of_dvd g0 dg
  have dP : h ∣ P := by rw [← hPabs]; exact Int.dvd_natAbs.2 dN
  have hdiv : ((N0 / h).natAbs : Int) = P / h := by
    rw [Int.natAbs_ediv_of_dvd dN, Int.natCast_ediv, hPabs]
    congr 1; omega
  have R := r_of (n := an * bd + bn * ad) (d := ad * bd) (Int.mul_pos g0 h0) (Int.mul_pos a0 bh0) E1 E2 co
  have rbh := ediv_range bd0 (Int.dvd_trans dg gd.2) h0
  refine add_walk an ad bn bd w an0 an1 bn0 bn1 ad0 ad1 bd0 bd1 g a' b' P h 0 _ _ _ S (Lib.hid hg) g1 (by omega) ea eb ra.1 (by omega) rb.1 (by omega) (Lib.hid hP) (Lib.hid hS) (Lib.hid hh) (by omega) (by omega)
    (bd / h) rfl rbh.1 (by omega) ?_ ?_ ?_ pb.1 (by omega)
  · intro hz
    have hN00 : N0 = 0 := by omega
    have e1 : an * bd + bn * ad = 0 := by rw [E1, hN00]; simp
    have R0 := (r_of (n := an * bd + bn * ad) (d := ad * bd) (k := ad * bd) (n' := 0) (d' := 1) (Int.mul_pos ad0 bd0) (by omega) (by rw [e1]; simp) (by simp) (by simp)).1 (by simp) (by omega)
    exact R0
  · intro _ hf1 hf2
    have := R.1 (by omega) hf2
    refine ⟨?_, this.2⟩
    rw [this.1, signI_div S dP, hsg]
  · intro _ hf
    exact R.2 (fun hx => hf ⟨by omega, hx.2⟩)

end Go.Proofs.YtckeaibamgkegaaDoor
