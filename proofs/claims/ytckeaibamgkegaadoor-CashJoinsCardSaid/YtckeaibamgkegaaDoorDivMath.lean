/- plain arithmetic for a division of two words by one -/
import Derived.WalkKit
import Derived.Lib.BitFns
import Derived.Lib.ItoaNum
set_option linter.all false
namespace Go.Proofs.YtckeaibamgkegaaDoor
open Go.RowKit
set_option maxRecDepth 100000

/-- The state of the loop that lowers a guessed digit. -/
structure DInv (a b u d q r : Int) : Prop where
  e : q * a + r = u
  r0 : 0 ≤ r
  q0 : 0 ≤ q
  up : u * 4294967296 + d < q * a * 4294967296 + q * b + (a * 4294967296 + b)
  qb : q ≤ 4294967297

structure DEnd (a b u d q : Int) : Prop where
  q0 : 0 ≤ q
  qb : q ≤ 4294967295
  lo : q * a * 4294967296 + q * b ≤ u * 4294967296 + d
  up : u * 4294967296 + d < q * a * 4294967296 + q * b + (a * 4294967296 + b)

theorem DInv.start {a b u d : Int} (a1 : 2147483648 ≤ a) (a2 : a ≤ 4294967295) (b1 : 0 ≤ b) (b2 : b ≤ 4294967295) (u1 : 0 ≤ u) (u2 : u < a * 4294967296 + b) (d1 : 0 ≤ d) (d2 : d ≤ 4294967295) :
    DInv a b u d (u / a) (u - u / a * a) := by
  have h1 := Int.emod_add_mul_ediv u a
  have h2 := Int.emod_nonneg u (show a ≠ 0 by omega)
  have h3 := Int.emod_lt_of_pos u (show 0 < a by omega)
  have h4 : u / a * a = a * (u / a) := Int.mul_comm _ _
  have h0 : 0 ≤ u / a := Int.ediv_nonneg u1 (by omega)
  have hq : u / a < 4294967298 := Int.ediv_lt_of_lt_mul (by omega) (by omega)
  have h5 : 0 ≤ u / a * b := Int.mul_nonneg h0 b1
  refine ⟨by omega, by omega, h0, ?_, by omega⟩
  rw [h4]
  generalize a * (u / a) = P at *
  omega

theorem DInv.small {a b u d q r : Int} (h : DInv a b u d q r) (b1 : 0 ≤ b) (b2 : b ≤ 4294967295) (hq : q < 4294967296) : 0 ≤ q * b ∧ q * b ≤ 18446744073709551615 := by
  refine ⟨Int.mul_nonneg h.q0 b1, ?_⟩
  have := Int.mul_le_mul (show q ≤ 4294967295 by omega) b2 b1 (by omega)
  omega

theorem DInv.stop {a b u d q r : Int} (h : DInv a b u d q r) (hq : q < 4294967296) (hc : q * b ≤ 4294967296 * r + d) : DEnd a b u d q := by
  obtain ⟨e, r0, q0, up, qb⟩ := h
  refine ⟨q0, by omega, ?_, up⟩
  generalize q * a = P at *
  generalize q * b = S at *
  omega

theorem DInv.next {a b u d q r : Int} (h : DInv a b u d q r) (a1 : 2147483648 ≤ a) (a2 : a ≤ 4294967295) (b1 : 0 ≤ b) (b2 : b ≤ 4294967295) (u2 : u < a * 4294967296 + b) (d1 : 0 ≤ d) (d2 : d ≤ 4294967295)
    (hc : 4294967296 ≤ q ∨ 4294967296 * r + d < q * b) : 1 ≤ q ∧ DInv a b u d (q - 1) (r + a) := by
  obtain ⟨e, r0, q0, up, qb⟩ := h
  have e1 : (q - 1) * a = q * a - a := by rw [Int.sub_mul]; omega
  have e2 : (q - 1) * b = q * b - b := by rw [Int.sub_mul]; omega
  have hq : 1 ≤ q := by
    rcases hc with h | h
    · omega
    · by_cases hz : q = 0
      · subst hz; simp at h; omega
      · omega
  have key : u * 4294967296 + d < q * a * 4294967296 + q * b := by
    rcases hc with h | h
    · have k1 := Int.mul_le_mul h (Int.le_refl a) (by omega) (by omega)
      have k2 := Int.mul_le_mul h (Int.le_refl b) (by omega) (by omega)
      generalize q * a = P at *
      generalize q * b = S at *
      omega
    · generalize q * a = P at *
      generalize q * b = S at *
      omega
  refine ⟨hq, ?_, by omega, by omega, ?_, by omega⟩
  · rw [e1]; omega
  · rw [e1, e2]
    generalize q * a = P at *
    generalize q * b = S at *
    omega

theorem DInv.leave {a b u d q r : Int} (h : DInv a b u d q r) (a1 : 2147483648 ≤ a) (b1 : 0 ≤ b) (b2 : b ≤ 4294967295) (u2 : u < a * 4294967296 + b) (d1 : 0 ≤ d) (d2 : d ≤ 4294967295) (hq : q ≤ 4294967296) (hr : 4294967296 ≤ r) : DEnd a b u d q := by
  obtain ⟨e, r0, q0, up, qb⟩ := h
  have k : q * b ≤ 4294967296 * 4294967295 := Int.mul_le_mul hq b2 b1 (by omega)
  have lo : q * a * 4294967296 + q * b ≤ u * 4294967296 + d := by
    generalize q * a = P at *
    generalize q * b = S at *
    omega
  refine ⟨q0, ?_, lo, up⟩
  by_cases hz : q = 4294967296
  · subst hz; omega
  · omega

/-- Two digits make the quotient. -/
theorem two_digits {a b u v1 v0 q1 q0 Y : Int} (hY : Y = a * 4294967296 + b) (h1 : DEnd a b u v1 q1) (h0 : DEnd a b (u * 4294967296 + v1 - q1 * Y) v0 q0) (hYp : 0 < Y) :
    q1 * 4294967296 + q0 = (u * 18446744073709551616 + (v1 * 4294967296 + v0)) / Y ∧
    (u * 4294967296 + v1 - q1 * Y) * 4294967296 + v0 - q0 * Y = (u * 18446744073709551616 + (v1 * 4294967296 + v0)) % Y := by
  have e0 : q0 * Y = q0 * a * 4294967296 + q0 * b := by rw [hY, Int.mul_add, Int.mul_assoc]
  have l := h0.lo
  have p := h0.up
  rw [← hY, ← e0] at p
  rw [← e0] at l
  have E : u * 18446744073709551616 + (v1 * 4294967296 + v0) = (q1 * 4294967296 + q0) * Y + ((u * 4294967296 + v1 - q1 * Y) * 4294967296 + v0 - q0 * Y) := by
    rw [Int.add_mul, Int.mul_right_comm]
    generalize q1 * Y = A at *
    generalize q0 * Y = C at *
    omega
  have := Int.ediv_emod_unique (a := u * 18446744073709551616 + (v1 * 4294967296 + v0)) (b := Y) (r := (u * 4294967296 + v1 - q1 * Y) * 4294967296 + v0 - q0 * Y) (q := q1 * 4294967296 + q0) hYp
  have h := this.2 ⟨by rw [E, Int.mul_comm Y]; omega, by omega, by omega⟩
  exact ⟨h.1.symm, h.2.symm⟩


theorem bits_pow (y : Nat) (h0 : 0 < y) (h1 : y < 18446744073709551616) : ∃ k : Nat, k ≤ 63 ∧ 64 - (Lib.bitLen y : Int) = k ∧ 9223372036854775808 ≤ y * 2 ^ k ∧ y * 2 ^ k < 18446744073709551616 := by
  have hb := Lib.bitLenAux_bounds 64 y (by simpa using h1) (by omega)
  have hl := Lib.bitLen_le y 64 (by omega) (by simpa using h1)
  unfold Lib.bitLen at *
  generalize Lib.bitLenAux 64 y = n at *
  obtain ⟨b1, b2, b3⟩ := hb
  refine ⟨64 - n, by omega, by omega, ?_, ?_⟩
  · have e : 2 ^ (n - 1) * 2 ^ (64 - n) = 2 ^ 63 := by rw [← Nat.pow_add]; congr 1; omega
    have := Nat.mul_le_mul_right (2 ^ (64 - n)) b2
    rw [e] at this
    omega
  · have e : 2 ^ n * 2 ^ (64 - n) = 2 ^ 64 := by rw [← Nat.pow_add]; congr 1; omega
    have := Nat.mul_lt_mul_of_pos_right b3 (show 0 < 2 ^ (64 - n) from Nat.two_pow_pos _)
    rw [e] at this
    omega

/-- What a shift by k of a number of two words comes to. -/
theorem shift_two (hi lo y : Nat) (k : Nat) (hk : k ≤ 63) (hy : y * 2 ^ k < 18446744073709551616) (h : hi < y) (hlo : lo < 18446744073709551616) :
    hi * 2 ^ k < 18446744073709551616 ∧ lo / 2 ^ (64 - k) < 2 ^ k ∧ (hi * 2 ^ k) ||| (lo / 2 ^ (64 - k)) = hi * 2 ^ k + lo / 2 ^ (64 - k) ∧
    hi * 2 ^ k + lo / 2 ^ (64 - k) < y * 2 ^ k ∧ (hi * 2 ^ k + lo / 2 ^ (64 - k)) * 18446744073709551616 + lo * 2 ^ k % 18446744073709551616 = (hi * 18446744073709551616 + lo) * 2 ^ k := by
  have e : 2 ^ (64 - k) * 2 ^ k = 18446744073709551616 := by rw [← Nat.pow_add, show 64 - k + k = 64 by omega]
  have p1 : 0 < 2 ^ (64 - k) := Nat.two_pow_pos _
  have p2 : 0 < 2 ^ k := Nat.two_pow_pos _
  have m1 : hi * 2 ^ k + 2 ^ k ≤ y * 2 ^ k := by
    have := Nat.mul_le_mul_right (2 ^ k) (show hi + 1 ≤ y from h)
    rw [Nat.add_mul] at this
    omega
  have d1 : lo / 2 ^ (64 - k) < 2 ^ k := Nat.div_lt_of_lt_mul (by rw [e]; exact hlo)
  have o1 : (hi * 2 ^ k) ||| (lo / 2 ^ (64 - k)) = hi * 2 ^ k + lo / 2 ^ (64 - k) := by
    rw [Nat.mul_comm hi, Nat.two_pow_add_eq_or_of_lt d1]
  refine ⟨by omega, d1, o1, by omega, ?_⟩
  have md : lo * 2 ^ k % 18446744073709551616 = (lo % 2 ^ (64 - k)) * 2 ^ k := by
    rw [← e, Nat.mul_mod_mul_right]
  have dm := Nat.div_add_mod lo (2 ^ (64 - k))
  rw [md, Nat.add_mul, Nat.add_mul, ← e]
  have : lo * 2 ^ k = (2 ^ (64 - k) * (lo / 2 ^ (64 - k)) + lo % 2 ^ (64 - k)) * 2 ^ k := by rw [dm]
  rw [this, Nat.add_mul]
  have c1 : lo / 2 ^ (64 - k) * (2 ^ (64 - k) * 2 ^ k) = 2 ^ (64 - k) * (lo / 2 ^ (64 - k)) * 2 ^ k := by
    rw [← Nat.mul_assoc, Nat.mul_comm (lo / 2 ^ (64 - k))]
  have c2 : hi * 2 ^ k * (2 ^ (64 - k) * 2 ^ k) = hi * (2 ^ (64 - k) * 2 ^ k) * 2 ^ k := by
    rw [Nat.mul_right_comm]
  omega

end Go.Proofs.YtckeaibamgkegaaDoor
