/- walks: chattelref01: Order -/
import Derived.Test.YtckeaibamgkegaaDoorRefH
import Derived.Deep.DeepCutAuto
set_option linter.all false
namespace Go.Proofs.YtckeaibamgkegaaDoor
open Go.RowKit
set_option maxRecDepth 100000

/-- -1, 0 or 1: by the order of numbers. -/
def cmpZ (x y : Int) : Int := if x < y then -1 else if x = y then 0 else 1

theorem nlen_add (a b : Nat) : nlen (a + b) ≤ max (nlen a) (nlen b) + 1 := by
  refine nlen_le ?_
  have h1 := lt_nlen a
  have h2 := lt_nlen b
  have e1 : 2 ^ nlen a ≤ 2 ^ max (nlen a) (nlen b) := Nat.pow_le_pow_right (by omega) (by omega)
  have e2 : 2 ^ nlen b ≤ 2 ^ max (nlen a) (nlen b) := Nat.pow_le_pow_right (by omega) (by omega)
  rw [Nat.pow_succ]; omega
theorem nlen_mul (a b : Nat) : nlen (a * b) ≤ nlen a + nlen b := by
  refine nlen_le ?_
  rw [Nat.pow_add]
  have h1 := lt_nlen a
  have h2 := lt_nlen b
  exact Nat.lt_of_le_of_lt (Nat.mul_le_mul_left a (Nat.le_of_lt h2)) (Nat.mul_lt_mul_of_pos_right h1 (Nat.pow_pos (by omega)))
theorem nlen_i64 {z : Int} (h1 : -9223372036854775808 ≤ z) (h2 : z ≤ 9223372036854775807) : nlen z.natAbs ≤ 64 := nlen_le (by omega)

end Go.Proofs.YtckeaibamgkegaaDoor
