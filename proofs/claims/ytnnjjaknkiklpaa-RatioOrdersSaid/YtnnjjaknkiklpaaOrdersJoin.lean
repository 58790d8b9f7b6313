/- RatioOrders: its walk and the plain laws, joined -/
import Derived.Test.YtnnjjaknkiklpaaOrders
namespace Go.Proofs.Ytnnjjaknkiklpaa
open Go.RowKit

theorem orders_any (an ad bn bd : Int) (w : World) (an1 : -9223372036854775808 ≤ an ∧ an ≤ 9223372036854775807) (ad1 : -9223372036854775808 ≤ ad ∧ ad ≤ 9223372036854775807)
    (bn1 : -9223372036854775808 ≤ bn ∧ bn ≤ 9223372036854775807) (bd1 : -9223372036854775808 ≤ bd ∧ bd ≤ 9223372036854775807) :
    Calls Try.prog 5 #[.agg #[.int .i64 an, .int .i64 ad], .agg #[.int .i64 bn, .int .i64 bd]] w fun e w' => e = .returned (.bool true) ∧ Later w w' := by
  by_cases ha : chkE an ad = 0
  · have hA := (chk_valid an1.1 an1.2 ad1.2).1 ha
    have hf : firstE an ad bn bd = chkE bn bd := by unfold firstE; rw [if_neg (by omega)]
    have hR := round_ref an ad hA
    have hInt : ∀ W x, IsBig W x (xor (decide (an < 0)) (decide (ad < 0)) && decide (0 < nearN an.natAbs ad.natAbs)) (nearN an.natAbs ad.natAbs) → Calls Try.prog 19 #[x] W fun e w' => e = .returned (.tuple #[.int .i64 (roundI an ad), .bool true]) ∧ Later W w' := by
      intro W x hx
      have h := rint_any x _ _ W hx (Nat.le_trans (nlen_mono (near_le _ _ (by have := hA.d0; omega))) (Nat.le_trans (nlen_i64 an1.1 an1.2) (by omega)))
      rw [hR.1, hR.2] at h
      exact h
    by_cases hb : chkE bn bd = 0
    · have hB := (chk_valid bn1.1 bn1.2 bd1.2).1 hb
      exact orders_good an ad bn bd (cmpI (an * bd) (bn * ad)) 0 0 (roundI an ad) w hA.n0 hA.n1 hA.d0 hA.d1 (fun W => compare_good an ad bn bd W hA hB) (fun W => neg_good an ad W hA) (fun W => round_good an ad W hA)
        (fun W => by have h := qcheck_any an ad W an1.1 an1.2 ad1.1 ad1.2; rw [ha] at h; exact h) (fun W => by have h := qcheck_any bn bd W bn1.1 bn1.2 bd1.1 bd1.2; rw [hb] at h; exact h) hInt
        (fun _ => ⟨rfl, fun W x y hx hy => qorder_any x y an ad bn bd W hx hy (Nat.le_trans (nlen_i64 an1.1 an1.2) (by omega)) (Nat.le_trans (nlen_i64 ad1.1 ad1.2) (by omega)) (Nat.le_trans (nlen_i64 bn1.1 bn1.2) (by omega)) (Nat.le_trans (nlen_i64 bd1.1 bd1.2) (by omega))⟩)
        (fun h => absurd rfl h) bn1 bd1
    · exact orders_good an ad bn bd 0 (chkE bn bd) (chkE bn bd) (roundI an ad) w hA.n0 hA.n1 hA.d0 hA.d1
        (fun W => compare_bad an ad bn bd _ W an1.1 an1.2 ad1.1 ad1.2 bn1.1 bn1.2 bd1.1 bd1.2 hf (by simpa using hb)) (fun W => neg_good an ad W hA) (fun W => round_good an ad W hA)
        (fun W => by have h := qcheck_any an ad W an1.1 an1.2 ad1.1 ad1.2; rw [ha] at h; exact h) (fun W => qcheck_any bn bd W bn1.1 bn1.2 bd1.1 bd1.2) hInt
        (fun h => absurd h hb) (fun _ => ⟨rfl, rfl⟩) bn1 bd1
  · have hf : firstE an ad bn bd = chkE an ad := by unfold firstE; rw [if_pos ha]
    exact orders_bad an ad bn bd (chkE an ad) w (fun W => compare_bad an ad bn bd _ W an1.1 an1.2 ad1.1 ad1.2 bn1.1 bn1.2 bd1.1 bd1.2 hf (by simpa using ha))
      (fun W => neg_bad an ad _ W an1.1 an1.2 ad1.1 ad1.2 rfl (by simpa using ha)) (fun W => round_bad an ad _ W an1.1 an1.2 ad1.1 ad1.2 rfl (by simpa using ha)) (fun W => qcheck_any an ad W an1.1 an1.2 ad1.1 ad1.2) (by simpa using ha)
end Go.Proofs.Ytnnjjaknkiklpaa
