/- RatioSums: its walk and the plain laws, joined -/
import Derived.Test.YtnnjjaknkiklpaaSums
namespace Go.Proofs.Ytnnjjaknkiklpaa
open Go.RowKit

theorem nlen_iadd (a b : Int) : nlen (a + b).natAbs ≤ max (nlen a.natAbs) (nlen b.natAbs) + 1 :=
  Nat.le_trans (nlen_mono (show (a + b).natAbs ≤ a.natAbs + b.natAbs by omega)) (nlen_add _ _)

theorem sums_any (an ad bn bd : Int) (w : World) (an1 : -9223372036854775808 ≤ an ∧ an ≤ 9223372036854775807) (ad1 : -9223372036854775808 ≤ ad ∧ ad ≤ 9223372036854775807)
    (bn1 : -9223372036854775808 ≤ bn ∧ bn ≤ 9223372036854775807) (bd1 : -9223372036854775808 ≤ bd ∧ bd ≤ 9223372036854775807) :
    Calls Try.prog 6 #[.agg #[.int .i64 an, .int .i64 ad], .agg #[.int .i64 bn, .int .i64 bd]] w fun e w' => e = .returned (.bool true) ∧ Later w w' := by
  by_cases h : firstE an ad bn bd = 0
  · obtain ⟨hA, hB⟩ := (first_zero an1.1 an1.2 ad1.2 bn1.1 bn1.2 bd1.2).1 h
    have h1 := (chk_valid an1.1 an1.2 ad1.2).2 hA
    have h2 := (chk_valid bn1.1 bn1.2 bd1.2).2 hB
    have l1 := nlen_i64 an1.1 an1.2
    have l2 := nlen_i64 ad1.1 ad1.2
    have l3 := nlen_i64 bn1.1 bn1.2
    have l4 := nlen_i64 bd1.1 bd1.2
    have ha0 := hA.d0
    have hb0 := hB.d0
    have hd : ad * bd ≠ 0 := by have := Int.mul_pos ha0 hb0; omega
    have p1 := nlen_imul an bd
    have p2 := nlen_imul bn ad
    have p3 := nlen_imul ad bd
    have p4 := nlen_imul (-bn) ad
    have p5 := nlen_imul an bn
    have p6 := nlen_imul ad bn
    have p7 := nlen_iadd (an * bd) (bn * ad)
    have p8 := nlen_iadd (an * bd) (-bn * ad)
    have l5 : nlen (-bn).natAbs ≤ 64 := by rw [Int.natAbs_neg]; exact l3
    exact sums_good an ad bn bd _ _ _ _ _ _ _ _ _ _ _ _ w (fun W => Add_good an ad bn bd W hA hB) (fun W => Sub_good an ad bn bd W hA hB) (fun W => Mul_good an ad bn bd W hA hB) (fun W => Div_good an ad bn bd W hA hB)
      (fun W => by have h := qcheck_any an ad W an1.1 an1.2 ad1.1 ad1.2; rw [h1] at h; exact h) (fun W => by have h := qcheck_any bn bd W bn1.1 bn1.2 bd1.1 bd1.2; rw [h2] at h; exact h)
      (fun W => qof_any an ad W an1.1 an1.2 ad1.1 ad1.2) (fun W => qof_any bn bd W bn1.1 bn1.2 bd1.1 bd1.2)
      (fun W x y hx hy => qadd_any x y an ad bn bd W hx hy (by omega) (by omega) (by omega) (by omega)) (fun W x y hx hy => qadd_any x y an ad (-bn) bd W hx hy (by omega) (by omega) (by omega) (by omega))
      (fun W x y hx hy => qmul_any x y an ad bn bd W hx hy (by omega) (by omega) (by omega) (by omega)) (fun W x y hx hy => qmul_any x y an ad bd bn W hx hy (by omega) (by omega) (by omega) (by omega))
      (fun W x hx => qneg_any x bn bd W hx (by omega))
      (fun W x hx => qratio_any x _ _ W hx (by omega) (by omega) hd) (fun W x hx => qratio_any x _ _ W hx (by omega) (by omega) hd) (fun W x hx => qratio_any x _ _ W hx (by omega) (by omega) hd)
      (fun hbn W x hx => qratio_any x _ _ W hx (by omega) (by omega) (Int.mul_ne_zero (by omega) hbn))
      (fun hbn => by rw [hbn, Int.mul_zero]; exact r_zero _)
  · refine sums_bad an ad bn bd (chkE an ad) (chkE bn bd) (firstE an ad bn bd) w (fun W => Add_bad an ad bn bd _ W an1.1 an1.2 ad1.1 ad1.2 bn1.1 bn1.2 bd1.1 bd1.2 rfl h) (fun W => Sub_bad an ad bn bd _ W an1.1 an1.2 ad1.1 ad1.2 bn1.1 bn1.2 bd1.1 bd1.2 rfl h)
      (fun W => Mul_bad an ad bn bd _ W an1.1 an1.2 ad1.1 ad1.2 bn1.1 bn1.2 bd1.1 bd1.2 rfl h) (fun W => Div_bad an ad bn bd _ W an1.1 an1.2 ad1.1 ad1.2 bn1.1 bn1.2 bd1.1 bd1.2 rfl h)
      (fun W => qcheck_any an ad W an1.1 an1.2 ad1.1 ad1.2) (fun W => qcheck_any bn bd W bn1.1 bn1.2 bd1.1 bd1.2) ?_
    by_cases ha : chkE an ad = 0
    · have hf : firstE an ad bn bd = chkE bn bd := by unfold firstE; rw [if_neg (by omega)]
      exact .inr ⟨ha, hf.symm, h⟩
    · have hf : firstE an ad bn bd = chkE an ad := by unfold firstE; rw [if_pos ha]
      exact .inl ⟨hf.symm, h⟩
end Go.Proofs.Ytnnjjaknkiklpaa
