/- RatioLaws: its walk and the plain laws, joined -/
import Derived.Test.YtnnjjaknkiklpaaRatTotal
import Derived.Test.YtnnjjaknkiklpaaRatLaws
namespace Go.Proofs.Ytnnjjaknkiklpaa
open Go.RowKit

theorem first_comm_zero {an ad bn bd : Int} (an1 : -9223372036854775808 ≤ an ∧ an ≤ 9223372036854775807) (ad1 : -9223372036854775808 ≤ ad ∧ ad ≤ 9223372036854775807)
    (bn1 : -9223372036854775808 ≤ bn ∧ bn ≤ 9223372036854775807) (bd1 : -9223372036854775808 ≤ bd ∧ bd ≤ 9223372036854775807) (h : firstE an ad bn bd = 0) : Valid an ad ∧ Valid bn bd :=
  (first_zero an1.1 an1.2 ad1.2 bn1.1 bn1.2 bd1.2).1 h

theorem laws_any (an ad bn bd cn cd : Int) (w : World) (an1 : -9223372036854775808 ≤ an ∧ an ≤ 9223372036854775807) (ad1 : -9223372036854775808 ≤ ad ∧ ad ≤ 9223372036854775807)
    (bn1 : -9223372036854775808 ≤ bn ∧ bn ≤ 9223372036854775807) (bd1 : -9223372036854775808 ≤ bd ∧ bd ≤ 9223372036854775807) (cn1 : -9223372036854775808 ≤ cn ∧ cn ≤ 9223372036854775807) (cd1 : -9223372036854775808 ≤ cd ∧ cd ≤ 9223372036854775807) :
    Calls Try.prog 7 #[.agg #[.int .i64 an, .int .i64 ad], .agg #[.int .i64 bn, .int .i64 bd], .agg #[.int .i64 cn, .int .i64 cd]] w fun e w' => e = .returned (.bool true) ∧ Later w w' := by
  obtain ⟨sN, hsN⟩ : ∃ x, x = okI (firstE an ad bn bd) (rN (an * bd + bn * ad) (ad * bd)) := ⟨_, rfl⟩
  obtain ⟨sD, hsD⟩ : ∃ x, x = okI (firstE an ad bn bd) (rD (an * bd + bn * ad) (ad * bd)) := ⟨_, rfl⟩
  obtain ⟨pN, hpN⟩ : ∃ x, x = okI (firstE an ad bn bd) (rN (an * bn) (ad * bd)) := ⟨_, rfl⟩
  obtain ⟨pD, hpD⟩ : ∃ x, x = okI (firstE an ad bn bd) (rD (an * bn) (ad * bd)) := ⟨_, rfl⟩
  obtain ⟨yN, hyN⟩ : ∃ x, x = okI (firstE an ad cn cd) (rN (an * cn) (ad * cd)) := ⟨_, rfl⟩
  obtain ⟨yD, hyD⟩ : ∃ x, x = okI (firstE an ad cn cd) (rD (an * cn) (ad * cd)) := ⟨_, rfl⟩
  obtain ⟨zN, hzN⟩ : ∃ x, x = okI (firstE bn bd cn cd) (rN (bn * cn) (bd * cd)) := ⟨_, rfl⟩
  obtain ⟨zD, hzD⟩ : ∃ x, x = okI (firstE bn bd cn cd) (rD (bn * cn) (bd * cd)) := ⟨_, rfl⟩
  obtain ⟨vN, hvN⟩ : ∃ x, x = okI (firstE bn bd cn cd) (rN (bn * cd + cn * bd) (bd * cd)) := ⟨_, rfl⟩
  obtain ⟨vD, hvD⟩ : ∃ x, x = okI (firstE bn bd cn cd) (rD (bn * cd + cn * bd) (bd * cd)) := ⟨_, rfl⟩
  have sR : (-9223372036854775808 ≤ sN ∧ sN ≤ 9223372036854775807) ∧ (-9223372036854775808 ≤ sD ∧ sD ≤ 9223372036854775807) := by rw [hsN, hsD]; exact ⟨ok_range (r_range _ _).1, ok_range (r_range _ _).2⟩
  have pR : (-9223372036854775808 ≤ pN ∧ pN ≤ 9223372036854775807) ∧ (-9223372036854775808 ≤ pD ∧ pD ≤ 9223372036854775807) := by rw [hpN, hpD]; exact ⟨ok_range (r_range _ _).1, ok_range (r_range _ _).2⟩
  have yR : (-9223372036854775808 ≤ yN ∧ yN ≤ 9223372036854775807) ∧ (-9223372036854775808 ≤ yD ∧ yD ≤ 9223372036854775807) := by rw [hyN, hyD]; exact ⟨ok_range (r_range _ _).1, ok_range (r_range _ _).2⟩
  have zR : (-9223372036854775808 ≤ zN ∧ zN ≤ 9223372036854775807) ∧ (-9223372036854775808 ≤ zD ∧ zD ≤ 9223372036854775807) := by rw [hzN, hzD]; exact ⟨ok_range (r_range _ _).1, ok_range (r_range _ _).2⟩
  have vR : (-9223372036854775808 ≤ vN ∧ vN ≤ 9223372036854775807) ∧ (-9223372036854775808 ≤ vD ∧ vD ≤ 9223372036854775807) := by rw [hvN, hvD]; exact ⟨ok_range (r_range _ _).1, ok_range (r_range _ _).2⟩
  have H1 := fun w => Add_total an ad bn bd w an1 ad1 bn1 bd1
  have H3 := fun w => Mul_total an ad bn bd w an1 ad1 bn1 bd1
  have H10 := fun w => Mul_total an ad cn cd w an1 ad1 cn1 cd1
  have H11 := fun w => Mul_total bn bd cn cd w bn1 bd1 cn1 cd1
  have H13 := fun w => Add_total bn bd cn cd w bn1 bd1 cn1 cd1
  rw [← hsN, ← hsD] at H1; rw [← hpN, ← hpD] at H3; rw [← hyN, ← hyD] at H10; rw [← hzN, ← hzD] at H11; rw [← hvN, ← hvD] at H13
  refine laws_walk an ad bn bd cn cd _ _ sN sD _ _ _ _ pN pD _ _ _ _ _ _ _ yN yD _ zN zD _ _ _ _ vN vD _ _ _ _ _ _ _ w (Lib.hid H1) (Lib.hid fun w => Add_total bn bd an ad w bn1 bd1 an1 ad1) (Lib.hid H3) (Lib.hid fun w => Mul_total bn bd an ad w bn1 bd1 an1 ad1)
    (Lib.hid fun w => check_any an ad w an1.1 an1.2 ad1.1 ad1.2) (Lib.hid fun w => check_any bn bd w bn1.1 bn1.2 bd1.1 bd1.2) (Lib.hid ?_) (Lib.hid ?_) (Lib.hid ?_)
    (Lib.hid fun w => Mul_total sN sD cn cd w sR.1 sR.2 cn1 cd1) (Lib.hid H10) (Lib.hid H11) (Lib.hid fun w => Add_total yN yD zN zD w yR.1 yR.2 zR.1 zR.2) (Lib.hid ?_)
    (Lib.hid H13) (Lib.hid fun w => Add_total sN sD cn cd w sR.1 sR.2 cn1 cd1) (Lib.hid fun w => Add_total an ad vN vD w an1 ad1 vR.1 vR.2) (Lib.hid ?_)
  · intro h1 h2
    have hA := (chk_valid an1.1 an1.2 ad1.2).1 h1
    have hB := (chk_valid bn1.1 bn1.2 bd1.2).1 h2
    have f1 := (first_zero an1.1 an1.2 ad1.2 bn1.1 bn1.2 bd1.2).2 ⟨hA, hB⟩
    have f2 := (first_zero bn1.1 bn1.2 bd1.2 an1.1 an1.2 ad1.2).2 ⟨hB, hA⟩
    rw [hsN, hsD, hpN, hpD, f1, f2]
    simp only [okI_zero, orI_zero]
    rw [Int.add_comm (bn * ad), Int.mul_comm bd ad, Int.mul_comm bn an]
    exact ⟨rfl, rfl, rfl, rfl, rfl, rfl⟩
  · intro h
    obtain ⟨f1, he⟩ := orI_eq_zero h
    obtain ⟨hA, hB⟩ := first_comm_zero an1 ad1 bn1 bd1 f1
    rw [f1, okI_zero] at hsN hsD
    obtain ⟨_, _, _, _, V⟩ := r_spec (mul_pos' hA.d0 hB.d0) he
    have bk := sub_back hA hB he
    rw [← hsN, ← hsD] at V bk
    refine ⟨Lib.hid fun w => ?_, Lib.hid fun w => ?_⟩
    · have := Sub_good sN sD bn bd w V hB
      rwa [bk.1, bk.2.1, bk.2.2] at this
    · have := check_any sN sD w sR.1.1 sR.1.2 sR.2.1 sR.2.2
      rwa [(chk_valid sR.1.1 sR.1.2 sR.2.2).2 V] at this
  · intro h hb0
    obtain ⟨f1, he⟩ := orI_eq_zero h
    obtain ⟨hA, hB⟩ := first_comm_zero an1 ad1 bn1 bd1 f1
    rw [f1, okI_zero] at hpN hpD
    obtain ⟨_, _, _, _, V⟩ := r_spec (mul_pos' hA.d0 hB.d0) he
    have bk := div_back hA hB hb0 he
    rw [← hpN, ← hpD] at V bk
    refine ⟨Lib.hid fun w => ?_, Lib.hid fun w => ?_⟩
    · have := Div_good pN pD bn bd w V hB
      rwa [bk.1, bk.2.1, bk.2.2] at this
    · have := check_any pN pD w pR.1.1 pR.1.2 pR.2.1 pR.2.2
      rwa [(chk_valid pR.1.1 pR.1.2 pR.2.2).2 V] at this
  · intro he hi hj hk hl
    obtain ⟨f1, he⟩ := orI_eq_zero he
    obtain ⟨f2, hi⟩ := orI_eq_zero hi
    obtain ⟨f3, hj⟩ := orI_eq_zero hj
    obtain ⟨f4, hk⟩ := orI_eq_zero hk
    obtain ⟨f5, hl⟩ := orI_eq_zero hl
    obtain ⟨hA, hB⟩ := first_comm_zero an1 ad1 bn1 bd1 f1
    have hC := (first_comm_zero an1 ad1 cn1 cd1 f3).2
    rw [f1, okI_zero] at hsN hsD
    rw [f3, okI_zero] at hyN hyD
    rw [f4, okI_zero] at hzN hzD
    rw [f2, f5]
    simp only [okI_zero]
    exact distr hA hB hC he hsN hsD hyN hyD hzN hzD hi hj hk hl
  · intro he hm hn ho
    obtain ⟨f1, he⟩ := orI_eq_zero he
    obtain ⟨f2, hm⟩ := orI_eq_zero hm
    obtain ⟨f3, hn⟩ := orI_eq_zero hn
    obtain ⟨f4, ho⟩ := orI_eq_zero ho
    obtain ⟨hA, hB⟩ := first_comm_zero an1 ad1 bn1 bd1 f1
    have hC := (first_comm_zero bn1 bd1 cn1 cd1 f2).2
    rw [f1, okI_zero] at hsN hsD
    rw [f2, okI_zero] at hvN hvD
    rw [f3, f4]
    simp only [okI_zero]
    exact assoc hA hB hC he hm hsN hsD hvN hvD hn ho
end Go.Proofs.Ytnnjjaknkiklpaa
