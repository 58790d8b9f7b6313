/- plain arithmetic: what the laws on ratios say of numbers -/
import Derived.Test.YtnnjjaknkiklpaaRatI
namespace Go.Proofs.Ytnnjjaknkiklpaa
open Go.RowKit

/-- Of a ratio that fits: it may be, and it is what it is made of. -/
theorem r_spec {n d : Int} (hd : 0 < d) (h : rE n d = 0) : ∃ k : Int, 0 < k ∧ n = k * rN n d ∧ d = k * rD n d ∧ Valid (rN n d) (rD n d) := by
  have g0 : 0 < gcdI n d := by
    unfold gcdI
    have := Int.gcd_pos_of_ne_zero_right n (show d ≠ 0 by omega)
    omega
  have gd := gcdI_dvd n d
  have e1 : rN n d = n / gcdI n d := by unfold rN redN; rw [if_pos h, if_neg (by omega)]
  have e2 : rD n d = d / gcdI n d := by unfold rD redD; rw [if_pos h]; congr 1; omega
  have f1 : n = gcdI n d * (n / gcdI n d) := (Int.mul_ediv_cancel' gd.1).symm
  have f2 : d = gcdI n d * (d / gcdI n d) := (Int.mul_ediv_cancel' gd.2).symm
  have dp := ediv_range hd gd.2 g0
  have hb : (n / gcdI n d).natAbs < 9223372036854775808 ∧ d / gcdI n d < 9223372036854775808 := by
    unfold rE at h
    rw [if_neg (by omega)] at h
    by_cases hc : (redN n d).natAbs < 9223372036854775808 ∧ redD n d < 9223372036854775808
    · unfold redN redD at hc
      rw [if_neg (by omega), show (d.natAbs : Int) = d by omega] at hc
      exact hc
    · rw [if_neg hc] at h; cases h
  refine ⟨gcdI n d, g0, by rw [e1]; exact f1, by rw [e2]; exact f2, ?_⟩
  rw [e1, e2]
  refine ⟨by omega, by omega, by omega, by omega, ?_⟩
  have hg : Nat.gcd n.natAbs d.natAbs = (gcdI n d).natAbs := by unfold gcdI Int.gcd; omega
  have := Nat.coprime_div_gcd_div_gcd (m := n.natAbs) (n := d.natAbs) (by omega)
  rw [hg] at this
  rwa [Int.natAbs_ediv_of_dvd gd.1, Int.natAbs_ediv_of_dvd gd.2]

theorem cancel_pos {a b c : Int} (h : 0 < a) (e : a * b = a * c) : b = c := Int.eq_of_mul_eq_mul_left (by omega) e

/-- Two ratios that may be and are one number are one. -/
theorem valid_unique {n d n' d' : Int} (h : Valid n d) (h' : Valid n' d') (e : n * d' = n' * d) : n = n' ∧ d = d' := by
  have hd := h.d0
  have hd' := h'.d0
  have a1 : d.natAbs ∣ d'.natAbs := by
    refine h.co.symm.dvd_of_dvd_mul_left (m := n.natAbs) ?_
    rw [← Int.natAbs_mul, e, Int.natAbs_mul]
    exact Nat.dvd_mul_left _ _
  have a2 : d'.natAbs ∣ d.natAbs := by
    refine h'.co.symm.dvd_of_dvd_mul_left (m := n'.natAbs) ?_
    rw [← Int.natAbs_mul, ← e, Int.natAbs_mul]
    exact Nat.dvd_mul_left _ _
  have a3 := Nat.dvd_antisymm a1 a2
  have a4 : d = d' := by omega
  subst a4
  refine ⟨?_, rfl⟩
  rw [Int.mul_comm n, Int.mul_comm n'] at e
  exact cancel_pos hd e

/-- A ratio that may be, met again out of another form of its number. -/
theorem valid_r {n d N D : Int} (h : Valid n d) (hD : 0 < D) (e : n * D = N * d) : rN N D = n ∧ rD N D = d ∧ rE N D = 0 := by
  have hd := h.d0
  have a1 : d.natAbs ∣ D.natAbs := by
    refine h.co.symm.dvd_of_dvd_mul_left (m := n.natAbs) ?_
    rw [← Int.natAbs_mul, e, Int.natAbs_mul]
    exact Nat.dvd_mul_left _ _
  have a2 : d ∣ D := Int.natAbs_dvd_natAbs.1 a1
  obtain ⟨k, hk⟩ := a2
  have hk0 : 0 < k := by rw [hk] at hD; exact pos_right hD hd
  have hN : N = k * n := by
    rw [hk] at e
    refine cancel_pos hd ?_
    grind
  have n0 := h.n0; have n1 := h.n1; have d1 := h.d1
  exact (r_of hk0 hd hN (by rw [hk, Int.mul_comm]) h.co).1 (by omega) (by omega)

theorem valid_r_neg {n d N D : Int} (h : Valid n d) (hD : D < 0) (e : n * D = N * d) : rN N D = n ∧ rD N D = d ∧ rE N D = 0 := by
  have := valid_r (N := -N) (D := -D) h (by omega) (by grind)
  have R := r_neg N D
  rw [R.1, R.2.1, R.2.2] at this
  exact this

theorem mul_pos' {a b : Int} (h : 0 < a) (h' : 0 < b) : 0 < a * b := Int.mul_pos h h'

theorem cmp_cases (x y : Int) : (x < y ∧ cmpI x y = -1 ∧ cmpI y x = 1) ∨ (x = y ∧ cmpI x y = 0 ∧ cmpI y x = 0) ∨ (y < x ∧ cmpI x y = 1 ∧ cmpI y x = -1) := by
  unfold cmpI
  rcases Int.lt_trichotomy x y with h | h | h
  · exact .inl ⟨h, by rw [if_pos h], by rw [if_neg (by omega), if_neg (by omega)]⟩
  · exact .inr (.inl ⟨h, by rw [if_neg (by omega), if_pos h], by rw [if_neg (by omega), if_pos h.symm]⟩)
  · exact .inr (.inr ⟨h, by rw [if_neg (by omega), if_neg (by omega)], by rw [if_pos h]⟩)

/-- The nearest number is no farther than a half. -/
theorem round_near (n d : Int) (hd : 0 < d) : 2 * (roundI n d * d) - d ≤ 2 * n ∧ 2 * n ≤ 2 * (roundI n d * d) + d := by
  have key : ∀ m : Int, 0 ≤ m → 2 * (nearQ m d * d) - d ≤ 2 * m ∧ 2 * m ≤ 2 * (nearQ m d * d) + d := by
    intro m hm
    have h3 := Int.emod_nonneg m (show d ≠ 0 by omega)
    have h4 := Int.emod_lt_of_pos m hd
    have h5 := Int.emod_add_mul_ediv m d
    have h6 : m / d * d = d * (m / d) := Int.mul_comm _ _
    unfold nearQ
    split
    · rw [Int.add_mul, Int.one_mul, h6]; omega
    · rw [h6]; omega
  unfold roundI
  split
  · have := key n.natAbs (by omega)
    rw [Int.neg_mul]; omega
  · have := key n.natAbs (by omega)
    omega

theorem round_mono {n d m e : Int} (hd : 0 < d) (he : 0 < e) (h : n * e < m * d) : roundI n d ≤ roundI m e := by
  have h1 := (round_near n d hd).1
  have h2 := (round_near m e he).2
  generalize roundI n d = q at *
  generalize roundI m e = q' at *
  by_cases hc : q ≤ q'
  · exact hc
  · exfalso
    have a1 : (2 * (q * d) - d) * e ≤ 2 * n * e := Int.mul_le_mul_of_nonneg_right h1 (by omega)
    have a2 : 2 * m * d ≤ (2 * (q' * e) + e) * d := Int.mul_le_mul_of_nonneg_right h2 (by omega)
    have a3 : (2 * (q * d) - d) * e = (2 * q - 1) * (d * e) := by grind
    have a4 : (2 * (q' * e) + e) * d = (2 * q' + 1) * (d * e) := by grind
    have a5 : 2 * n * e = 2 * (n * e) := by grind
    have a6 : 2 * m * d = 2 * (m * d) := by grind
    have a7 : (2 * q' + 1) * (d * e) ≤ (2 * q - 1) * (d * e) := Int.mul_le_mul_of_nonneg_right (by omega) (by have := Int.mul_pos hd he; omega)
    omega

/-- The sign of a number in lowest terms. -/
theorem sign_r {n d : Int} (hd : 0 < d) (h : rE n d = 0) : (rN n d < 0 ↔ n < 0) ∧ (rN n d = 0 ↔ n = 0) ∧ (0 < rN n d ↔ 0 < n) := by
  obtain ⟨k, hk, e1, _, _⟩ := r_spec hd h
  generalize rN n d = m at *
  subst e1
  refine ⟨⟨fun h => Int.mul_neg_of_pos_of_neg hk h, fun h => ?_⟩, ⟨fun h => by rw [h]; simp, fun h => ?_⟩, ⟨fun h => Int.mul_pos hk h, fun h => pos_right h hk⟩⟩
  · by_cases hm : m < 0
    · exact hm
    · have := Int.mul_nonneg (show 0 ≤ k by omega) (show 0 ≤ m by omega); omega
  · rcases Int.mul_eq_zero.1 h with h | h
    · omega
    · exact h

/-- What is less stays less, if something is added to both. -/
theorem cmp_add {an ad bn bd cn cd : Int} (hA : Valid an ad) (hB : Valid bn bd) (hC : Valid cn cd) (h1 : rE (an * cd + cn * ad) (ad * cd) = 0) (h2 : rE (bn * cd + cn * bd) (bd * cd) = 0) :
    cmpI (rN (an * cd + cn * ad) (ad * cd) * rD (bn * cd + cn * bd) (bd * cd)) (rN (bn * cd + cn * bd) (bd * cd) * rD (an * cd + cn * ad) (ad * cd)) = cmpI (an * bd) (bn * ad) := by
  have ha := hA.d0; have hb := hB.d0; have hc := hC.d0
  obtain ⟨k, hk, e1, e2, _⟩ := r_spec (mul_pos' ha hc) h1
  obtain ⟨k', hk', e3, e4, _⟩ := r_spec (mul_pos' hb hc) h2
  generalize rN (an * cd + cn * ad) (ad * cd) = p at *
  generalize rD (an * cd + cn * ad) (ad * cd) = q at *
  generalize rN (bn * cd + cn * bd) (bd * cd) = r at *
  generalize rD (bn * cd + cn * bd) (bd * cd) = s at *
  have E : k * k' * (p * s - r * q) = cd * cd * (an * bd - bn * ad) := by
    have : (an * cd + cn * ad) * (bd * cd) - (bn * cd + cn * bd) * (ad * cd) = cd * cd * (an * bd - bn * ad) := by grind
    rw [← this]
    grind
  have K := mul_pos' hk hk'
  have L := mul_pos' hc hc
  generalize k * k' = u at *
  generalize cd * cd = v at *
  generalize an * bd = x at *
  generalize bn * ad = y at *
  generalize p * s = x' at *
  generalize r * q = y' at *
  have s1 : x' - y' = 0 ↔ x - y = 0 := by
    constructor
    · intro h; rw [h, Int.mul_zero] at E; rcases Int.mul_eq_zero.1 E.symm with h | h <;> omega
    · intro h; rw [h, Int.mul_zero] at E; rcases Int.mul_eq_zero.1 E with h | h <;> omega
  have s2 : 0 < x' - y' ↔ 0 < x - y := by
    constructor
    · intro h; have := mul_pos' K h; rw [E] at this; exact pos_right this L
    · intro h; have := mul_pos' L h; rw [← E] at this; exact pos_right this K
  unfold cmpI
  rcases Int.lt_trichotomy x y with h | h | h
  · rw [if_pos (show x' < y' by omega), if_pos h]
  · rw [if_neg (show ¬ x' < y' by omega), if_pos (show x' = y' by omega), if_neg (show ¬ x < y by omega), if_pos h]
  · rw [if_neg (show ¬ x' < y' by omega), if_neg (show ¬ x' = y' by omega), if_neg (show ¬ x < y by omega), if_neg (show ¬ x = y by omega)]

theorem sub_back {an ad bn bd : Int} (hA : Valid an ad) (hB : Valid bn bd) (h : rE (an * bd + bn * ad) (ad * bd) = 0) :
    rN (rN (an * bd + bn * ad) (ad * bd) * bd + -bn * rD (an * bd + bn * ad) (ad * bd)) (rD (an * bd + bn * ad) (ad * bd) * bd) = an ∧ rD (rN (an * bd + bn * ad) (ad * bd) * bd + -bn * rD (an * bd + bn * ad) (ad * bd)) (rD (an * bd + bn * ad) (ad * bd) * bd) = ad ∧
    rE (rN (an * bd + bn * ad) (ad * bd) * bd + -bn * rD (an * bd + bn * ad) (ad * bd)) (rD (an * bd + bn * ad) (ad * bd) * bd) = 0 := by
  have ha := hA.d0; have hb := hB.d0
  obtain ⟨k, hk, e1, e2, V⟩ := r_spec (mul_pos' ha hb) h
  generalize rN (an * bd + bn * ad) (ad * bd) = p at *
  generalize rD (an * bd + bn * ad) (ad * bd) = q at *
  refine valid_r hA (mul_pos' V.d0 hb) ?_
  refine cancel_pos hk ?_
  grind

theorem div_back {an ad bn bd : Int} (hA : Valid an ad) (hB : Valid bn bd) (hb0 : bn ≠ 0) (h : rE (an * bn) (ad * bd) = 0) :
    rN (rN (an * bn) (ad * bd) * bd) (rD (an * bn) (ad * bd) * bn) = an ∧ rD (rN (an * bn) (ad * bd) * bd) (rD (an * bn) (ad * bd) * bn) = ad ∧ rE (rN (an * bn) (ad * bd) * bd) (rD (an * bn) (ad * bd) * bn) = 0 := by
  have ha := hA.d0; have hb := hB.d0
  obtain ⟨k, hk, e1, e2, V⟩ := r_spec (mul_pos' ha hb) h
  generalize rN (an * bn) (ad * bd) = p at *
  generalize rD (an * bn) (ad * bd) = q at *
  have vq := V.d0
  have E : an * (q * bn) = p * bd * ad := by
    refine cancel_pos hk ?_
    grind
  by_cases hp : 0 < bn
  · exact valid_r hA (mul_pos' vq hp) E
  · exact valid_r_neg hA (by have := mul_pos' vq (show 0 < -bn by omega); rw [Int.mul_neg] at this; omega) E

/-- A product of a sum is the sum of products, where all fit. -/
theorem distr {an ad bn bd cn cd : Int} (hA : Valid an ad) (hB : Valid bn bd) (hC : Valid cn cd) (he : rE (an * bd + bn * ad) (ad * bd) = 0)
    {sN sD yN yD zN zD : Int} (hsN : sN = rN (an * bd + bn * ad) (ad * bd)) (hsD : sD = rD (an * bd + bn * ad) (ad * bd)) (hyN : yN = rN (an * cn) (ad * cd)) (hyD : yD = rD (an * cn) (ad * cd)) (hzN : zN = rN (bn * cn) (bd * cd)) (hzD : zD = rD (bn * cn) (bd * cd))
    (hi : rE (sN * cn) (sD * cd) = 0) (hj : rE (an * cn) (ad * cd) = 0) (hk : rE (bn * cn) (bd * cd) = 0) (hl : rE (yN * zD + zN * yD) (yD * zD) = 0) :
    rN (sN * cn) (sD * cd) = rN (yN * zD + zN * yD) (yD * zD) ∧ rD (sN * cn) (sD * cd) = rD (yN * zD + zN * yD) (yD * zD) := by
  have ha := hA.d0; have hb := hB.d0; have hc := hC.d0
  obtain ⟨k1, p1, a1, b1, V1⟩ := r_spec (mul_pos' ha hb) he
  obtain ⟨k2, p2, a2, b2, V2⟩ := r_spec (mul_pos' ha hc) hj
  obtain ⟨k3, p3, a3, b3, V3⟩ := r_spec (mul_pos' hb hc) hk
  rw [← hsN, ← hsD] at V1; rw [← hsN] at a1; rw [← hsD] at b1
  rw [← hyN, ← hyD] at V2; rw [← hyN] at a2; rw [← hyD] at b2
  rw [← hzN, ← hzD] at V3; rw [← hzN] at a3; rw [← hzD] at b3
  obtain ⟨k4, p4, a4, b4, V4⟩ := r_spec (mul_pos' V1.d0 hc) hi
  obtain ⟨k5, p5, a5, b5, V5⟩ := r_spec (mul_pos' V2.d0 V3.d0) hl
  clear hsN hsD hyN hyD hzN hzD he hi hj hk hl
  generalize rN (sN * cn) (sD * cd) = x at *
  generalize rD (sN * cn) (sD * cd) = xd at *
  generalize rN (yN * zD + zN * yD) (yD * zD) = u at *
  generalize rD (yN * zD + zN * yD) (yD * zD) = ud at *
  refine valid_unique V4 V5 ?_
  -- s = a + b, y = a c, z = b c, x = s c, u = y + z
  have hs : sN * (ad * bd) = (an * bd + bn * ad) * sD := cancel_pos p1 (by grind)
  have hy : yN * (ad * cd) = an * cn * yD := cancel_pos p2 (by grind)
  have hz : zN * (bd * cd) = bn * cn * zD := cancel_pos p3 (by grind)
  have hx : x * (sD * cd) = sN * cn * xd := cancel_pos p4 (by grind)
  have hu : u * (yD * zD) = (yN * zD + zN * yD) * ud := cancel_pos p5 (by grind)
  have P := mul_pos' (mul_pos' (mul_pos' V1.d0 hc) (mul_pos' V2.d0 V3.d0)) (mul_pos' (mul_pos' ha hb) hc)
  refine cancel_pos P ?_
  have g1 : sD * cd * (yD * zD) * (ad * bd * cd) * (x * ud) = sN * cn * xd * ud * (yD * zD) * (ad * bd * cd) := by grind
  have g2 : sD * cd * (yD * zD) * (ad * bd * cd) * (u * xd) = (yN * zD + zN * yD) * ud * xd * (sD * cd) * (ad * bd * cd) := by grind
  rw [g1, g2]
  grind

/-- Sums do not hang on how they are put together. -/
theorem assoc {an ad bn bd cn cd : Int} (hA : Valid an ad) (hB : Valid bn bd) (hC : Valid cn cd) (he : rE (an * bd + bn * ad) (ad * bd) = 0) (hm : rE (bn * cd + cn * bd) (bd * cd) = 0)
    {sN sD vN vD : Int} (hsN : sN = rN (an * bd + bn * ad) (ad * bd)) (hsD : sD = rD (an * bd + bn * ad) (ad * bd)) (hvN : vN = rN (bn * cd + cn * bd) (bd * cd)) (hvD : vD = rD (bn * cd + cn * bd) (bd * cd))
    (hn : rE (sN * cd + cn * sD) (sD * cd) = 0) (ho : rE (an * vD + vN * ad) (ad * vD) = 0) :
    rN (sN * cd + cn * sD) (sD * cd) = rN (an * vD + vN * ad) (ad * vD) ∧ rD (sN * cd + cn * sD) (sD * cd) = rD (an * vD + vN * ad) (ad * vD) := by
  have ha := hA.d0; have hb := hB.d0; have hc := hC.d0
  obtain ⟨k1, p1, a1, b1, V1⟩ := r_spec (mul_pos' ha hb) he
  obtain ⟨k2, p2, a2, b2, V2⟩ := r_spec (mul_pos' hb hc) hm
  rw [← hsN, ← hsD] at V1; rw [← hsN] at a1; rw [← hsD] at b1
  rw [← hvN, ← hvD] at V2; rw [← hvN] at a2; rw [← hvD] at b2
  obtain ⟨k4, p4, a4, b4, V4⟩ := r_spec (mul_pos' V1.d0 hc) hn
  obtain ⟨k5, p5, a5, b5, V5⟩ := r_spec (mul_pos' ha V2.d0) ho
  clear hsN hsD hvN hvD he hm hn ho
  generalize rN (sN * cd + cn * sD) (sD * cd) = x at *
  generalize rD (sN * cd + cn * sD) (sD * cd) = xd at *
  generalize rN (an * vD + vN * ad) (ad * vD) = u at *
  generalize rD (an * vD + vN * ad) (ad * vD) = ud at *
  refine valid_unique V4 V5 ?_
  have hs : sN * (ad * bd) = (an * bd + bn * ad) * sD := cancel_pos p1 (by grind)
  have hv : vN * (bd * cd) = (bn * cd + cn * bd) * vD := cancel_pos p2 (by grind)
  have hx : x * (sD * cd) = (sN * cd + cn * sD) * xd := cancel_pos p4 (by grind)
  have hu : u * (ad * vD) = (an * vD + vN * ad) * ud := cancel_pos p5 (by grind)
  have P := mul_pos' (mul_pos' (mul_pos' V1.d0 hc) (mul_pos' ha V2.d0)) (mul_pos' (mul_pos' ha hb) hc)
  refine cancel_pos P ?_
  have g1 : sD * cd * (ad * vD) * (ad * bd * cd) * (x * ud) = (sN * cd + cn * sD) * xd * ud * (ad * vD) * (ad * bd * cd) := by grind
  have g2 : sD * cd * (ad * vD) * (ad * bd * cd) * (u * xd) = (an * vD + vN * ad) * ud * xd * (sD * cd) * (ad * bd * cd) := by grind
  rw [g1, g2]
  grind
end Go.Proofs.Ytnnjjaknkiklpaa
