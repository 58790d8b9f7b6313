/- plain arithmetic: ratios in lowest terms -/
import Derived.Test.YtckeaibamgkegaaDoorRatD
set_option linter.all false
namespace Go.Proofs.YtckeaibamgkegaaDoor
open Go.RowKit
set_option maxRecDepth 100000

def redN (n d : Int) : Int := (if d < 0 then -n else n) / gcdI n d
def redD (n d : Int) : Int := d.natAbs / gcdI n d
/-- The error of n through d, its Num and its Den. -/
def rE (n d : Int) : Int := if d = 0 then 12 else if (redN n d).natAbs < 9223372036854775808 ∧ redD n d < 9223372036854775808 then 0 else 11
def rN (n d : Int) : Int := if rE n d = 0 then redN n d else 0
def rD (n d : Int) : Int := if rE n d = 0 then redD n d else 0

theorem red_of {n d k n' d' : Int} (hk : 0 < k) (hd' : 0 < d') (hn : n = k * n') (hd : d = k * d') (hg : Nat.Coprime n'.natAbs d'.natAbs) : redN n d = n' ∧ redD n d = d' := by
  have hg' : gcdI n d = k := by
    unfold gcdI
    rw [hn, hd, Int.gcd_mul_left]
    have : Int.gcd n' d' = 1 := hg
    rw [this]; omega
  have hdp : 0 < d := by rw [hd]; exact Int.mul_pos hk hd'
  unfold redN redD
  rw [hg', if_neg (by omega)]
  refine ⟨by rw [hn, Int.mul_ediv_cancel_left _ (by omega)], ?_⟩
  rw [show (d.natAbs : Int) = d by omega, hd, Int.mul_ediv_cancel_left _ (by omega)]

theorem red_neg (n d : Int) (hd : d ≠ 0) : redN n d = redN (-n) (-d) ∧ redD n d = redD (-n) (-d) := by
  unfold redN redD gcdI
  rw [Int.gcd_neg, Int.neg_gcd]
  refine ⟨?_, by simp⟩
  by_cases h : d < 0
  · rw [if_pos h, if_neg (by omega)]
  · rw [if_neg h, if_pos (by omega)]; simp

theorem r_of {n d k n' d' : Int} (hk : 0 < k) (hd' : 0 < d') (hn : n = k * n') (hd : d = k * d') (hg : Nat.Coprime n'.natAbs d'.natAbs) :
    (n'.natAbs < 9223372036854775808 → d' < 9223372036854775808 → rN n d = n' ∧ rD n d = d' ∧ rE n d = 0) ∧ (¬ (n'.natAbs < 9223372036854775808 ∧ d' < 9223372036854775808) → rN n d = 0 ∧ rD n d = 0 ∧ rE n d = 11) := by
  obtain ⟨h1, h2⟩ := red_of hk hd' hn hd hg
  have hdp : 0 < d := by rw [hd]; exact Int.mul_pos hk hd'
  constructor
  · intro a b
    have e : rE n d = 0 := by unfold rE; rw [if_neg (by omega), h1, h2, if_pos ⟨a, b⟩]
    unfold rN rD
    rw [e, if_pos rfl, if_pos rfl, h1, h2]; exact ⟨rfl, rfl, rfl⟩
  · intro a
    have e : rE n d = 11 := by unfold rE; rw [if_neg (by omega), h1, h2, if_neg a]
    unfold rN rD
    rw [e]; exact ⟨rfl, rfl, rfl⟩

theorem r_zero (n : Int) : rN n 0 = 0 ∧ rD n 0 = 0 ∧ rE n 0 = 12 := by
  unfold rN rD rE; simp

/-- A ratio that may be. -/
structure Valid (n d : Int) : Prop where
  d0 : 0 < d
  d1 : d ≤ 9223372036854775807
  n0 : -9223372036854775808 < n
  n1 : n ≤ 9223372036854775807
  co : Nat.Coprime n.natAbs d.natAbs

theorem chk_valid {n d : Int} (n1 : -9223372036854775808 ≤ n) (n2 : n ≤ 9223372036854775807) (d2 : d ≤ 9223372036854775807) : chkE n d = 0 ↔ Valid n d := by
  unfold chkE
  constructor
  · intro h
    split at h
    · cases h
    · split at h
      · cases h
      · rename_i h1 h2
        have h3 := not_or.1 h2
        have h4 := not_or.1 h3.2
        refine ⟨by omega, d2, by omega, n2, ?_⟩
        have h5 : gcdI n.natAbs d.natAbs = 1 := Classical.byContradiction h4.2
        unfold gcdI at h5
        rw [Int.gcd_natCast_natCast] at h5
        show Nat.gcd _ _ = 1
        omega
  · intro h
    rw [if_neg (by have := h.d0; omega), if_neg]
    have e : gcdI n.natAbs d.natAbs = 1 := by
      unfold gcdI
      rw [Int.gcd_natCast_natCast]
      have : Nat.gcd n.natAbs d.natAbs = 1 := h.co
      omega
    have := h.d0; have := h.n0
    rintro (h | h | h)
    · omega
    · omega
    · exact h e

theorem sgn_mul (a b : Int) : signI (sgn a b) (a.natAbs * b.natAbs) = a * b := by
  unfold signI sgn
  have h1 : ∀ x : Int, x < 0 → (x.natAbs : Int) = -x := fun x h => by omega
  have h2 : ∀ x : Int, ¬ x < 0 → (x.natAbs : Int) = x := fun x h => by omega
  by_cases ha : a < 0 <;> by_cases hb : b < 0 <;> simp only [ha, hb, decide_true, decide_false] <;> simp [h1, h2, ha, hb, Int.neg_mul, Int.mul_neg]

theorem pos_right {x y : Int} (h : 0 < x * y) (hx : 0 < x) : 0 < y := by
  by_cases hy : 0 < y
  · exact hy
  · exfalso
    have := Int.mul_nonpos_of_nonneg_of_nonpos (show 0 ≤ x by omega) (show y ≤ 0 by omega)
    omega

theorem signI_abs (s : Bool) (m : Int) : (signI s m).natAbs = m.natAbs := by unfold signI; split <;> omega
theorem signI_div (s : Bool) {m k : Int} (hk : k ∣ m) : signI s (m / k) = signI s m / k := by
  unfold signI; split
  · rw [Int.neg_ediv_of_dvd hk]
  · rfl

/-- A sum, in lowest terms. -/
theorem sum_red {an ad bn bd g a' b' N0 h : Int} (hA : Valid an ad) (hB : Valid bn bd) (hg : gcdI ad bd = g) (ea : ad / g = a') (eb : bd / g = b') (hN : N0 = an * b' + bn * a') (hh : gcdI N0 g = h) :
    0 < g ∧ 0 < h ∧ h ∣ N0 ∧ h ∣ g ∧ ad = g * a' ∧ bd = g * b' ∧ 0 < a' ∧ 0 < b' ∧ bd / h * h = bd ∧ 0 < bd / h ∧
    an * bd + bn * ad = (g * h) * (N0 / h) ∧ ad * bd = (g * h) * (a' * (bd / h)) ∧ Nat.Coprime (N0 / h).natAbs (a' * (bd / h)).natAbs := by
  have g0 : 0 < g := by
    rw [← hg]; unfold gcdI
    have := Int.gcd_pos_of_ne_zero_left bd (show ad ≠ 0 by have := hA.d0; omega)
    omega
  have dga : g ∣ ad := by rw [← hg]; exact Int.gcd_dvd_left ad bd
  have dgb : g ∣ bd := by rw [← hg]; exact Int.gcd_dvd_right ad bd
  have fa : ad = g * a' := by rw [← ea]; exact (Int.mul_ediv_cancel' dga).symm
  have fb : bd = g * b' := by rw [← eb]; exact (Int.mul_ediv_cancel' dgb).symm
  have a0 : 0 < a' := by
    have := hA.d0
    rw [fa] at this
    exact pos_right this g0
  have b0 : 0 < b' := by
    have := hB.d0
    rw [fb] at this
    exact pos_right this g0
  have h0 : 0 < h := by
    rw [← hh]; unfold gcdI
    have := Int.gcd_pos_of_ne_zero_right N0 (show g ≠ 0 by omega)
    omega
  have dhN : h ∣ N0 := by rw [← hh]; exact Int.gcd_dvd_left N0 g
  have dhg : h ∣ g := by rw [← hh]; exact Int.gcd_dvd_right N0 g
  have dhb : h ∣ bd := Int.dvd_trans dhg dgb
  have fN : N0 = h * (N0 / h) := (Int.mul_ediv_cancel' dhN).symm
  have fB : bd / h * h = bd := Int.ediv_mul_cancel dhb
  have bh0 : 0 < bd / h := by
    have := hB.d0
    rw [← fB, Int.mul_comm] at this
    exact pos_right this h0
  have e1 : an * bd + bn * ad = g * N0 := by
    rw [hN, fa, fb, Int.mul_add, Int.mul_left_comm, Int.mul_left_comm bn]
  refine ⟨g0, h0, dhN, dhg, fa, fb, a0, b0, fB, bh0, ?_, ?_, ?_⟩
  · rw [e1, Int.mul_assoc, ← fN]
  · have e2 : bd = h * (bd / h) := by rw [Int.mul_comm, fB]
    rw [fa]
    generalize bd / h = z at *
    rw [e2, Int.mul_assoc, Int.mul_assoc, Int.mul_left_comm a']
  · -- what is coprime
    have cab : Nat.Coprime a'.natAbs b'.natAbs := by
      show Int.gcd a' b' = 1
      have : Int.gcd ad bd = g.natAbs := by have := hg; unfold gcdI at this; omega
      rw [fa, fb, Int.gcd_mul_left] at this
      have gp : 0 < g.natAbs := by omega
      exact Nat.eq_of_mul_eq_mul_left gp (by omega)
    have can : Nat.Coprime an.natAbs a'.natAbs := hA.co.coprime_dvd_right (by rw [fa, Int.natAbs_mul]; exact Nat.dvd_mul_left _ _)
    have cbn : Nat.Coprime bn.natAbs b'.natAbs := hB.co.coprime_dvd_right (by rw [fb, Int.natAbs_mul]; exact Nat.dvd_mul_left _ _)
    have c1 : Nat.Coprime N0.natAbs a'.natAbs := by
      show Int.gcd N0 a' = 1
      rw [hN, Int.gcd_add_mul_right_left]
      show Nat.gcd (an * b').natAbs a'.natAbs = 1
      rw [Int.natAbs_mul]
      exact Nat.Coprime.mul_left can cab.symm
    have c2 : Nat.Coprime N0.natAbs b'.natAbs := by
      show Int.gcd N0 b' = 1
      rw [hN, Int.add_comm, Int.gcd_add_mul_right_left]
      show Nat.gcd (bn * a').natAbs b'.natAbs = 1
      rw [Int.natAbs_mul]
      exact Nat.Coprime.mul_left cbn cab
    have dN : (N0 / h).natAbs ∣ N0.natAbs := by
      have : N0.natAbs = h.natAbs * (N0 / h).natAbs := by rw [← Int.natAbs_mul, ← fN]
      rw [this]; exact Nat.dvd_mul_left _ _
    have c1' := Nat.Coprime.coprime_dvd_left dN c1
    have c2' := Nat.Coprime.coprime_dvd_left dN c2
    have c3 : Nat.Coprime (N0 / h).natAbs (g / h).natAbs := by
      have hgn : Nat.gcd N0.natAbs g.natAbs = h.natAbs := by have := hh; unfold gcdI Int.gcd at this; omega
      have := Nat.coprime_div_gcd_div_gcd (m := N0.natAbs) (n := g.natAbs) (by omega)
      rw [hgn] at this
      rwa [Int.natAbs_ediv_of_dvd dhN, Int.natAbs_ediv_of_dvd dhg]
    have e3 : bd / h = (g / h) * b' := by
      rw [fb, Int.mul_comm g b', Int.mul_ediv_assoc _ dhg, Int.mul_comm]
    rw [Int.natAbs_mul, e3, Int.natAbs_mul]
    exact Nat.Coprime.mul_right c1' (Nat.Coprime.mul_right c3 c2')
end Go.Proofs.YtckeaibamgkegaaDoor
