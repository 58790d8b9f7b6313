/- Of, Neg, Round, Compare, by their walks -/
import Derived.Test.YtkjabiabeemfhaaGreatDoorZ6
import Derived.Test.YtkjabiabeemfhaaGreatDoorZ5
import Derived.Deep.DeepCutAuto
import Derived.Deep.CutBlock
set_option linter.all false
set_option linter.all false
section
namespace Go.Proofs.YtkjabiabeemfhaaGreatDoor
open Go.RowKit
set_option maxRecDepth 100000
def redN (n d : Int) : Int := (if d < 0 then -n else n) / gcdI n d
def redD (n d : Int) : Int := d.natAbs / gcdI n d
def rE (n d : Int) : Int := if d = 0 then 12 else if (redN n d).natAbs < 9223372036854775808 ∧ redD n d < 9223372036854775808 then 0 else 11
def rN (n d : Int) : Int := if rE n d = 0 then redN n d else 0
def rD (n d : Int) : Int := if rE n d = 0 then redD n d else 0
theorem red_of {n d k n' d' : Int} (hk : 0 < k) (hd' : 0 < d') (hn : n = k * n') (hd : d = k * d') (hg : Nat.Coprime n'.natAbs d'.natAbs) : redN n d = n' ∧ redD n d = d' := by
 have hg' : gcdI n d = k := by
  unfold gcdI
  rw [hn, hd, Int.gcd_mul_left]
  have : Int.gcd n' d' = 1 := hg
  rw [this]; omega
 have hdp : 0 < d := by rw [hd]; exact Int.mul_pos hk hd'
 unfold redN redD
 rw [hg', if_neg (by omega)]
 refine ⟨by rw [hn, Int.mul_ediv_cancel_left _ (by omega)], ?_⟩
 rw [show (d.natAbs : Int) = d by omega, hd, Int.mul_ediv_cancel_left _ (by omega)]
theorem r_of {n d k n' d' : Int} (hk : 0 < k) (hd' : 0 < d') (hn : n = k * n') (hd : d = k * d') (hg : Nat.Coprime n'.natAbs d'.natAbs) :
  (n'.natAbs < 9223372036854775808 → d' < 9223372036854775808 → rN n d = n' ∧ rD n d = d' ∧ rE n d = 0) ∧ (¬ (n'.natAbs < 9223372036854775808 ∧ d' < 9223372036854775808) → rN n d = 0 ∧ rD n d = 0 ∧ rE n d = 11) := by
 obtain ⟨h1, h2⟩ := red_of hk hd' hn hd hg
 have hdp : 0 < d := by rw [hd]; exact Int.mul_pos hk hd'
 constructor
 ·intro a b
  have e : rE n d = 0 := by unfold rE; rw [if_neg (by omega), h1, h2, if_pos ⟨a, b⟩]
  unfold rN rD
  rw [e, if_pos rfl, if_pos rfl, h1, h2]; exact ⟨rfl, rfl, rfl⟩
 ·intro a
  have e : rE n d = 11 := by unfold rE; rw [if_neg (by omega), h1, h2, if_neg a]
  unfold rN rD
  rw [e]; exact ⟨rfl, rfl, rfl⟩
structure Valid (n d : Int) : Prop where
 d0 : 0 < d
 d1 : d ≤ 9223372036854775807
 n0 : -9223372036854775808 < n
 n1 : n ≤ 9223372036854775807
 co : Nat.Coprime n.natAbs d.natAbs
theorem chk_valid {n d : Int} (n1 : -9223372036854775808 ≤ n) (n2 : n ≤ 9223372036854775807) (d2 : d ≤ 9223372036854775807) : chkE n d = 0 ↔ Valid n d := by
 unfold chkE
 constructor
 ·intro h
  split at h
  ·cases h
  ·split at h
   ·cases h
   ·rename_i h1 h2
    have h3 := not_or.1 h2
    have h4 := not_or.1 h3.2
    refine ⟨by omega, d2, by omega, n2, ?_⟩
    have h5 : gcdI n.natAbs d.natAbs = 1 := Classical.byContradiction h4.2
    unfold gcdI at h5
    rw [Int.gcd_natCast_natCast] at h5
    show Nat.gcd _ _ = 1
    omega
 ·intro h
  rw [if_neg (by have := h.d0; omega), if_neg]
  have e : gcdI n.natAbs d.natAbs = 1 := by
   unfold gcdI
   rw [Int.gcd_natCast_natCast]
   have : Nat.gcd n.natAbs d.natAbs = 1 := h.co
   omega
  have := h.d0; have := h.n0
  rintro (h | h | h)
  ·omega
  ·omega
  ·exact h e
theorem sgn_mul (a b : Int) : signI (sgn a b) (a.natAbs * b.natAbs) = a * b := by
 unfold signI sgn
 have h1 : ∀ x : Int, x < 0 → (x.natAbs : Int) = -x := fun x h => by omega
 have h2 : ∀ x : Int, ¬ x < 0 → (x.natAbs : Int) = x := fun x h => by omega
 by_cases ha : a < 0 <;> by_cases hb : b < 0 <;> simp only [ha, hb, decide_true, decide_false] <;> simp [h1, h2, ha, hb, Int.neg_mul, Int.mul_neg]
theorem pos_right {x y : Int} (h : 0 < x * y) (hx : 0 < x) : 0 < y := by
 by_cases hy : 0 < y
 ·exact hy
 ·exfalso
  have := Int.mul_nonpos_of_nonneg_of_nonpos (show 0 ≤ x by omega) (show y ≤ 0 by omega)
  omega
theorem signI_abs (s : Bool) (m : Int) : (signI s m).natAbs = m.natAbs := by unfold signI; split <;> omega
theorem signI_div (s : Bool) {m k : Int} (hk : k ∣ m) : signI s (m / k) = signI s m / k := by
 unfold signI; split
 ·rw [Int.neg_ediv_of_dvd hk]
 ·rfl
theorem sum_red {an ad bn bd g a' b' N0 h : Int} (hA : Valid an ad) (hB : Valid bn bd) (hg : gcdI ad bd = g) (ea : ad / g = a') (eb : bd / g = b') (hN : N0 = an * b' + bn * a') (hh : gcdI N0 g = h) :
  0 < g ∧ 0 < h ∧ h ∣ N0 ∧ h ∣ g ∧ ad = g * a' ∧ bd = g * b' ∧ 0 < a' ∧ 0 < b' ∧ bd / h * h = bd ∧ 0 < bd / h ∧
  an * bd + bn * ad = (g * h) * (N0 / h) ∧ ad * bd = (g * h) * (a' * (bd / h)) ∧ Nat.Coprime (N0 / h).natAbs (a' * (bd / h)).natAbs := by
 have g0 : 0 < g := by
  rw [← hg]; unfold gcdI
  have := Int.gcd_pos_of_ne_zero_left bd (show ad ≠ 0 by have := hA.d0; omega)
  omega
 have dga : g ∣ ad := by rw [← hg]; exact Int.gcd_dvd_left ad bd
 have dgb : g ∣ bd := by rw [← hg]; exact Int.gcd_dvd_right ad bd
 have fa : ad = g * a' := by rw [← ea]; exact (Int.mul_ediv_cancel' dga).symm
 have fb : bd = g * b' := by rw [← eb]; exact (Int.mul_ediv_cancel' dgb).symm
 have a0 : 0 < a' := by
  have := hA.d0
  rw [fa] at this
  exact pos_right this g0
 have b0 : 0 < b' := by
  have := hB.d0
  rw [fb] at this
  exact pos_right this g0
 have h0 : 0 < h := by
  rw [← hh]; unfold gcdI
  have := Int.gcd_pos_of_ne_zero_right N0 (show g ≠ 0 by omega)
  omega
 have dhN : h ∣ N0 := by rw [← hh]; exact Int.gcd_dvd_left N0 g
 have dhg : h ∣ g := by rw [← hh]; exact Int.gcd_dvd_right N0 g
 have dhb : h ∣ bd := Int.dvd_trans dhg dgb
 have fN : N0 = h * (N0 / h) := (Int.mul_ediv_cancel' dhN).symm
 have fB : bd / h * h = bd := Int.ediv_mul_cancel dhb
 have bh0 : 0 < bd / h := by
  have := hB.d0
  rw [← fB, Int.mul_comm] at this
  exact pos_right this h0
 have e1 : an * bd + bn * ad = g * N0 := by
  rw [hN, fa, fb, Int.mul_add, Int.mul_left_comm, Int.mul_left_comm bn]
 refine ⟨g0, h0, dhN, dhg, fa, fb, a0, b0, fB, bh0, ?_, ?_, ?_⟩
 ·rw [e1, Int.mul_assoc, ← fN]
 ·have e2 : bd = h * (bd / h) := by rw [Int.mul_comm, fB]
  rw [fa]
  generalize bd / h = z at *
  rw [e2, Int.mul_assoc, Int.mul_assoc, Int.mul_left_comm a']
 ·-- what is coprime
  have cab : Nat.Coprime a'.natAbs b'.natAbs := by
   show Int.gcd a' b' = 1
   have : Int.gcd ad bd = g.natAbs := by have := hg; unfold gcdI at this; omega
   rw [fa, fb, Int.gcd_mul_left] at this
   have gp : 0 < g.natAbs := by omega
   exact Nat.eq_of_mul_eq_mul_left gp (by omega)
  have can : Nat.Coprime an.natAbs a'.natAbs := hA.co.coprime_dvd_right (by rw [fa, Int.natAbs_mul]; exact Nat.dvd_mul_left _ _)
  have cbn : Nat.Coprime bn.natAbs b'.natAbs := hB.co.coprime_dvd_right (by rw [fb, Int.natAbs_mul]; exact Nat.dvd_mul_left _ _)
  have c1 : Nat.Coprime N0.natAbs a'.natAbs := by
   show Int.gcd N0 a' = 1
   rw [hN, Int.gcd_add_mul_right_left]
   show Nat.gcd (an * b').natAbs a'.natAbs = 1
   rw [Int.natAbs_mul]
   exact Nat.Coprime.mul_left can cab.symm
  have c2 : Nat.Coprime N0.natAbs b'.natAbs := by
   show Int.gcd N0 b' = 1
   rw [hN, Int.add_comm, Int.gcd_add_mul_right_left]
   show Nat.gcd (bn * a').natAbs b'.natAbs = 1
   rw [Int.natAbs_mul]
   exact Nat.Coprime.mul_left cbn cab
  have dN : (N0 / h).natAbs ∣ N0.natAbs := by
   have : N0.natAbs = h.natAbs * (N0 / h).natAbs := by rw [← Int.natAbs_mul, ← fN]
   rw [this]; exact Nat.dvd_mul_left _ _
  have c1' := Nat.Coprime.coprime_dvd_left dN c1
  have c2' := Nat.Coprime.coprime_dvd_left dN c2
  have c3 : Nat.Coprime (N0 / h).natAbs (g / h).natAbs := by
   have hgn : Nat.gcd N0.natAbs g.natAbs = h.natAbs := by have := hh; unfold gcdI Int.gcd at this; omega
   have := Nat.coprime_div_gcd_div_gcd (m := N0.natAbs) (n := g.natAbs) (by omega)
   rw [hgn] at this
   rwa [Int.natAbs_ediv_of_dvd dhN, Int.natAbs_ediv_of_dvd dhg]
  have e3 : bd / h = (g / h) * b' := by
   rw [fb, Int.mul_comm g b', Int.mul_ediv_assoc _ dhg, Int.mul_comm]
  rw [Int.natAbs_mul, e3, Int.natAbs_mul]
  exact Nat.Coprime.mul_right c1' (Nat.Coprime.mul_right c3 c2')
theorem ediv_range {x g : Int} (x0 : 0 < x) (hg : g ∣ x) (g0 : 0 < g) : 1 ≤ x / g ∧ x / g ≤ x := by
 have h1 : x / g * g = x := Int.ediv_mul_cancel hg
 have h2 : 0 < x / g := by
  rw [Int.mul_comm] at h1
  exact pos_right (by rw [h1]; exact x0) g0
 exact ⟨by omega, Int.ediv_le_self _ (by omega)⟩
theorem gcdI_dvd (a b : Int) : gcdI a b ∣ a ∧ gcdI a b ∣ b := ⟨Int.gcd_dvd_left a b, Int.gcd_dvd_right a b⟩
theorem add_any (an ad bn bd : Int) (w : World) (hA : Valid an ad) (hB : Valid bn bd) :
  Calls Tryz.prog 213 #[.agg #[.int .i64 an, .int .i64 ad], .agg #[.int .i64 bn, .int .i64 bd]] w fun e' w' =>
   e' = .returned (.tuple #[.agg #[.int .i64 (rN (an * bd + bn * ad) (ad * bd)), .int .i64 (rD (an * bd + bn * ad) (ad * bd))], .int .i64 (rE (an * bd + bn * ad) (ad * bd))]) ∧ Later w w' := by
 have ad0 := hA.d0; have ad1 := hA.d1; have an0 := hA.n0; have an1 := hA.n1
 have bd0 := hB.d0; have bd1 := hB.d1; have bn0 := hB.n0; have bn1 := hB.n1
 obtain ⟨g, hg⟩ : ∃ g, gcdI ad bd = g := ⟨_, rfl⟩
 obtain ⟨a', ea⟩ : ∃ a', ad / g = a' := ⟨_, rfl⟩
 obtain ⟨b', eb⟩ : ∃ b', bd / g = b' := ⟨_, rfl⟩
 obtain ⟨P, hP⟩ : ∃ P, plusM (an.natAbs * b'.natAbs) (sgn an b') (bn.natAbs * a'.natAbs) (sgn bn a') = P := ⟨_, rfl⟩
 obtain ⟨S, hS⟩ : ∃ S, plusS (an.natAbs * b'.natAbs) (sgn an b') (bn.natAbs * a'.natAbs) (sgn bn a') = S := ⟨_, rfl⟩
 obtain ⟨h, hh⟩ : ∃ h, gcdI (P % g) g = h := ⟨_, rfl⟩
 obtain ⟨N0, hN⟩ : ∃ N0, N0 = an * b' + bn * a' := ⟨_, rfl⟩
 have hsg : signI S P = N0 := by rw [← hS, ← hP, plus_signed, sgn_mul, sgn_mul, hN]
 have gd := gcdI_dvd ad bd
 rw [hg] at gd
 have g1 : 1 ≤ g := by
  have := Int.gcd_pos_of_ne_zero_left bd (show ad ≠ 0 by omega)
  rw [← hg]; unfold gcdI; omega
 have g2 : g ≤ ad := Int.le_of_dvd ad0 gd.1
 have ra := ediv_range ad0 gd.1 (by omega)
 have rb := ediv_range bd0 gd.2 (by omega)
 rw [ea] at ra; rw [eb] at rb
 have pb := plus_bd (sgn an b') (sgn bn a') (mul_natAbs_nonneg an b') (mul_natAbs_nonneg bn a')
 rw [hP] at pb
 have hmul : (an.natAbs : Int) * b'.natAbs ≤ 9223372036854775807 * 9223372036854775807 := Int.mul_le_mul (by omega) (by omega) (by omega) (by omega)
 have hmul2 : (bn.natAbs : Int) * a'.natAbs ≤ 9223372036854775807 * 9223372036854775807 := Int.mul_le_mul (by omega) (by omega) (by omega) (by omega)
 have hPabs : (N0.natAbs : Int) = P := by rw [← hsg, signI_abs]; omega
 have hhN : gcdI N0 g = h := by
  rw [← hh]; unfold gcdI
  have e : Int.gcd (P % g) g = Int.gcd P g := by
   have := Int.gcd_add_mul_left_left g (P % g) (P / g)
   rw [Int.emod_add_mul_ediv] at this
   exact this.symm
  rw [e, ← hPabs]; simp [Int.gcd]
 obtain ⟨g0, h0, dN, dg, fa, fb, a0, b0, fB, bh0, E1, E2, co⟩ := sum_red hA hB hg ea eb hN hhN
 have h2 : h ≤ g := Int.le_of_dvd g0 dg
 have dP : h ∣ P := by rw [← hPabs]; exact Int.dvd_natAbs.2 dN
 have hdiv : ((N0 / h).natAbs : Int) = P / h := by
  rw [Int.natAbs_ediv_of_dvd dN, Int.natCast_ediv, hPabs]
  congr 1; omega
 have R := r_of (n := an * bd + bn * ad) (d := ad * bd) (Int.mul_pos g0 h0) (Int.mul_pos a0 bh0) E1 E2 co
 have rbh := ediv_range bd0 (Int.dvd_trans dg gd.2) h0
 refine add_walk an ad bn bd w an0 an1 bn0 bn1 ad0 ad1 bd0 bd1 g a' b' P h 0 _ _ _ S (Lib.hid hg) g1 (by omega) ea eb ra.1 (by omega) rb.1 (by omega) (Lib.hid hP) (Lib.hid hS) (Lib.hid hh) (by omega) (by omega)
  (bd / h) rfl rbh.1 (by omega) ?_ ?_ ?_ pb.1 (by omega)
 ·intro hz
  have hN00 : N0 = 0 := by omega
  have e1 : an * bd + bn * ad = 0 := by rw [E1, hN00]; simp
  have R0 := (r_of (n := an * bd + bn * ad) (d := ad * bd) (k := ad * bd) (n' := 0) (d' := 1) (Int.mul_pos ad0 bd0) (by omega) (by rw [e1]; simp) (by simp) (by simp)).1 (by simp) (by omega)
  exact R0
 ·intro _ hf1 hf2
  have := R.1 (by omega) hf2
  refine ⟨?_, this.2⟩
  rw [this.1, signI_div S dP, hsg]
 ·intro _ hf
  exact R.2 (fun hx => hf ⟨by omega, hx.2⟩)
theorem mul_any (an ad bn bd : Int) (w : World) (hA : Valid an ad) (hB : Valid bn bd) :
  Calls Tryz.prog 174 #[.agg #[.int .i64 an, .int .i64 ad], .agg #[.int .i64 bn, .int .i64 bd]] w fun e' w' =>
   e' = .returned (.tuple #[.agg #[.int .i64 (rN (an * bn) (ad * bd)), .int .i64 (rD (an * bn) (ad * bd))], .int .i64 (rE (an * bn) (ad * bd))]) ∧ Later w w' := by
 have ad0 := hA.d0; have ad1 := hA.d1; have an0 := hA.n0; have an1 := hA.n1
 have bd0 := hB.d0; have bd1 := hB.d1; have bn0 := hB.n0; have bn1 := hB.n1
 obtain ⟨g, hg⟩ : ∃ g, gcdI an.natAbs bd = g := ⟨_, rfl⟩
 obtain ⟨h, hh⟩ : ∃ h, gcdI bn.natAbs ad = h := ⟨_, rfl⟩
 have gd := gcdI_dvd an.natAbs bd
 have hd := gcdI_dvd bn.natAbs ad
 have g0 : 0 < g := by
  have := Int.gcd_pos_of_ne_zero_right an.natAbs (show bd ≠ 0 by omega)
  rw [← hg]; unfold gcdI; omega
 have h0 : 0 < h := by
  have := Int.gcd_pos_of_ne_zero_right bn.natAbs (show ad ≠ 0 by omega)
  rw [← hh]; unfold gcdI; omega
 have hgn : Nat.gcd an.natAbs bd.natAbs = g.natAbs := by have := hg; unfold gcdI Int.gcd at this; simp at this; omega
 have hhn : Nat.gcd bn.natAbs ad.natAbs = h.natAbs := by have := hh; unfold gcdI Int.gcd at this; simp at this; omega
 rw [hg] at gd; rw [hh] at hd
 obtain ⟨A, eA⟩ : ∃ A, (an.natAbs : Int) / g = A := ⟨_, rfl⟩
 obtain ⟨B, eB⟩ : ∃ B, (bn.natAbs : Int) / h = B := ⟨_, rfl⟩
 obtain ⟨C, eC⟩ : ∃ C, ad / h = C := ⟨_, rfl⟩
 obtain ⟨D, eD⟩ : ∃ D, bd / g = D := ⟨_, rfl⟩
 have fA : (an.natAbs : Int) = g * A := by rw [← eA]; exact (Int.mul_ediv_cancel' gd.1).symm
 have fB : (bn.natAbs : Int) = h * B := by rw [← eB]; exact (Int.mul_ediv_cancel' hd.1).symm
 have fC : ad = h * C := by rw [← eC]; exact (Int.mul_ediv_cancel' hd.2).symm
 have fD : bd = g * D := by rw [← eD]; exact (Int.mul_ediv_cancel' gd.2).symm
 have A0 : 0 ≤ A := by rw [← eA]; exact Int.ediv_nonneg (by omega) (by omega)
 have B0 : 0 ≤ B := by rw [← eB]; exact Int.ediv_nonneg (by omega) (by omega)
 have A1 : A ≤ an.natAbs := by rw [← eA]; exact Int.ediv_le_self _ (by omega)
 have B1 : B ≤ bn.natAbs := by rw [← eB]; exact Int.ediv_le_self _ (by omega)
 have rC := ediv_range ad0 hd.2 h0
 have rD' := ediv_range bd0 gd.2 g0
 rw [eC] at rC; rw [eD] at rD'
 have nA : an.natAbs = g.natAbs * A.natAbs := by rw [← Int.natAbs_mul, ← fA]; rfl
 have nB : bn.natAbs = h.natAbs * B.natAbs := by rw [← Int.natAbs_mul, ← fB]; rfl
 have nC : ad.natAbs = h.natAbs * C.natAbs := by rw [← Int.natAbs_mul, ← fC]
 have nD : bd.natAbs = g.natAbs * D.natAbs := by rw [← Int.natAbs_mul, ← fD]
 have cAC : Nat.Coprime A.natAbs C.natAbs := Nat.Coprime.coprime_dvd_left (by rw [nA]; exact Nat.dvd_mul_left _ _) (Nat.Coprime.coprime_dvd_right (by rw [nC]; exact Nat.dvd_mul_left _ _) hA.co)
 have cBD : Nat.Coprime B.natAbs D.natAbs := Nat.Coprime.coprime_dvd_left (by rw [nB]; exact Nat.dvd_mul_left _ _) (Nat.Coprime.coprime_dvd_right (by rw [nD]; exact Nat.dvd_mul_left _ _) hB.co)
 have cAD : Nat.Coprime A.natAbs D.natAbs := by
  have := hgn; rw [nA, nD, Nat.gcd_mul_left] at this
  exact Nat.eq_of_mul_eq_mul_left (show 0 < g.natAbs by omega) (by omega)
 have cBC : Nat.Coprime B.natAbs C.natAbs := by
  have := hhn; rw [nB, nC, Nat.gcd_mul_left] at this
  exact Nat.eq_of_mul_eq_mul_left (show 0 < h.natAbs by omega) (by omega)
 have co : Nat.Coprime (signI (sgn an bn) (A * B)).natAbs (C * D).natAbs := by
  rw [signI_abs, Int.natAbs_mul, Int.natAbs_mul]
  exact Nat.Coprime.mul_right (Nat.Coprime.mul_left cAC cBC) (Nat.Coprime.mul_left cAD cBD)
 have E1 : an * bn = (g * h) * signI (sgn an bn) (A * B) := by
  rw [← sgn_mul an bn, fA, fB]
  unfold signI
  have : g * A * (h * B) = g * h * (A * B) := by rw [Int.mul_assoc, Int.mul_left_comm A, ← Int.mul_assoc]
  split
  ·rw [this, Int.mul_neg]
  ·exact this
 have E2 : ad * bd = (g * h) * (C * D) := by rw [fC, fD, Int.mul_comm g h, Int.mul_assoc, Int.mul_left_comm C, ← Int.mul_assoc]
 have R := r_of (n := an * bn) (d := ad * bd) (Int.mul_pos g0 h0) (Int.mul_pos (show 0 < C by omega) (show 0 < D by omega)) E1 E2 co
 have hAB : 0 ≤ A * B := Int.mul_nonneg A0 B0
 have g2 : g ≤ bd := Int.le_of_dvd bd0 gd.2
 have h2 : h ≤ ad := Int.le_of_dvd ad0 hd.2
 refine mul_walk an ad bn bd w an0 an1 bn0 bn1 ad0 ad1 bd0 bd1 g h A B C D _ _ _ (Lib.hid hg) (by omega) (by omega) (Lib.hid hh) (by omega) (by omega) eA eB eC eD A0 (by omega) B0 (by omega) (by omega) (by omega) (by omega) (by omega) ?_ ?_
 ·intro hf1 hf2
  exact R.1 (by rw [signI_abs]; omega) hf2
 ·intro hf
  exact R.2 (fun hx => hf ⟨by have := hx.1; rw [signI_abs] at this; omega, hx.2⟩)
def firstE (an ad bn bd : Int) : Int := if chkE an ad ≠ 0 then chkE an ad else chkE bn bd
theorem chk_bd (n d : Int) : chkE n d = 0 ∨ chkE n d = 12 ∨ chkE n d = 13 := by
 unfold chkE; split
 ·exact .inr (.inl rfl)
 ·split
  ·exact .inr (.inr rfl)
  ·exact .inl rfl
set_option maxHeartbeats 1000000 in
theorem first_any (an ad bn bd : Int) (b : Nat) (w : World) (an1 : -9223372036854775808 ≤ an) (an2 : an ≤ 9223372036854775807) (ad1 : -9223372036854775808 ≤ ad) (ad2 : ad ≤ 9223372036854775807)
  (bn1 : -9223372036854775808 ≤ bn) (bn2 : bn ≤ 9223372036854775807) (bd1 : -9223372036854775808 ≤ bd) (bd2 : bd ≤ 9223372036854775807)
  (hb : b < w.heap.size) (cs : ∀ i, w.cell? ⟨b, i, none⟩ = #[Value.int .i64 an, .int .i64 ad, .int .i64 bn, .int .i64 bd][i]?) :
  Calls Tryz.prog 175 #[.slice (some ⟨b, 0, none⟩) 2 2] w fun e w' => e = .returned (.int .i64 (firstE an ad bn bd)) ∧ Later w w' := by
 have A := chk_bd an ad
 have B := chk_bd bn bd
 go_enter Tryz.func175, Tryz.ntmps175
 go_wp2_with fail
 go_step3
 go_wp2_with fail
 go_step3
 go_upto_block 0 with fail
 go_cut [3, 5, 8] (fun s3 s5 s8 wx => s3 = .int .i64 (firstE an ad bn bd) ∧ Later w wx)
 case first =>
  go_wp2_with fail
  go_loopw [3, 5, 8] (fun s3 s5 s8 wr => ∃ k : Nat, k ≤ 2 ∧ s8 = .int .i64 k ∧ s3 = .int .i64 0 ∧ (1 ≤ k → Hid (chkE an ad = 0)) ∧ (2 ≤ k → Hid (chkE bn bd = 0)) ∧ Later w wr) (fun _ _ s8 _ => 2 - (intOf s8).toNat)
  case atStart => exact ⟨0, by omega, rfl, rfl, fun h => by omega, fun h => by omega, Later.refl _⟩
  case round =>
   obtain ⟨k, hk, rfl, rfl, h1, h2, hl⟩ := hrel
   have hc : ∀ i, wr.cell? ⟨b, i, none⟩ = #[Value.int .i64 an, .int .i64 ad, .int .i64 bn, .int .i64 bd][i]? := fun i => (hl.cell (p := ⟨b, i, none⟩) hb).trans (cs i)
   match k, hk, h1, h2 with
   | 0, _, h1, _ =>
    by_cases he : chkE an ad = 0
    ·have HE := Lib.hid he
     clear he
     go_wp2_with (go_at_call 112; refine (check_any _ _ _ (by omega) (by omega) (by omega) (by omega)).mono ?_; rw [HE.out]; rintro e w1 ⟨rfl, hb1⟩)
     go_roundw
     case rel => exact ⟨1, by omega, rfl, rfl, fun _ => HE, fun h => by omega, by repeat (first | with_reducible (first | exact zq1 _ | assumption | refine zq2 ?_ | refine zq4 ?_ ?_ _ | refine zq5 ?_ _ | refine zq6 ?_ _ | refine zq7 ?_ | refine zq8 ?_ (by assumption)) | (simp only [zq10]; omega) | (simp; done) | (simp; omega))⟩
     case measure => simp [intOf]
    ·have hF : firstE an ad bn bd = chkE an ad := by unfold firstE; rw [if_pos he]
     have HF := Lib.hid hF
     clear hF
     obtain ⟨E, hE⟩ : ∃ E, E = chkE an ad := ⟨_, rfl⟩
     rw [← hE] at he HF
     have HE := Lib.hid hE
     have he' : (E != 0) = true := by simpa using he
     clear hE he
     go_wp2_with (go_at_call 112; refine (check_any _ _ _ (by omega) (by omega) (by omega) (by omega)).mono ?_; rw [← HE.out]; rintro e w1 ⟨rfl, hb1⟩)
     go_meet
     exact ⟨by rw [HF.out], by repeat (first | with_reducible (first | exact zq1 _ | assumption | refine zq2 ?_ | refine zq4 ?_ ?_ _ | refine zq5 ?_ _ | refine zq6 ?_ _ | refine zq7 ?_ | refine zq8 ?_ (by assumption)) | (simp only [zq10]; omega) | (simp; done) | (simp; omega))⟩
   | 1, _, h1, _ =>
    by_cases he : chkE bn bd = 0
    ·have HE := Lib.hid he
     clear he
     go_wp2_with (go_at_call 112; refine (check_any _ _ _ (by omega) (by omega) (by omega) (by omega)).mono ?_; rw [HE.out]; rintro e w1 ⟨rfl, hb1⟩)
     go_roundw
     case rel => exact ⟨2, by omega, rfl, rfl, fun _ => h1 (by omega), fun _ => HE, by repeat (first | with_reducible (first | exact zq1 _ | assumption | refine zq2 ?_ | refine zq4 ?_ ?_ _ | refine zq5 ?_ _ | refine zq6 ?_ _ | refine zq7 ?_ | refine zq8 ?_ (by assumption)) | (simp only [zq10]; omega) | (simp; done) | (simp; omega))⟩
     case measure => simp [intOf]
    ·have hF : firstE an ad bn bd = chkE bn bd := by unfold firstE; rw [if_neg (by rw [(h1 (by omega)).out]; decide)]
     have HF := Lib.hid hF
     clear hF
     obtain ⟨E, hE⟩ : ∃ E, E = chkE bn bd := ⟨_, rfl⟩
     rw [← hE] at he HF
     have HE := Lib.hid hE
     have he' : (E != 0) = true := by simpa using he
     clear hE he
     go_wp2_with (go_at_call 112; refine (check_any _ _ _ (by omega) (by omega) (by omega) (by omega)).mono ?_; rw [← HE.out]; rintro e w1 ⟨rfl, hb1⟩)
     go_meet
     exact ⟨by rw [HF.out], by repeat (first | with_reducible (first | exact zq1 _ | assumption | refine zq2 ?_ | refine zq4 ?_ ?_ _ | refine zq5 ?_ _ | refine zq6 ?_ _ | refine zq7 ?_ | refine zq8 ?_ (by assumption)) | (simp only [zq10]; omega) | (simp; done) | (simp; omega))⟩
   | 2, _, h1, h2 =>
    go_wp2_with fail
    go_meet
    exact ⟨by rw [show firstE an ad bn bd = 0 by unfold firstE; rw [(h1 (by omega)).out, (h2 (by omega)).out]; rfl], hl⟩
   | k + 3, hk, _, _ => omega
 case rest =>
  obtain ⟨rfl, hl⟩ := hcut
  go_wp2_with fail
  rw [Exit.noGoto_ret]
  go_ret
  exact ⟨rfl, hl⟩
set_option maxHeartbeats 1000000 in
theorem two_good_add (an ad bn bd n d e : Int) (w : World) (an1 : -9223372036854775808 ≤ an) (an2 : an ≤ 9223372036854775807) (ad1 : -9223372036854775808 ≤ ad) (ad2 : ad ≤ 9223372036854775807)
  (bn1 : -9223372036854775808 ≤ bn) (bn2 : bn ≤ 9223372036854775807) (bd1 : -9223372036854775808 ≤ bd) (bd2 : bd ≤ 9223372036854775807) (HE : Hid (firstE an ad bn bd = 0))
  (HF : Hid (∀ w, Calls Tryz.prog 213 #[.agg #[.int .i64 an, .int .i64 ad], .agg #[.int .i64 bn, .int .i64 bd]] w fun e' w' => e' = .returned (.tuple #[.agg #[.int .i64 n, .int .i64 d], .int .i64 e]) ∧ Later w w')) :
  Calls Tryz.prog 173 #[.agg #[.int .i64 an, .int .i64 ad], .agg #[.int .i64 bn, .int .i64 bd], .func (.func 213) #[] #[]] w fun e' w' => e' = .returned (.tuple #[.agg #[.int .i64 n, .int .i64 d], .int .i64 e]) ∧ Later w w' := by
 go_enter Tryz.func173, Tryz.ntmps173
 go_wp2_with fail
 refine (first_any an ad bn bd _ _ an1 an2 ad1 ad2 bn1 bn2 bd1 bd2 (by simp) (fun i => by simp [go_sem])).mono ?_
 rw [HE.out]
 rintro e w1 ⟨rfl, hb1⟩
 obtain ⟨c0, f0, c1, f1, c2, f2, z1⟩ := own3 (Later.unalloc hb1)
 go_wp2_with fail
 refine (HF.out _).mono ?_
 rintro e w2 ⟨rfl, hb2⟩
 obtain ⟨hc, hf⟩ := bcell hb2; have hz := Later.size hb2; (try simp only [World.size_alloc, World.size_drew, World.heap_drewN, World.size_setCell] at hz); (repeat (first | (with_reducible refine use_of (Later.undrew hb2) ?_; intro hb2) | (with_reducible refine use_of (Later.undrewN hb2) ?_; intro hb2) | (with_reducible refine use_of (Later.unalloc hb2) ?_; intro hb2))); obtain ⟨hc, hf⟩ := bcell hb2; (try (refine use_of (fun i => (hc _ i (by omega)).trans (c2 i)) ?_; clear c2; intro c2)); (try (refine use_of (fun i hi => (hf _ i (by omega)).trans (f2 i hi)) ?_; clear f2; intro f2))
 go_wp2_with fail
 exact bodyPost_ret (v := .tuple #[.agg #[.int .i64 n, .int .i64 d], .int .i64 e]) (by simp [results, Tryz.results173, go_sem, c2]) rfl ⟨rfl, by repeat (first | with_reducible (first | exact zq1 _ | assumption | refine zq2 ?_ | refine zq4 ?_ ?_ _ | refine zq5 ?_ _ | refine zq6 ?_ _ | refine zq7 ?_ | refine zq8 ?_ (by assumption)) | (simp only [zq10]; omega) | (simp; done) | (simp; omega))⟩
set_option maxHeartbeats 1000000 in
theorem two_good_mul (an ad bn bd n d e : Int) (w : World) (an1 : -9223372036854775808 ≤ an) (an2 : an ≤ 9223372036854775807) (ad1 : -9223372036854775808 ≤ ad) (ad2 : ad ≤ 9223372036854775807)
  (bn1 : -9223372036854775808 ≤ bn) (bn2 : bn ≤ 9223372036854775807) (bd1 : -9223372036854775808 ≤ bd) (bd2 : bd ≤ 9223372036854775807) (HE : Hid (firstE an ad bn bd = 0))
  (HF : Hid (∀ w, Calls Tryz.prog 174 #[.agg #[.int .i64 an, .int .i64 ad], .agg #[.int .i64 bn, .int .i64 bd]] w fun e' w' => e' = .returned (.tuple #[.agg #[.int .i64 n, .int .i64 d], .int .i64 e]) ∧ Later w w')) :
  Calls Tryz.prog 173 #[.agg #[.int .i64 an, .int .i64 ad], .agg #[.int .i64 bn, .int .i64 bd], .func (.func 174) #[] #[]] w fun e' w' => e' = .returned (.tuple #[.agg #[.int .i64 n, .int .i64 d], .int .i64 e]) ∧ Later w w' := by
 go_enter Tryz.func173, Tryz.ntmps173
 go_wp2_with fail
 refine (first_any an ad bn bd _ _ an1 an2 ad1 ad2 bn1 bn2 bd1 bd2 (by simp) (fun i => by simp [go_sem])).mono ?_
 rw [HE.out]
 rintro e w1 ⟨rfl, hb1⟩
 obtain ⟨c0, f0, c1, f1, c2, f2, z1⟩ := own3 (Later.unalloc hb1)
 go_wp2_with fail
 refine (HF.out _).mono ?_
 rintro e w2 ⟨rfl, hb2⟩
 obtain ⟨hc, hf⟩ := bcell hb2; have hz := Later.size hb2; (try simp only [World.size_alloc, World.size_drew, World.heap_drewN, World.size_setCell] at hz); (repeat (first | (with_reducible refine use_of (Later.undrew hb2) ?_; intro hb2) | (with_reducible refine use_of (Later.undrewN hb2) ?_; intro hb2) | (with_reducible refine use_of (Later.unalloc hb2) ?_; intro hb2))); obtain ⟨hc, hf⟩ := bcell hb2; (try (refine use_of (fun i => (hc _ i (by omega)).trans (c2 i)) ?_; clear c2; intro c2)); (try (refine use_of (fun i hi => (hf _ i (by omega)).trans (f2 i hi)) ?_; clear f2; intro f2))
 go_wp2_with fail
 exact bodyPost_ret (v := .tuple #[.agg #[.int .i64 n, .int .i64 d], .int .i64 e]) (by simp [results, Tryz.results173, go_sem, c2]) rfl ⟨rfl, by repeat (first | with_reducible (first | exact zq1 _ | assumption | refine zq2 ?_ | refine zq4 ?_ ?_ _ | refine zq5 ?_ _ | refine zq6 ?_ _ | refine zq7 ?_ | refine zq8 ?_ (by assumption)) | (simp only [zq10]; omega) | (simp; done) | (simp; omega))⟩
set_option maxHeartbeats 1000000 in
theorem two_good_sub (an ad bn bd n d e : Int) (w : World) (an1 : -9223372036854775808 ≤ an) (an2 : an ≤ 9223372036854775807) (ad1 : -9223372036854775808 ≤ ad) (ad2 : ad ≤ 9223372036854775807)
  (bn1 : -9223372036854775808 ≤ bn) (bn2 : bn ≤ 9223372036854775807) (bd1 : -9223372036854775808 ≤ bd) (bd2 : bd ≤ 9223372036854775807) (HE : Hid (firstE an ad bn bd = 0))
  (HF : Hid (∀ w, Calls Tryz.prog 214 #[.agg #[.int .i64 an, .int .i64 ad], .agg #[.int .i64 bn, .int .i64 bd]] w fun e' w' => e' = .returned (.tuple #[.agg #[.int .i64 n, .int .i64 d], .int .i64 e]) ∧ Later w w')) :
  Calls Tryz.prog 173 #[.agg #[.int .i64 an, .int .i64 ad], .agg #[.int .i64 bn, .int .i64 bd], .func (.func 214) #[] #[]] w fun e' w' => e' = .returned (.tuple #[.agg #[.int .i64 n, .int .i64 d], .int .i64 e]) ∧ Later w w' := by
 go_enter Tryz.func173, Tryz.ntmps173
 go_wp2_with fail
 refine (first_any an ad bn bd _ _ an1 an2 ad1 ad2 bn1 bn2 bd1 bd2 (by simp) (fun i => by simp [go_sem])).mono ?_
 rw [HE.out]
 rintro e w1 ⟨rfl, hb1⟩
 obtain ⟨c0, f0, c1, f1, c2, f2, z1⟩ := own3 (Later.unalloc hb1)
 go_wp2_with fail
 refine (HF.out _).mono ?_
 rintro e w2 ⟨rfl, hb2⟩
 obtain ⟨hc, hf⟩ := bcell hb2; have hz := Later.size hb2; (try simp only [World.size_alloc, World.size_drew, World.heap_drewN, World.size_setCell] at hz); (repeat (first | (with_reducible refine use_of (Later.undrew hb2) ?_; intro hb2) | (with_reducible refine use_of (Later.undrewN hb2) ?_; intro hb2) | (with_reducible refine use_of (Later.unalloc hb2) ?_; intro hb2))); obtain ⟨hc, hf⟩ := bcell hb2; (try (refine use_of (fun i => (hc _ i (by omega)).trans (c2 i)) ?_; clear c2; intro c2)); (try (refine use_of (fun i hi => (hf _ i (by omega)).trans (f2 i hi)) ?_; clear f2; intro f2))
 go_wp2_with fail
 exact bodyPost_ret (v := .tuple #[.agg #[.int .i64 n, .int .i64 d], .int .i64 e]) (by simp [results, Tryz.results173, go_sem, c2]) rfl ⟨rfl, by repeat (first | with_reducible (first | exact zq1 _ | assumption | refine zq2 ?_ | refine zq4 ?_ ?_ _ | refine zq5 ?_ _ | refine zq6 ?_ _ | refine zq7 ?_ | refine zq8 ?_ (by assumption)) | (simp only [zq10]; omega) | (simp; done) | (simp; omega))⟩
theorem first_zero {an ad bn bd : Int} (an1 : -9223372036854775808 ≤ an) (an2 : an ≤ 9223372036854775807) (ad2 : ad ≤ 9223372036854775807)
  (bn1 : -9223372036854775808 ≤ bn) (bn2 : bn ≤ 9223372036854775807) (bd2 : bd ≤ 9223372036854775807) : firstE an ad bn bd = 0 ↔ Valid an ad ∧ Valid bn bd := by
 rw [← chk_valid an1 an2 ad2, ← chk_valid bn1 bn2 bd2]
 unfold firstE
 constructor
 ·intro h
  by_cases ha : chkE an ad = 0
  ·rw [if_neg (by simpa using ha)] at h; exact ⟨ha, h⟩
  ·rw [if_pos ha] at h; exact absurd h ha
 ·rintro ⟨h1, h2⟩
  rw [if_neg (by simpa using h1)]; exact h2
theorem valid_neg {n d : Int} (h : Valid n d) : Valid (-n) d := ⟨h.d0, h.d1, by have := h.n1; omega, by have := h.n0; omega, by rw [Int.natAbs_neg]; exact h.co⟩
set_option maxHeartbeats 1000000 in
theorem sub1_any (an ad bn bd : Int) (w : World) (hA : Valid an ad) (hB : Valid bn bd) :
  Calls Tryz.prog 214 #[.agg #[.int .i64 an, .int .i64 ad], .agg #[.int .i64 bn, .int .i64 bd]] w fun e' w' =>
   e' = .returned (.tuple #[.agg #[.int .i64 (rN (an * bd + -bn * ad) (ad * bd)), .int .i64 (rD (an * bd + -bn * ad) (ad * bd))], .int .i64 (rE (an * bd + -bn * ad) (ad * bd))]) ∧ Later w w' := by
 have bn0 := hB.n0; have bn1 := hB.n1
 have HA := fun w => add_any an ad (-bn) bd w hA (valid_neg hB)
 generalize rN (an * bd + -bn * ad) (ad * bd) = N at *
 generalize rD (an * bd + -bn * ad) (ad * bd) = D at *
 generalize rE (an * bd + -bn * ad) (ad * bd) = E at *
 have HH := Lib.hid HA
 clear HA
 go_enter Tryz.func214, Tryz.ntmps214
 go_wp2_with fail
 refine (HH.out _).mono ?_
 rintro e w1 ⟨rfl, hb1⟩
 obtain ⟨c0, f0, c1, f1, c2, f2, z1⟩ := own3 hb1
 go_wp2_with fail
 exact bodyPost_ret (v := .tuple #[.agg #[.int .i64 N, .int .i64 D], .int .i64 E]) (by simp [results, Tryz.results214, go_sem, c2]) rfl ⟨rfl, by repeat (first | with_reducible (first | exact zq1 _ | assumption | refine zq2 ?_ | refine zq4 ?_ ?_ _ | refine zq5 ?_ _ | refine zq6 ?_ _ | refine zq7 ?_ | refine zq8 ?_ (by assumption)) | (simp only [zq10]; omega) | (simp; done) | (simp; omega))⟩
set_option maxHeartbeats 1000000 in
theorem Add_walk (an ad bn bd N D E : Int) (w : World) (HH : Hid (∀ w, Calls Tryz.prog 173 #[.agg #[.int .i64 an, .int .i64 ad], .agg #[.int .i64 bn, .int .i64 bd], .func (.func 213) #[] #[]] w fun e' w' => e' = .returned (.tuple #[.agg #[.int .i64 N, .int .i64 D], .int .i64 E]) ∧ Later w w')) :
  Calls Tryz.prog 209 #[.agg #[.int .i64 an, .int .i64 ad], .agg #[.int .i64 bn, .int .i64 bd]] w fun e' w' => e' = .returned (.tuple #[.agg #[.int .i64 N, .int .i64 D], .int .i64 E]) ∧ Later w w' := by
 go_enter Tryz.func209, Tryz.ntmps209
 go_wp2_with fail
 refine (HH.out _).mono ?_
 rintro e w1 ⟨rfl, hb1⟩
 obtain ⟨c0, f0, c1, f1, c2, f2, z1⟩ := own3 hb1
 go_wp2_with fail
 exact bodyPost_ret (v := .tuple #[.agg #[.int .i64 N, .int .i64 D], .int .i64 E]) (by simp [results, Tryz.results209, go_sem, c2]) rfl ⟨rfl, by repeat (first | with_reducible (first | exact zq1 _ | assumption | refine zq2 ?_ | refine zq4 ?_ ?_ _ | refine zq5 ?_ _ | refine zq6 ?_ _ | refine zq7 ?_ | refine zq8 ?_ (by assumption)) | (simp only [zq10]; omega) | (simp; done) | (simp; omega))⟩
theorem Add_good (an ad bn bd : Int) (w : World) (hA : Valid an ad) (hB : Valid bn bd) :
  Calls Tryz.prog 209 #[.agg #[.int .i64 an, .int .i64 ad], .agg #[.int .i64 bn, .int .i64 bd]] w fun e' w' =>
   e' = .returned (.tuple #[.agg #[.int .i64 (rN (an * bd + bn * ad) (ad * bd)), .int .i64 (rD (an * bd + bn * ad) (ad * bd))], .int .i64 (rE (an * bd + bn * ad) (ad * bd))]) ∧ Later w w' := by
 have ad0 := hA.d0; have ad1 := hA.d1; have an0 := hA.n0; have an1 := hA.n1
 have bd0 := hB.d0; have bd1 := hB.d1; have bn0 := hB.n0; have bn1 := hB.n1
 exact Add_walk an ad bn bd _ _ _ w (Lib.hid fun w => two_good_add an ad bn bd _ _ _ w (by omega) an1 (by omega) ad1 (by omega) bn1 (by omega) bd1
  (Lib.hid ((first_zero (by omega) an1 ad1 (by omega) bn1 bd1).2 ⟨hA, hB⟩)) (Lib.hid fun w => add_any an ad bn bd w hA hB))
set_option maxHeartbeats 1000000 in
theorem Mul_walk (an ad bn bd N D E : Int) (w : World) (HH : Hid (∀ w, Calls Tryz.prog 173 #[.agg #[.int .i64 an, .int .i64 ad], .agg #[.int .i64 bn, .int .i64 bd], .func (.func 174) #[] #[]] w fun e' w' => e' = .returned (.tuple #[.agg #[.int .i64 N, .int .i64 D], .int .i64 E]) ∧ Later w w')) :
  Calls Tryz.prog 136 #[.agg #[.int .i64 an, .int .i64 ad], .agg #[.int .i64 bn, .int .i64 bd]] w fun e' w' => e' = .returned (.tuple #[.agg #[.int .i64 N, .int .i64 D], .int .i64 E]) ∧ Later w w' := by
 go_enter Tryz.func136, Tryz.ntmps136
 go_wp2_with fail
 refine (HH.out _).mono ?_
 rintro e w1 ⟨rfl, hb1⟩
 obtain ⟨c0, f0, c1, f1, c2, f2, z1⟩ := own3 hb1
 go_wp2_with fail
 exact bodyPost_ret (v := .tuple #[.agg #[.int .i64 N, .int .i64 D], .int .i64 E]) (by simp [results, Tryz.results136, go_sem, c2]) rfl ⟨rfl, by repeat (first | with_reducible (first | exact zq1 _ | assumption | refine zq2 ?_ | refine zq4 ?_ ?_ _ | refine zq5 ?_ _ | refine zq6 ?_ _ | refine zq7 ?_ | refine zq8 ?_ (by assumption)) | (simp only [zq10]; omega) | (simp; done) | (simp; omega))⟩
theorem Mul_good (an ad bn bd : Int) (w : World) (hA : Valid an ad) (hB : Valid bn bd) :
  Calls Tryz.prog 136 #[.agg #[.int .i64 an, .int .i64 ad], .agg #[.int .i64 bn, .int .i64 bd]] w fun e' w' =>
   e' = .returned (.tuple #[.agg #[.int .i64 (rN (an * bn) (ad * bd)), .int .i64 (rD (an * bn) (ad * bd))], .int .i64 (rE (an * bn) (ad * bd))]) ∧ Later w w' := by
 have ad0 := hA.d0; have ad1 := hA.d1; have an0 := hA.n0; have an1 := hA.n1
 have bd0 := hB.d0; have bd1 := hB.d1; have bn0 := hB.n0; have bn1 := hB.n1
 exact Mul_walk an ad bn bd _ _ _ w (Lib.hid fun w => two_good_mul an ad bn bd _ _ _ w (by omega) an1 (by omega) ad1 (by omega) bn1 (by omega) bd1
  (Lib.hid ((first_zero (by omega) an1 ad1 (by omega) bn1 bd1).2 ⟨hA, hB⟩)) (Lib.hid fun w => mul_any an ad bn bd w hA hB))
set_option maxHeartbeats 1000000 in
theorem Sub_walk (an ad bn bd N D E : Int) (w : World) (HH : Hid (∀ w, Calls Tryz.prog 173 #[.agg #[.int .i64 an, .int .i64 ad], .agg #[.int .i64 bn, .int .i64 bd], .func (.func 214) #[] #[]] w fun e' w' => e' = .returned (.tuple #[.agg #[.int .i64 N, .int .i64 D], .int .i64 E]) ∧ Later w w')) :
  Calls Tryz.prog 210 #[.agg #[.int .i64 an, .int .i64 ad], .agg #[.int .i64 bn, .int .i64 bd]] w fun e' w' => e' = .returned (.tuple #[.agg #[.int .i64 N, .int .i64 D], .int .i64 E]) ∧ Later w w' := by
 go_enter Tryz.func210, Tryz.ntmps210
 go_wp2_with fail
 refine (HH.out _).mono ?_
 rintro e w1 ⟨rfl, hb1⟩
 obtain ⟨c0, f0, c1, f1, c2, f2, z1⟩ := own3 hb1
 go_wp2_with fail
 exact bodyPost_ret (v := .tuple #[.agg #[.int .i64 N, .int .i64 D], .int .i64 E]) (by simp [results, Tryz.results210, go_sem, c2]) rfl ⟨rfl, by repeat (first | with_reducible (first | exact zq1 _ | assumption | refine zq2 ?_ | refine zq4 ?_ ?_ _ | refine zq5 ?_ _ | refine zq6 ?_ _ | refine zq7 ?_ | refine zq8 ?_ (by assumption)) | (simp only [zq10]; omega) | (simp; done) | (simp; omega))⟩
theorem Sub_good (an ad bn bd : Int) (w : World) (hA : Valid an ad) (hB : Valid bn bd) :
  Calls Tryz.prog 210 #[.agg #[.int .i64 an, .int .i64 ad], .agg #[.int .i64 bn, .int .i64 bd]] w fun e' w' =>
   e' = .returned (.tuple #[.agg #[.int .i64 (rN (an * bd + -bn * ad) (ad * bd)), .int .i64 (rD (an * bd + -bn * ad) (ad * bd))], .int .i64 (rE (an * bd + -bn * ad) (ad * bd))]) ∧ Later w w' := by
 have ad0 := hA.d0; have ad1 := hA.d1; have an0 := hA.n0; have an1 := hA.n1
 have bd0 := hB.d0; have bd1 := hB.d1; have bn0 := hB.n0; have bn1 := hB.n1
 exact Sub_walk an ad bn bd _ _ _ w (Lib.hid fun w => two_good_sub an ad bn bd _ _ _ w (by omega) an1 (by omega) ad1 (by omega) bn1 (by omega) bd1
  (Lib.hid ((first_zero (by omega) an1 ad1 (by omega) bn1 bd1).2 ⟨hA, hB⟩)) (Lib.hid fun w => sub1_any an ad bn bd w hA hB))
set_option maxHeartbeats 1000000 in
theorem neg_bad (n d E : Int) (w : World) (n1 : -9223372036854775808 ≤ n) (n2 : n ≤ 9223372036854775807) (d1 : -9223372036854775808 ≤ d) (d2 : d ≤ 9223372036854775807) (HE : Hid (chkE n d = E)) (he : (E != 0) = true) :
  Calls Tryz.prog 134 #[.agg #[.int .i64 n, .int .i64 d]] w fun e w' => e = .returned (.tuple #[.agg #[.int .i64 0, .int .i64 0], .int .i64 E]) ∧ Later w w' := by
 go_enter Tryz.func134, Tryz.ntmps134
 go_wp2_with (go_at_call 112; refine (check_any _ _ _ n1 n2 d1 d2).mono ?_; rw [HE.out]; rintro e w1 ⟨rfl, hb1⟩; obtain ⟨c0, f0, c1, f1, z1⟩ := own2 hb1)
 exact bodyPost_ret (v := .tuple #[.agg #[.int .i64 0, .int .i64 0], .int .i64 E]) (by simp [results, Tryz.results134, go_sem, c1]) rfl ⟨rfl, by repeat (first | with_reducible (first | exact zq1 _ | assumption | refine zq2 ?_ | refine zq4 ?_ ?_ _ | refine zq5 ?_ _ | refine zq6 ?_ _ | refine zq7 ?_ | refine zq8 ?_ (by assumption)) | (simp only [zq10]; omega) | (simp; done) | (simp; omega))⟩
set_option maxHeartbeats 1000000 in
theorem neg_good (n d : Int) (w : World) (hV : Valid n d) :
  Calls Tryz.prog 134 #[.agg #[.int .i64 n, .int .i64 d]] w fun e w' => e = .returned (.tuple #[.agg #[.int .i64 (-n), .int .i64 d], .int .i64 0]) ∧ Later w w' := by
 have n0 := hV.n0; have n1 := hV.n1; have d0 := hV.d0; have d1 := hV.d1
 have HE := Lib.hid ((chk_valid (by omega) n1 d1).2 hV)
 go_enter Tryz.func134, Tryz.ntmps134
 go_wp2_with (go_at_call 112; refine (check_any _ _ _ (by omega) n1 (by omega) d1).mono ?_; rw [HE.out]; rintro e w1 ⟨rfl, hb1⟩; obtain ⟨c0, f0, c1, f1, z1⟩ := own2 hb1)
 exact bodyPost_ret (v := .tuple #[.agg #[.int .i64 (-n), .int .i64 d], .int .i64 0]) (by simp [results, Tryz.results134, go_sem, c1]) rfl ⟨rfl, by repeat (first | with_reducible (first | exact zq1 _ | assumption | refine zq2 ?_ | refine zq4 ?_ ?_ _ | refine zq5 ?_ _ | refine zq6 ?_ _ | refine zq7 ?_ | refine zq8 ?_ (by assumption)) | (simp only [zq10]; omega) | (simp; done) | (simp; omega))⟩
set_option maxHeartbeats 1000000 in
theorem round_good (n d : Int) (w : World) (hV : Valid n d) :
  Calls Tryz.prog 133 #[.agg #[.int .i64 n, .int .i64 d]] w fun e w' => e = .returned (.tuple #[.int .i64 (roundI n d), .int .i64 0]) ∧ Later w w' := by
 have n0 := hV.n0; have n1 := hV.n1; have d0 := hV.d0; have d1 := hV.d1
 have HE := Lib.hid ((chk_valid (by omega) n1 d1).2 hV)
 go_enter Tryz.func133, Tryz.ntmps133
 go_wp2_with (first | (go_at_call 112; refine (check_any _ _ _ (by omega) n1 (by omega) d1).mono ?_; rw [HE.out]; rintro e w1 ⟨rfl, hb1⟩; obtain ⟨c0, f0, z1⟩ := own1 hb1) | (go_at_call 171; refine (muldiv_one _ _ _ n0 n1 d0 d1).mono ?_; rintro e w2 ⟨rfl, hb2⟩))
 go_ret2
 exact ⟨rfl, by repeat (first | with_reducible (first | exact zq1 _ | assumption | refine zq2 ?_ | refine zq4 ?_ ?_ _ | refine zq5 ?_ _ | refine zq6 ?_ _ | refine zq7 ?_ | refine zq8 ?_ (by assumption)) | (simp only [zq10]; omega) | (simp; done) | (simp; omega))⟩
end Go.Proofs.YtkjabiabeemfhaaGreatDoor
end
