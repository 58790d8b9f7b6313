/- plain: numbers as rows of bits; what a slice of them is in a world. -/
import Derived.Test.YtckeaibamgkegaaDoorWords
set_option linter.all false
namespace Go.Proofs.YtckeaibamgkegaaDoor
open Go.RowKit
set_option maxRecDepth 100000

/-- Bit i of n. -/
def bit (n i : Nat) : Int := ((n / 2 ^ i % 2 : Nat) : Int)
/-- How many bits n has. -/
def nlen (n : Nat) : Nat := if n = 0 then 0 else n.log2 + 1

theorem bit_cases (n i : Nat) : bit n i = 0 ∨ bit n i = 1 := by unfold bit; omega
theorem bit_high {n L i : Nat} (h : n < 2 ^ L) (hi : L ≤ i) : bit n i = 0 := by
  unfold bit
  have : 2 ^ L ≤ 2 ^ i := Nat.pow_le_pow_right (by omega) hi
  rw [Nat.div_eq_of_lt (by omega)]; rfl
theorem nlen_zero : nlen 0 = 0 := rfl
theorem lt_nlen (n : Nat) : n < 2 ^ nlen n := by
  unfold nlen; split
  · omega
  · exact Nat.lt_log2_self
theorem nlen_le {n L : Nat} (h : n < 2 ^ L) : nlen n ≤ L := by
  unfold nlen; split
  · omega
  · rename_i h0
    exact (Nat.log2_lt h0).2 h
theorem le_nlen {n L : Nat} (h : 2 ^ L ≤ n) : L + 1 ≤ nlen n := by
  have h1 := lt_nlen n
  have h2 : 2 ^ L < 2 ^ nlen n := by omega
  exact (Nat.pow_lt_pow_iff_right (by omega)).1 h2
theorem nlen_eq {n L : Nat} (h : n < 2 ^ L) (h2 : L = 0 ∨ 2 ^ (L - 1) ≤ n) : nlen n = L := by
  have := nlen_le h
  rcases h2 with h2 | h2
  · omega
  · have := le_nlen h2
    omega
theorem nlen_low {n : Nat} (h : 0 < n) : 2 ^ (nlen n - 1) ≤ n := by
  unfold nlen; split
  · omega
  · rw [Nat.add_sub_cancel]; exact Nat.log2_self_le (by omega)
theorem nlen_pos {n : Nat} : 0 < nlen n ↔ 0 < n := by
  unfold nlen; split <;> omega
theorem nlen_mono {n m : Nat} (h : n ≤ m) : nlen n ≤ nlen m := nlen_le (by have := lt_nlen m; omega)

/-- The next bit of what is left. -/
theorem div_step (n i : Nat) : n / 2 ^ i = 2 * (n / 2 ^ (i + 1)) + n / 2 ^ i % 2 := by
  rw [Nat.pow_succ, ← Nat.div_div_eq_div_mul]; omega
theorem mod_step (n i : Nat) : n % 2 ^ (i + 1) = n % 2 ^ i + 2 ^ i * (n / 2 ^ i % 2) := by
  rw [Nat.pow_succ, Nat.mod_mul]

/-- A slice holds the first L bits of n, which has no more. -/
def Row (w : World) (v : Value) (n L : Nat) : Prop :=
  n < 2 ^ L ∧ ((v = .slice none 0 0 ∧ L = 0) ∨
    ∃ b cap, v = .slice (some ⟨b, 0, none⟩) L cap ∧ b < w.heap.size ∧ L ≤ cap ∧ ∀ i, i < L → w.cell? ⟨b, i, none⟩ = some (.int .i64 (bit n i)))
/-- A slice is n: no nought is at its end. -/
def Num (w : World) (v : Value) (n : Nat) : Prop := Row w v n (nlen n)

theorem Row.later {w w' : World} {v : Value} {n L : Nat} (h : Row w v n L) (hb : Later w w') : Row w' v n L := by
  refine ⟨h.1, ?_⟩
  rcases h.2 with h2 | ⟨b, cap, h2, h3, h4, h5⟩
  · exact .inl h2
  · have := Later.size hb
    exact .inr ⟨b, cap, h2, by omega, h4, fun i hi => ((bcell hb).1 b i h3).trans (h5 i hi)⟩
theorem Num.later {w w' : World} {v : Value} {n : Nat} (h : Num w v n) (hb : Later w w') : Num w' v n := Row.later h hb

theorem Row.form {w : World} {v : Value} {n L : Nat} (h : Row w v n L) : ∃ p cap, v = .slice p L cap := by
  rcases h.2 with ⟨h1, h2⟩ | ⟨b, cap, h2, _⟩
  · subst h2; exact ⟨_, _, h1⟩
  · exact ⟨_, _, h2⟩
theorem Row.full {w : World} {v : Value} {n L : Nat} (h : Row w v n L) (hL : 0 < L) :
    ∃ b cap, v = .slice (some ⟨b, 0, none⟩) L cap ∧ b < w.heap.size ∧ L ≤ cap ∧ ∀ i, i < L → w.cell? ⟨b, i, none⟩ = some (.int .i64 (bit n i)) := by
  rcases h.2 with ⟨_, h2⟩ | h
  · omega
  · exact h

/-- -1, 0 or 1: by the order of numbers. -/
def cmpN (n m : Nat) : Int := if n < m then -1 else if n = m then 0 else 1
theorem cmpN_len {n m : Nat} (h : nlen n < nlen m) : cmpN n m = -1 := by
  have : n < m := by
    apply Classical.byContradiction; intro h1
    have := nlen_mono (show m ≤ n by omega)
    omega
  simp [cmpN, this]
theorem cmpN_len' {n m : Nat} (h : nlen m < nlen n) : cmpN n m = 1 := by
  have : m < n := by
    apply Classical.byContradiction; intro h1
    have := nlen_mono (show n ≤ m by omega)
    omega
  simp only [cmpN]; rw [if_neg (by omega), if_neg (by omega)]
theorem cmpN_bit {n m k : Nat} (h : n / 2 ^ (k + 1) = m / 2 ^ (k + 1)) (hb : bit n k ≠ bit m k) : cmpN n m = bit n k - bit m k := by
  have h1 := div_step n k
  have h2 := div_step m k
  have hp : 0 < 2 ^ k := Nat.pow_pos (by omega)
  have e1 := Nat.div_add_mod n (2 ^ k)
  have e2 := Nat.div_add_mod m (2 ^ k)
  have l1 := Nat.mod_lt n hp
  have l2 := Nat.mod_lt m hp
  unfold bit at hb ⊢
  rw [h] at h1
  rcases Nat.mod_two_eq_zero_or_one (n / 2 ^ k) with a | a <;> rcases Nat.mod_two_eq_zero_or_one (m / 2 ^ k) with b | b
  · simp [a, b] at hb
  · have : n < m := by
      rw [← e1, ← e2, h1, h2, a, b, Nat.mul_add, Nat.mul_add]; omega
    simp [cmpN, this, a, b]
  · have : m < n := by
      rw [← e1, ← e2, h1, h2, a, b, Nat.mul_add, Nat.mul_add]; omega
    simp only [cmpN]; rw [if_neg (by omega), if_neg (by omega)]; simp [a, b]
  · simp [a, b] at hb
theorem div_bit {n m k : Nat} (h : n / 2 ^ (k + 1) = m / 2 ^ (k + 1)) (hb : bit n k = bit m k) : n / 2 ^ k = m / 2 ^ k := by
  have h1 := div_step n k
  have h2 := div_step m k
  unfold bit at hb
  omega

theorem Num.nil (w : World) : Num w (.slice none 0 0) 0 := ⟨by rw [nlen_zero]; decide, .inl ⟨rfl, rfl⟩⟩
theorem Num.nought {w : World} {b cap : Nat} (hb : b < w.heap.size) : Num w (.slice (some ⟨b, 0, none⟩) 0 cap) 0 :=
  ⟨by rw [nlen_zero]; decide, .inr ⟨b, cap, rfl, hb, Nat.zero_le _, fun i hi => by rw [nlen_zero] at hi; omega⟩⟩
theorem bit_top0 {n k : Nat} (h : n < 2 ^ (k + 1)) (hb : bit n k = 0) : n < 2 ^ k := by
  unfold bit at hb
  have h0 : n / 2 ^ k < 2 := (Nat.div_lt_iff_lt_mul (Nat.pow_pos (by omega))).2 (by rw [Nat.pow_succ] at h; omega)
  have h1 : n / 2 ^ k = 0 := by
    generalize n / 2 ^ k = q at *; omega
  rcases Nat.div_eq_zero_iff.1 h1 with h2 | h2
  · have := Nat.pow_pos (show 0 < 2 by omega) (n := k); omega
  · exact h2
theorem bit_top1 {n k : Nat} (h : n < 2 ^ (k + 1)) (hb : bit n k = 1) : nlen n = k + 1 := by
  refine nlen_eq h (.inr ?_)
  rw [Nat.add_sub_cancel]
  apply Classical.byContradiction; intro hlt
  have : bit n k = 0 := bit_high (L := k) (by omega) (Nat.le_refl _)
  omega

/-- The cells of the first L bits. -/
def bitsV (n L : Nat) : List Value := (List.range L).map fun i => .int .i64 (bit n i)
theorem bitsV_zero (n : Nat) : bitsV n 0 = [] := rfl
theorem bitsV_succ (n L : Nat) : bitsV n (L + 1) = bitsV n L ++ [.int .i64 (bit n L)] := by simp [bitsV, List.range_succ]
theorem bitsV_len (n L : Nat) : (bitsV n L).length = L := by simp [bitsV]
theorem bitsV_get {n L i : Nat} (h : i < L) : (bitsV n L)[i]? = some (.int .i64 (bit n i)) := by simp [bitsV, h]

theorem Row.of_own {w : World} {base t L n : Nat} {v : Value} (h : w.ownsRow base t 1 v L (bitsV n L)) (hn : n < 2 ^ L) : Row w v n L := by
  refine ⟨hn, ?_⟩
  rcases h.2 with ⟨h1, h2⟩ | ⟨g, cap, cur, h1, h2, h3, h4, h5, h6, h7⟩
  · exact .inl ⟨h1, h2⟩
  · refine .inr ⟨g, cap, h1, (Array.getElem?_eq_some_iff.1 h3).1, h4, fun i hi => ?_⟩
    have := h.cells (g := g) (by subst h1; rfl) i _ (bitsV_get hi)
    have hadd : (⟨g, 0, none⟩ : Addr).add i = ⟨g, i, none⟩ := by unfold Addr.add; split <;> simp_all
    rw [← hadd]; exact this

/-- What grows by the call's own row is later. -/
theorem Later.grown {w w1 w2 : World} {row : Option Nat} (h : Later w w1) (hg : w1.grownBy w2 row) (hr : ∀ k, row = some k → w.heap.size ≤ k) : Later w w2 := by
  have hs := Later.size h
  refine ⟨hg.os.trans h.os, hg.tape.trans h.tape, hg.output.trans h.output, ?_, fun k hk => ?_⟩
  · have := hg.size; omega
  · exact (hg.block k (by omega) (fun e => by have := hr k e.symm; omega)).trans (h.block k hk)


/-- What is carried into bit i of a sum. -/
def car (a b i : Nat) : Int := ((a % 2 ^ i + b % 2 ^ i) / 2 ^ i : Nat)
/-- What is borrowed at bit i of a difference. -/
def bow (a b i : Nat) : Int := if a % 2 ^ i < b % 2 ^ i then 1 else 0
theorem car_zero (a b : Nat) : car a b 0 = 0 := by simp [car, Nat.mod_one]
theorem bow_zero (a b : Nat) : bow a b 0 = 0 := by simp [bow, Nat.mod_one]
theorem car_cases (a b i : Nat) : car a b i = 0 ∨ car a b i = 1 := by
  have hp : 0 < 2 ^ i := Nat.pow_pos (by omega)
  have l1 := Nat.mod_lt a hp
  have l2 := Nat.mod_lt b hp
  have h2 : (a % 2 ^ i + b % 2 ^ i) / 2 ^ i < 2 := (Nat.div_lt_iff_lt_mul hp).2 (by omega)
  unfold car
  generalize (a % 2 ^ i + b % 2 ^ i) / 2 ^ i = q at *
  omega
theorem bow_cases (a b i : Nat) : bow a b i = 0 ∨ bow a b i = 1 := by unfold bow; split <;> simp
theorem car_next (a b i : Nat) : bit a i + bit b i + car a b i = bit (a + b) i + 2 * car a b (i + 1) := by
  have hp : 0 < 2 ^ i := Nat.pow_pos (by omega)
  have e : (a % 2 ^ (i + 1) + b % 2 ^ (i + 1)) / 2 ^ (i + 1) = ((a % 2 ^ i + b % 2 ^ i) / 2 ^ i + a / 2 ^ i % 2 + b / 2 ^ i % 2) / 2 := by
    rw [mod_step a, mod_step b, Nat.pow_succ, ← Nat.div_div_eq_div_mul]
    rw [show a % 2 ^ i + 2 ^ i * (a / 2 ^ i % 2) + (b % 2 ^ i + 2 ^ i * (b / 2 ^ i % 2)) = (a % 2 ^ i + b % 2 ^ i) + 2 ^ i * (a / 2 ^ i % 2 + b / 2 ^ i % 2) by rw [Nat.mul_add]; omega]
    rw [Nat.add_mul_div_left _ _ hp]
    congr 1; omega
  have e2 : (a + b) / 2 ^ i = a / 2 ^ i + b / 2 ^ i + (a % 2 ^ i + b % 2 ^ i) / 2 ^ i := Nat.add_div hp |>.trans (by
    congr 1
    split
    · rename_i h
      have l1 := Nat.mod_lt a hp
      have l2 := Nat.mod_lt b hp
      exact (Nat.div_eq_of_lt_le (by omega) (by omega)).symm
    · rename_i h
      exact (Nat.div_eq_of_lt (by omega)).symm)
  unfold bit car
  rw [e, e2]
  generalize a / 2 ^ i = p
  generalize b / 2 ^ i = q
  generalize (a % 2 ^ i + b % 2 ^ i) / 2 ^ i = c
  omega
theorem bow_next {a b : Nat} (h : b ≤ a) (i : Nat) : bit a i - bit b i - bow a b i = bit (a - b) i - 2 * bow a b (i + 1) := by
  have hp : 0 < 2 ^ i := Nat.pow_pos (by omega)
  have ea := Nat.div_add_mod a (2 ^ i)
  have eb := Nat.div_add_mod b (2 ^ i)
  have la := Nat.mod_lt a hp
  have lb := Nat.mod_lt b hp
  have e : bow a b (i + 1) = if a / 2 ^ i % 2 < b / 2 ^ i % 2 then 1 else if a / 2 ^ i % 2 = b / 2 ^ i % 2 then bow a b i else 0 := by
    unfold bow
    rw [mod_step a, mod_step b]
    rcases Nat.mod_two_eq_zero_or_one (a / 2 ^ i) with x | x <;> rcases Nat.mod_two_eq_zero_or_one (b / 2 ^ i) with y | y <;> rw [x, y] <;> simp <;> omega
  have hq : b / 2 ^ i ≤ a / 2 ^ i := Nat.div_le_div_right h
  have e2 : ((a - b) / 2 ^ i : Nat) = (a / 2 ^ i : Nat) - (b / 2 ^ i : Nat) - bow a b i := by
    have hd : ((a - b : Nat) : Int) = (2 ^ i : Nat) * ((a / 2 ^ i : Nat) - (b / 2 ^ i : Nat) : Int) + ((a % 2 ^ i : Nat) - (b % 2 ^ i : Nat) : Int) := by
      rw [Int.mul_sub]
      have := congrArg (fun n : Nat => (n : Int)) ea
      have := congrArg (fun n : Nat => (n : Int)) eb
      simp only [Int.natCast_add, Int.natCast_mul] at *
      omega
    rw [Int.natCast_ediv, hd]
    have hpz : ((2 ^ i : Nat) : Int) ≠ 0 := by omega
    rw [Int.add_comm, Int.add_mul_ediv_left _ _ hpz]
    unfold bow
    split
    · rename_i hlt
      have : ((a % 2 ^ i : Nat) - (b % 2 ^ i : Nat) : Int) / (2 ^ i : Nat) = -1 := by
        rw [Int.ediv_eq_iff_of_pos (by omega)]
        omega
      omega
    · rename_i hlt
      have : ((a % 2 ^ i : Nat) - (b % 2 ^ i : Nat) : Int) / (2 ^ i : Nat) = 0 := Int.ediv_eq_zero_of_lt (by omega) (by omega)
      omega
  unfold bit
  rw [e]
  have hb := bow_cases a b i
  generalize a / 2 ^ i = p at *
  generalize b / 2 ^ i = q at *
  generalize (a - b) / 2 ^ i = r at *
  generalize bow a b i = c at *
  split
  · omega
  · split <;> omega
theorem car_end {a b i : Nat} (ha : a < 2 ^ i) (hb : b < 2 ^ i) : (car a b i = 0 → a + b < 2 ^ i) ∧ (car a b i ≠ 0 → 2 ^ i ≤ a + b) := by
  have hp : 0 < 2 ^ i := Nat.pow_pos (by omega)
  unfold car
  rw [Nat.mod_eq_of_lt ha, Nat.mod_eq_of_lt hb]
  constructor
  · intro h
    have : (a + b) / 2 ^ i = 0 := by omega
    rcases Nat.div_eq_zero_iff.1 this with h | h <;> omega
  · intro h
    apply Classical.byContradiction; intro hlt
    rw [Nat.div_eq_of_lt (by omega)] at h
    exact h rfl

end Go.Proofs.YtckeaibamgkegaaDoor
