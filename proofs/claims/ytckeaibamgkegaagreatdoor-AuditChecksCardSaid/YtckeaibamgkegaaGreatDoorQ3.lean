/- rows of structs and of integers, literals, arrays by value: words of ours that hang on no function -/
import Derived.Test.YtckeaibamgkegaaGreatDoorRows
import Derived.Test.YtckeaibamgkegaaGreatDoorQ2
import Derived.Shelf.Spec.BitsCarry
import Derived.WalkKit
import Derived.WalkSpells
import Derived.WalkSmall
import Derived.WalkLawsBesides
import Derived.BigQuiet
import Derived.Lib.Hide
import Derived.Laws.AppendOwnNone
import Derived.OwnWalk
import Derived.Great.BuildSlice
set_option linter.all false
set_option linter.all false
section
/- words of 64 bits: the library's products, sums and quotients, said over numbers -/
namespace Go.Proofs.YtckeaibamgkegaaGreatDoor
open Go.RowKit
set_option maxRecDepth 100000

theorem ret_int {k : IntKind} {a b : Int} (h : a = b) : Ending.returned (.int k a) = .returned (.int k b) := by rw [h]

theorem bcell {W w1 : World} (hb : Later W w1) : (∀ b o, b < W.heap.size → w1.cell? ⟨b, o, none⟩ = W.cell? ⟨b, o, none⟩) ∧ (∀ b o, b < W.heap.size → w1.frozen? ⟨b, o, none⟩ = W.frozen? ⟨b, o, none⟩) :=
  ⟨fun b o h => hb.cell (p := ⟨b, o, none⟩) h, fun b o h => hb.frozen (p := ⟨b, o, none⟩) h⟩

theorem Later.setCell {a b : World} (h : Later a b) {p : Addr} (hp : a.heap.size ≤ p.block) (u : Value) : Later a (b.setCell p u) := Below.setCell h hp u


theorem Later.size {a b : World} (h : Later a b) : a.heap.size ≤ b.heap.size := Below.size h
theorem Later.ofdrew {a b : World} (h : Later a b) : Later a.drew b := ⟨h.os, h.tape, h.output, Later.size (a := a) h, h.block⟩
theorem Later.ofdrewN {a b : World} {n : Nat} (h : Later a b) : Later (a.drewN n) b := ⟨h.os, h.tape, h.output, Later.size (a := a) h, h.block⟩
theorem Later.undrew {a b : World} (h : Later a.drew b) : Later a b := ⟨h.os, h.tape, h.output, Later.size (a := a.drew) h, h.block⟩
theorem Later.undrewN {a b : World} {n : Nat} (h : Later (a.drewN n) b) : Later a b := ⟨h.os, h.tape, h.output, Later.size (a := a.drewN n) h, h.block⟩

theorem Later.unalloc {a b : World} {o : Obj} (h : Later (a.alloc o) b) : Later a b := Later.trans ((Later.refl _).alloc _) h

/-- The call's own blocks, behind a call. -/
theorem own_block {W w' : World} (h : Later W w') {k : Nat} {A : Array Value} {t : TypeId} (hk : W.heap[k]? = some (.cells A t (0, 0))) : (∀ i, w'.cell? ⟨k, i, none⟩ = A[i]?) ∧ (∀ i, i < A.size → w'.frozen? ⟨k, i, none⟩ = false) := by
  have hlt : k < W.heap.size := by
    rcases Nat.lt_or_ge k W.heap.size with h' | h'
    · exact h'
    · simp [Array.getElem?_eq_none h'] at hk
  have e : w'.heap[k]? = some (.cells A t (0, 0)) := (h.block k hlt).trans hk
  refine ⟨fun i => ?_, fun i hi => ?_⟩
  · simp [World.cell?, e]
  · simp [World.frozen?, e]
theorem own1 {w w' : World} {A : Array Value} {ta : TypeId} (h : Later (w.alloc (.cells A ta)) w') :
    (∀ i, w'.cell? ⟨w.heap.size, i, none⟩ = A[i]?) ∧ (∀ i, i < A.size → w'.frozen? ⟨w.heap.size, i, none⟩ = false) ∧ w.heap.size + 1 ≤ w'.heap.size := by
  have h0 := own_block (A := A) (t := ta) (k := w.heap.size) h (MapKept.heap_alloc w _).1
  exact ⟨h0.1, h0.2, by simpa using h.size⟩
theorem use_of {p q : Prop} (h : p) (k : p → q) : q := k h
theorem use_own1 {w w' : World} {A : Array Value} {ta : TypeId} {q : Prop} (h : Later (w.alloc (.cells A ta)) w')
    (k : (∀ i, w'.cell? ⟨w.heap.size, i, none⟩ = A[i]?) → (∀ i, i < A.size → w'.frozen? ⟨w.heap.size, i, none⟩ = false) → w.heap.size < w'.heap.size → q) : q := k (own1 h).1 (own1 h).2.1 (own1 h).2.2
theorem own2 {w w' : World} {A B : Array Value} {ta tb : TypeId} (h : Later ((w.alloc (.cells A ta)).alloc (.cells B tb)) w') :
    (∀ i, w'.cell? ⟨w.heap.size, i, none⟩ = A[i]?) ∧ (∀ i, i < A.size → w'.frozen? ⟨w.heap.size, i, none⟩ = false) ∧
    (∀ i, w'.cell? ⟨w.heap.size + 1, i, none⟩ = B[i]?) ∧ (∀ i, i < B.size → w'.frozen? ⟨w.heap.size + 1, i, none⟩ = false) ∧ w.heap.size + 1 + 1 ≤ w'.heap.size := by
  have h1 := own1 h
  have h0 := own1 (w := w) (w' := w') (A := A) (ta := ta) (Later.trans ((Later.refl _).alloc _) h)
  simp only [World.size_alloc] at h1
  exact ⟨h0.1, h0.2.1, h1⟩
theorem own3 {w w' : World} {A B C : Array Value} {ta tb tc : TypeId} (h : Later (((w.alloc (.cells A ta)).alloc (.cells B tb)).alloc (.cells C tc)) w') :
    (∀ i, w'.cell? ⟨w.heap.size, i, none⟩ = A[i]?) ∧ (∀ i, i < A.size → w'.frozen? ⟨w.heap.size, i, none⟩ = false) ∧
    (∀ i, w'.cell? ⟨w.heap.size + 1, i, none⟩ = B[i]?) ∧ (∀ i, i < B.size → w'.frozen? ⟨w.heap.size + 1, i, none⟩ = false) ∧
    (∀ i, w'.cell? ⟨w.heap.size + 1 + 1, i, none⟩ = C[i]?) ∧ (∀ i, i < C.size → w'.frozen? ⟨w.heap.size + 1 + 1, i, none⟩ = false) ∧ w.heap.size + 1 + 1 + 1 ≤ w'.heap.size := by
  have h1 := own2 h
  have h0 := own1 (w := w) (w' := w') (A := A) (ta := ta) (Later.trans (((Later.refl _).alloc _).alloc _) h)
  simp only [World.size_alloc] at h1
  exact ⟨h0.1, h0.2.1, h1⟩

/-- The world at hand, under a name: whatever later one. -/
theorem wp_opaque {P : Program} {c : Code} {Q : Exit → Act → World → Prop} {a : Act} {W : World} (h : ∀ W', Later W W' → c.wp P Q a W') : c.wp P Q a W := h W (Later.refl W)
theorem set_own {w : World} {p k : Nat} {A : Array Value} (hc : ∀ i, w.cell? ⟨p, i, none⟩ = A[i]?) (x : Value) (hk : k < A.size) (i : Nat) : (w.setCell ⟨p, k, none⟩ x).cell? ⟨p, i, none⟩ = (A.setIfInBounds k x)[i]? := by
  by_cases h : k = i
  · subst h
    rw [World.cell?_setCell_same' _ _ _ (by rw [hc]; simp [hk])]
    simp [hk]
  · rw [World.cell?_setCell_other _ _ _ _ (fun e => h (by cases e; rfl)), hc]
    simp [Array.getElem?_setIfInBounds_ne h]
theorem set_far {w : World} {p b k : Nat} {A : Array Value} (hc : ∀ i, w.cell? ⟨b, i, none⟩ = A[i]?) (x : Value) (hb : p ≠ b) (i : Nat) : (w.setCell ⟨p, k, none⟩ x).cell? ⟨b, i, none⟩ = A[i]? := by
  rw [World.cell?_setCell_other _ _ _ _ (fun e => hb (by cases e; rfl)), hc]
theorem set_frozen {w : World} {p b k : Nat} {n : Nat} (hf : ∀ i, i < n → w.frozen? ⟨b, i, none⟩ = false) (x : Value) (i : Nat) (hi : i < n) : (w.setCell ⟨p, k, none⟩ x).frozen? ⟨b, i, none⟩ = false := by
  rw [World.frozen?_setCell, hf i hi]

def hi64 (M : Int) : Int := M / 18446744073709551616
def lo64 (M : Int) : Int := M % 18446744073709551616
def bor (x y : Int) : Int := if x < y then 1 else 0
theorem lo_bd (M : Int) : 0 ≤ lo64 M ∧ lo64 M ≤ 18446744073709551615 := by unfold lo64; omega
theorem hi_bd (M : Int) (h0 : 0 ≤ M) (h1 : M ≤ 340282366920938463463374607431768211455) : 0 ≤ hi64 M ∧ hi64 M ≤ 18446744073709551615 := by unfold hi64; omega
theorem bor_bd (x y : Int) : 0 ≤ bor x y ∧ bor x y ≤ 1 := by unfold bor; split <;> omega
theorem mul_bd {a b : Int} (a0 : 0 ≤ a) (a1 : a ≤ 18446744073709551615) (b0 : 0 ≤ b) (b1 : b ≤ 18446744073709551615) : 0 ≤ a * b ∧ a * b ≤ 340282366920938463426481119284349108225 :=
  ⟨Int.mul_nonneg a0 b0, Int.le_trans (Int.mul_le_mul a1 b1 b0 (by omega)) (by omega)⟩

theorem add64 (x y c : Int) (hx : 0 ≤ x) (hx' : x ≤ 18446744073709551615) (hy : 0 ≤ y) (hy' : y ≤ 18446744073709551615) (hc0 : 0 ≤ c) (hc : c ≤ 1) (w : World) : (callFunc 72 #[.int .u64 x, .int .u64 y, .int .u64 c]).run Tryz.prog w =
    .ok (.value (.tuple #[.int .u64 (lo64 (x + y + c)), .int .u64 (hi64 (x + y + c))])) w := by
  obtain ⟨x, rfl⟩ := Int.eq_ofNat_of_zero_le hx
  obtain ⟨y, rfl⟩ := Int.eq_ofNat_of_zero_le hy
  obtain ⟨c, rfl⟩ := Int.eq_ofNat_of_zero_le hc0
  rw [run_callFunc_extern Tryz.func72 (by kernel_rfl) (by kernel_rfl) (by kernel_rfl) (e := add64Entry) (by kernel_rfl), run_add64 x y c (by omega) (by omega) (by omega) (by omega)]
  simp only [Result.andThen]
  congr 5 <;> (unfold hi64 <;> unfold lo64 <;> omega)
theorem add64_0 (x y : Int) (hx : 0 ≤ x) (hx' : x ≤ 18446744073709551615) (hy : 0 ≤ y) (hy' : y ≤ 18446744073709551615) (w : World) : (callFunc 72 #[.int .u64 x, .int .u64 y, .int .u64 0]).run Tryz.prog w =
    .ok (.value (.tuple #[.int .u64 (lo64 (x + y)), .int .u64 (hi64 (x + y))])) w := by
  simpa using add64 x y 0 hx hx' hy hy' (Int.le_refl 0) (by decide) w
/-- The number that two words are. -/
def two64 (h l : Int) : Int := h * 18446744073709551616 + l
theorem two_parts (M : Int) : two64 (hi64 M) (lo64 M) = M := by unfold two64 hi64 lo64; omega

theorem dq_bd {hi lo y : Int} (h1 : 0 ≤ hi) (h2 : hi < y) (h3 : 0 ≤ lo) (h4 : lo ≤ 18446744073709551615) : 0 ≤ two64 hi lo / y ∧ two64 hi lo / y ≤ 18446744073709551615 ∧ 0 ≤ two64 hi lo % y ∧ two64 hi lo % y < y := by
  have hy : 0 < y := by omega
  unfold two64
  refine ⟨Int.ediv_nonneg (by omega) (by omega), ?_, Int.emod_nonneg _ (by omega), Int.emod_lt_of_pos _ hy⟩
  have : (hi * 18446744073709551616 + lo) / y < 18446744073709551616 := Int.ediv_lt_of_lt_mul hy (by omega)
  omega
end Go.Proofs.YtckeaibamgkegaaGreatDoor
end
section
/- plain: numbers as rows of bits; what a slice of them is in a world. -/
namespace Go.Proofs.YtckeaibamgkegaaGreatDoor
open Go.RowKit
set_option maxRecDepth 100000

/-- Bit i of n. -/
def bit (n i : Nat) : Int := ((n / 2 ^ i % 2 : Nat) : Int)
/-- How many bits n has. -/
def nlen (n : Nat) : Nat := if n = 0 then 0 else n.log2 + 1

theorem bit_cases (n i : Nat) : bit n i = 0 ∨ bit n i = 1 := by unfold bit; omega
theorem bit_high {n L i : Nat} (h : n < 2 ^ L) (hi : L ≤ i) : bit n i = 0 := by
  unfold bit
  have : 2 ^ L ≤ 2 ^ i := Nat.pow_le_pow_right (by omega) hi
  rw [Nat.div_eq_of_lt (by omega)]; rfl
theorem nlen_zero : nlen 0 = 0 := rfl
theorem lt_nlen (n : Nat) : n < 2 ^ nlen n := by
  unfold nlen; split
  · omega
  · exact Nat.lt_log2_self
theorem nlen_le {n L : Nat} (h : n < 2 ^ L) : nlen n ≤ L := by
  unfold nlen; split
  · omega
  · rename_i h0
    exact (Nat.log2_lt h0).2 h
theorem le_nlen {n L : Nat} (h : 2 ^ L ≤ n) : L + 1 ≤ nlen n := by
  have h1 := lt_nlen n
  have h2 : 2 ^ L < 2 ^ nlen n := by omega
  exact (Nat.pow_lt_pow_iff_right (by omega)).1 h2
theorem nlen_eq {n L : Nat} (h : n < 2 ^ L) (h2 : L = 0 ∨ 2 ^ (L - 1) ≤ n) : nlen n = L := by
  have := nlen_le h
  rcases h2 with h2 | h2
  · omega
  · have := le_nlen h2
    omega
theorem nlen_low {n : Nat} (h : 0 < n) : 2 ^ (nlen n - 1) ≤ n := by
  unfold nlen; split
  · omega
  · rw [Nat.add_sub_cancel]; exact Nat.log2_self_le (by omega)
theorem nlen_pos {n : Nat} : 0 < nlen n ↔ 0 < n := by
  unfold nlen; split <;> omega
theorem nlen_mono {n m : Nat} (h : n ≤ m) : nlen n ≤ nlen m := nlen_le (by have := lt_nlen m; omega)

/-- The next bit of what is left. -/
theorem div_step (n i : Nat) : n / 2 ^ i = 2 * (n / 2 ^ (i + 1)) + n / 2 ^ i % 2 := by
  rw [Nat.pow_succ, ← Nat.div_div_eq_div_mul]; omega
theorem mod_step (n i : Nat) : n % 2 ^ (i + 1) = n % 2 ^ i + 2 ^ i * (n / 2 ^ i % 2) := by
  rw [Nat.pow_succ, Nat.mod_mul]

/-- A slice holds the first L bits of n, which has no more. -/
def Row (w : World) (v : Value) (n L : Nat) : Prop :=
  n < 2 ^ L ∧ ((v = .slice none 0 0 ∧ L = 0) ∨
    ∃ b cap, v = .slice (some ⟨b, 0, none⟩) L cap ∧ b < w.heap.size ∧ L ≤ cap ∧ ∀ i, i < L → w.cell? ⟨b, i, none⟩ = some (.int .i64 (bit n i)))
/-- A slice is n: no nought is at its end. -/
def Num (w : World) (v : Value) (n : Nat) : Prop := Row w v n (nlen n)

theorem Row.later {w w' : World} {v : Value} {n L : Nat} (h : Row w v n L) (hb : Later w w') : Row w' v n L := by
  refine ⟨h.1, ?_⟩
  rcases h.2 with h2 | ⟨b, cap, h2, h3, h4, h5⟩
  · exact .inl h2
  · have := Later.size hb
    exact .inr ⟨b, cap, h2, by omega, h4, fun i hi => ((bcell hb).1 b i h3).trans (h5 i hi)⟩
theorem Num.later {w w' : World} {v : Value} {n : Nat} (h : Num w v n) (hb : Later w w') : Num w' v n := Row.later h hb

theorem Row.form {w : World} {v : Value} {n L : Nat} (h : Row w v n L) : ∃ p cap, v = .slice p L cap := by
  rcases h.2 with ⟨h1, h2⟩ | ⟨b, cap, h2, _⟩
  · subst h2; exact ⟨_, _, h1⟩
  · exact ⟨_, _, h2⟩
theorem Row.full {w : World} {v : Value} {n L : Nat} (h : Row w v n L) (hL : 0 < L) :
    ∃ b cap, v = .slice (some ⟨b, 0, none⟩) L cap ∧ b < w.heap.size ∧ L ≤ cap ∧ ∀ i, i < L → w.cell? ⟨b, i, none⟩ = some (.int .i64 (bit n i)) := by
  rcases h.2 with ⟨_, h2⟩ | h
  · omega
  · exact h

/-- -1, 0 or 1: by the order of numbers. -/
def cmpN (n m : Nat) : Int := if n < m then -1 else if n = m then 0 else 1
theorem cmpN_len {n m : Nat} (h : nlen n < nlen m) : cmpN n m = -1 := by
  have : n < m := by
    apply Classical.byContradiction; intro h1
    have := nlen_mono (show m ≤ n by omega)
    omega
  simp [cmpN, this]
theorem cmpN_len' {n m : Nat} (h : nlen m < nlen n) : cmpN n m = 1 := by
  have : m < n := by
    apply Classical.byContradiction; intro h1
    have := nlen_mono (show n ≤ m by omega)
    omega
  simp only [cmpN]; rw [if_neg (by omega), if_neg (by omega)]
theorem cmpN_bit {n m k : Nat} (h : n / 2 ^ (k + 1) = m / 2 ^ (k + 1)) (hb : bit n k ≠ bit m k) : cmpN n m = bit n k - bit m k := by
  have h1 := div_step n k
  have h2 := div_step m k
  have hp : 0 < 2 ^ k := Nat.pow_pos (by omega)
  have e1 := Nat.div_add_mod n (2 ^ k)
  have e2 := Nat.div_add_mod m (2 ^ k)
  have l1 := Nat.mod_lt n hp
  have l2 := Nat.mod_lt m hp
  unfold bit at hb ⊢
  rw [h] at h1
  rcases Nat.mod_two_eq_zero_or_one (n / 2 ^ k) with a | a <;> rcases Nat.mod_two_eq_zero_or_one (m / 2 ^ k) with b | b
  · simp [a, b] at hb
  · have : n < m := by
      rw [← e1, ← e2, h1, h2, a, b, Nat.mul_add, Nat.mul_add]; omega
    simp [cmpN, this, a, b]
  · have : m < n := by
      rw [← e1, ← e2, h1, h2, a, b, Nat.mul_add, Nat.mul_add]; omega
    simp only [cmpN]; rw [if_neg (by omega), if_neg (by omega)]; simp [a, b]
  · simp [a, b] at hb
theorem div_bit {n m k : Nat} (h : n / 2 ^ (k + 1) = m / 2 ^ (k + 1)) (hb : bit n k = bit m k) : n / 2 ^ k = m / 2 ^ k := by
  have h1 := div_step n k
  have h2 := div_step m k
  unfold bit at hb
  omega

theorem Num.nil (w : World) : Num w (.slice none 0 0) 0 := ⟨by rw [nlen_zero]; decide, .inl ⟨rfl, rfl⟩⟩
theorem Num.nought {w : World} {b cap : Nat} (hb : b < w.heap.size) : Num w (.slice (some ⟨b, 0, none⟩) 0 cap) 0 :=
  ⟨by rw [nlen_zero]; decide, .inr ⟨b, cap, rfl, hb, Nat.zero_le _, fun i hi => by rw [nlen_zero] at hi; omega⟩⟩
theorem bit_top0 {n k : Nat} (h : n < 2 ^ (k + 1)) (hb : bit n k = 0) : n < 2 ^ k := by
  unfold bit at hb
  have h0 : n / 2 ^ k < 2 := (Nat.div_lt_iff_lt_mul (Nat.pow_pos (by omega))).2 (by rw [Nat.pow_succ] at h; omega)
  have h1 : n / 2 ^ k = 0 := by
    generalize n / 2 ^ k = q at *; omega
  rcases Nat.div_eq_zero_iff.1 h1 with h2 | h2
  · have := Nat.pow_pos (show 0 < 2 by omega) (n := k); omega
  · exact h2
theorem bit_top1 {n k : Nat} (h : n < 2 ^ (k + 1)) (hb : bit n k = 1) : nlen n = k + 1 := by
  refine nlen_eq h (.inr ?_)
  rw [Nat.add_sub_cancel]
  apply Classical.byContradiction; intro hlt
  have : bit n k = 0 := bit_high (L := k) (by omega) (Nat.le_refl _)
  omega

/-- The cells of the first L bits. -/
def bitsV (n L : Nat) : List Value := (List.range L).map fun i => .int .i64 (bit n i)
theorem bitsV_zero (n : Nat) : bitsV n 0 = [] := rfl
theorem bitsV_succ (n L : Nat) : bitsV n (L + 1) = bitsV n L ++ [.int .i64 (bit n L)] := by simp [bitsV, List.range_succ]
theorem bitsV_len (n L : Nat) : (bitsV n L).length = L := by simp [bitsV]
theorem bitsV_get {n L i : Nat} (h : i < L) : (bitsV n L)[i]? = some (.int .i64 (bit n i)) := by simp [bitsV, h]

theorem Row.of_own {w : World} {base t L n : Nat} {v : Value} (h : w.ownsRow base t 1 v L (bitsV n L)) (hn : n < 2 ^ L) : Row w v n L := by
  refine ⟨hn, ?_⟩
  rcases h.2 with ⟨h1, h2⟩ | ⟨g, cap, cur, h1, h2, h3, h4, h5, h6, h7⟩
  · exact .inl ⟨h1, h2⟩
  · refine .inr ⟨g, cap, h1, (Array.getElem?_eq_some_iff.1 h3).1, h4, fun i hi => ?_⟩
    have := h.cells (g := g) (by subst h1; rfl) i _ (bitsV_get hi)
    have hadd : (⟨g, 0, none⟩ : Addr).add i = ⟨g, i, none⟩ := by unfold Addr.add; split <;> simp_all
    rw [← hadd]; exact this

/-- What grows by the call's own row is later. -/
theorem Later.grown {w w1 w2 : World} {row : Option Nat} (h : Later w w1) (hg : w1.grownBy w2 row) (hr : ∀ k, row = some k → w.heap.size ≤ k) : Later w w2 := by
  have hs := Later.size h
  refine ⟨hg.os.trans h.os, hg.tape.trans h.tape, hg.output.trans h.output, ?_, fun k hk => ?_⟩
  · have := hg.size; omega
  · exact (hg.block k (by omega) (fun e => by have := hr k e.symm; omega)).trans (h.block k hk)


/-- What is carried into bit i of a sum. -/
def car (a b i : Nat) : Int := ((a % 2 ^ i + b % 2 ^ i) / 2 ^ i : Nat)
/-- What is borrowed at bit i of a difference. -/
def bow (a b i : Nat) : Int := if a % 2 ^ i < b % 2 ^ i then 1 else 0
theorem car_zero (a b : Nat) : car a b 0 = 0 := by simp [car, Nat.mod_one]
theorem bow_zero (a b : Nat) : bow a b 0 = 0 := by simp [bow, Nat.mod_one]
theorem car_cases (a b i : Nat) : car a b i = 0 ∨ car a b i = 1 := by
  have hp : 0 < 2 ^ i := Nat.pow_pos (by omega)
  have l1 := Nat.mod_lt a hp
  have l2 := Nat.mod_lt b hp
  have h2 : (a % 2 ^ i + b % 2 ^ i) / 2 ^ i < 2 := (Nat.div_lt_iff_lt_mul hp).2 (by omega)
  unfold car
  generalize (a % 2 ^ i + b % 2 ^ i) / 2 ^ i = q at *
  omega
theorem bow_cases (a b i : Nat) : bow a b i = 0 ∨ bow a b i = 1 := by unfold bow; split <;> simp
theorem car_next (a b i : Nat) : bit a i + bit b i + car a b i = bit (a + b) i + 2 * car a b (i + 1) := by
  have hp : 0 < 2 ^ i := Nat.pow_pos (by omega)
  have e : (a % 2 ^ (i + 1) + b % 2 ^ (i + 1)) / 2 ^ (i + 1) = ((a % 2 ^ i + b % 2 ^ i) / 2 ^ i + a / 2 ^ i % 2 + b / 2 ^ i % 2) / 2 := by
    rw [mod_step a, mod_step b, Nat.pow_succ, ← Nat.div_div_eq_div_mul]
    rw [show a % 2 ^ i + 2 ^ i * (a / 2 ^ i % 2) + (b % 2 ^ i + 2 ^ i * (b / 2 ^ i % 2)) = (a % 2 ^ i + b % 2 ^ i) + 2 ^ i * (a / 2 ^ i % 2 + b / 2 ^ i % 2) by rw [Nat.mul_add]; omega]
    rw [Nat.add_mul_div_left _ _ hp]
    congr 1; omega
  have e2 : (a + b) / 2 ^ i = a / 2 ^ i + b / 2 ^ i + (a % 2 ^ i + b % 2 ^ i) / 2 ^ i := Nat.add_div hp |>.trans (by
    congr 1
    split
    · rename_i h
      have l1 := Nat.mod_lt a hp
      have l2 := Nat.mod_lt b hp
      exact (Nat.div_eq_of_lt_le (by omega) (by omega)).symm
    · rename_i h
      exact (Nat.div_eq_of_lt (by omega)).symm)
  unfold bit car
  rw [e, e2]
  generalize a / 2 ^ i = p
  generalize b / 2 ^ i = q
  generalize (a % 2 ^ i + b % 2 ^ i) / 2 ^ i = c
  omega
theorem bow_next {a b : Nat} (h : b ≤ a) (i : Nat) : bit a i - bit b i - bow a b i = bit (a - b) i - 2 * bow a b (i + 1) := by
  have hp : 0 < 2 ^ i := Nat.pow_pos (by omega)
  have ea := Nat.div_add_mod a (2 ^ i)
  have eb := Nat.div_add_mod b (2 ^ i)
  have la := Nat.mod_lt a hp
  have lb := Nat.mod_lt b hp
  have e : bow a b (i + 1) = if a / 2 ^ i % 2 < b / 2 ^ i % 2 then 1 else if a / 2 ^ i % 2 = b / 2 ^ i % 2 then bow a b i else 0 := by
    unfold bow
    rw [mod_step a, mod_step b]
    rcases Nat.mod_two_eq_zero_or_one (a / 2 ^ i) with x | x <;> rcases Nat.mod_two_eq_zero_or_one (b / 2 ^ i) with y | y <;> rw [x, y] <;> simp <;> omega
  have hq : b / 2 ^ i ≤ a / 2 ^ i := Nat.div_le_div_right h
  have e2 : ((a - b) / 2 ^ i : Nat) = (a / 2 ^ i : Nat) - (b / 2 ^ i : Nat) - bow a b i := by
    have hd : ((a - b : Nat) : Int) = (2 ^ i : Nat) * ((a / 2 ^ i : Nat) - (b / 2 ^ i : Nat) : Int) + ((a % 2 ^ i : Nat) - (b % 2 ^ i : Nat) : Int) := by
      rw [Int.mul_sub]
      have := congrArg (fun n : Nat => (n : Int)) ea
      have := congrArg (fun n : Nat => (n : Int)) eb
      simp only [Int.natCast_add, Int.natCast_mul] at *
      omega
    rw [Int.natCast_ediv, hd]
    have hpz : ((2 ^ i : Nat) : Int) ≠ 0 := by omega
    rw [Int.add_comm, Int.add_mul_ediv_left _ _ hpz]
    unfold bow
    split
    · rename_i hlt
      have : ((a % 2 ^ i : Nat) - (b % 2 ^ i : Nat) : Int) / (2 ^ i : Nat) = -1 := by
        rw [Int.ediv_eq_iff_of_pos (by omega)]
        omega
      omega
    · rename_i hlt
      have : ((a % 2 ^ i : Nat) - (b % 2 ^ i : Nat) : Int) / (2 ^ i : Nat) = 0 := Int.ediv_eq_zero_of_lt (by omega) (by omega)
      omega
  unfold bit
  rw [e]
  have hb := bow_cases a b i
  generalize a / 2 ^ i = p at *
  generalize b / 2 ^ i = q at *
  generalize (a - b) / 2 ^ i = r at *
  generalize bow a b i = c at *
  split
  · omega
  · split <;> omega
theorem car_end {a b i : Nat} (ha : a < 2 ^ i) (hb : b < 2 ^ i) : (car a b i = 0 → a + b < 2 ^ i) ∧ (car a b i ≠ 0 → 2 ^ i ≤ a + b) := by
  have hp : 0 < 2 ^ i := Nat.pow_pos (by omega)
  unfold car
  rw [Nat.mod_eq_of_lt ha, Nat.mod_eq_of_lt hb]
  constructor
  · intro h
    have : (a + b) / 2 ^ i = 0 := by omega
    rcases Nat.div_eq_zero_iff.1 this with h | h <;> omega
  · intro h
    apply Classical.byContradiction; intro hlt
    rw [Nat.div_eq_of_lt (by omega)] at h
    exact h rfl

end Go.Proofs.YtckeaibamgkegaaGreatDoor
end
section
/- rules of ours for rows that a call makes, and for its own variables. -/
namespace Go.Proofs.YtckeaibamgkegaaGreatDoor
open Go.RowKit
set_option maxRecDepth 100000

/-- What is known of a slice's type: its elements, how many cells one has, and how many bytes. -/
def SliceOf (P : Program) (t e : TypeId) (sz bytes : Nat) : Prop :=
  ∃ i z, P.underlying t = some (.slice e) ∧ P.info? e = some i ∧ i.zero = some z ∧ i.size = sz ∧ i.bytes = bytes ∧ z.cells.size = sz ∧ 0 < sz
theorem sliceOf_mk {P : Program} {t e : TypeId} {sz bytes : Nat} {z : Value} (ht : P.underlying t = some (.slice e)) (h : (P.info? e).map (fun i => (i.zero, i.size, i.bytes)) = some (some z, sz, bytes)) (hz : z.cells.size = sz) (h0 : 0 < sz) : SliceOf P t e sz bytes := by
  obtain ⟨i0, hi, hz0, hz1, hz2⟩ := info_parts h
  exact ⟨i0, z, ht, hi, hz0, hz1, hz2, hz, h0⟩

/-- A row that a call made: what was there at w0 is as it was. -/
def Mine (w0 : World) (e sz : Nat) (w : World) (v : Value) (n : Nat) (xs : List Value) : Prop := w.ownsRow w0.heap.size e sz v n xs ∧ Later w0 w

section
variable {P : Program} {w0 w : World} {e sz : Nat} {v : Value} {n : Nat} {xs : List Value}
theorem Mine.nil (h : Later w0 w) : Mine w0 e sz w (.slice none 0 0) 0 [] := ⟨World.ownsRow_nil _ _ _ _, h⟩
theorem Mine.lat (h : Mine w0 e sz w v n xs) : Later w0 w := h.2
theorem Mine.later {w' : World} (h : Mine w0 e sz w v n xs) (hb : Later w w') : Mine w0 e sz w' v n xs := by
  refine ⟨h.1.kept (row := none) ⟨hb.os, hb.tape, hb.output, hb.size, fun k hk _ => hb.block k hk⟩ ?_, h.2.trans hb⟩
  cases v.ownBlock <;> simp
theorem Mine.form (h : Mine w0 e sz w v n xs) : ∃ p cap, v = .slice p n cap := by
  rcases h.1.2 with ⟨h1, h2⟩ | ⟨g, cap, cur, h1, _⟩
  · subst h2; exact ⟨_, _, h1⟩
  · exact ⟨_, _, h1⟩

/-- Cells in a row from an address on. -/
def CellsAt (w : World) (b o : Nat) (cs : List Value) : Prop := ∀ j, j < cs.length → w.cell? ⟨b, o + j, none⟩ = cs[j]?

theorem CellsAt.later {w w' : World} {b o : Nat} {cs : List Value} (h : CellsAt w b o cs) (hl : Later w w') (hb : b < w.heap.size) : CellsAt w' b o cs := fun j hj => ((bcell hl).1 _ _ hb).trans (h j hj)
theorem add_plain (b o j : Nat) : (⟨b, o, none⟩ : Addr).add j = ⟨b, o + j, none⟩ := by unfold Addr.add; split <;> simp_all

theorem wpList_app {ops : Array Oper} {rest : List Oper} {o : Oper} {a : Act} {Q : Exit → Act → World → Prop} {t bytes : Nat} (T : SliceOf P t e sz bytes) (hM : Mine w0 e sz w v n xs) (hgd : o.guard = none) (s x : Operand)
    (ho : o.op = .call { callee := .builtin .append, args := #[s, x], argTypes := #[t, t] }) (hs : a.eval s = v)
    (b p m c : Nat) (news : List Value) (hx : a.eval x = .slice (some ⟨b, p, none⟩) m c) (hl : news.length = m * sz) (hc : CellsAt w b p news) (h1 : ∀ u ∈ news, u.oneCell' = true)
    (h63 : (n + m) * bytes ≤ 140737488355328) (h64 : n + m ≤ maxLen)
    (h : ∀ v' w', Mine w0 e sz w' v' (n + m) (xs ++ news) → w.grownBy w' v.ownBlock → wpList P ops Q rest (a.put o.dst v') w') : wpList P ops Q (o :: rest) a w := by
  obtain ⟨i, z, t1, t2, t3, t4, t5, t6, t7⟩ := T
  refine wpList_append_own _ hgd s x t ho w0.heap.size e i z sz bytes t1 t2 t3 t4 t5 t6 t7 v n xs hs hM.1 ⟨b, p, none⟩ m c news hx hl ?_ h1 h64 h63 (Later.size hM.2) (fun v' w' h1' h2' _ => h v' w' ⟨h1', Later.grown hM.2 h2' (fun k hk => (hM.1.lt k hk).1)⟩ h2')
  intro j u hj
  have hjl : j < news.length := (List.getElem?_eq_some_iff.1 hj).1
  rw [add_plain, hc j hjl, hj]

theorem wpList_app_none {ops : Array Oper} {rest : List Oper} {o : Oper} {a : Act} {Q : Exit → Act → World → Prop} {t bytes : Nat} (T : SliceOf P t e sz bytes) (hM : Mine w0 e sz w v n xs) (hgd : o.guard = none) (s x : Operand)
    (ho : o.op = .call { callee := .builtin .append, args := #[s, x], argTypes := #[t, t] }) (hs : a.eval s = v) (hx : a.eval x = .slice none 0 0)
    (h : wpList P ops Q rest (a.put o.dst v) w) : wpList P ops Q (o :: rest) a w := by
  obtain ⟨i, z, t1, t2, t3, t4, t5, t6, t7⟩ := T
  exact wpList_append_own_none hgd s x t ho w0.heap.size e i sz t1 t2 v n xs hs hM.1 hx h

theorem wpList_mk {ops : Array Oper} {rest : List Oper} {o : Oper} {a : Act} {Q : Exit → Act → World → Prop} {t bytes : Nat} (T : SliceOf P t e sz bytes) (hb : Later w0 w) (hgd : o.guard = none) (l c : Operand)
    (ho : o.op = .makeSlice t l c) (k : Nat) (hl : a.eval l = .int .i64 (k : Int)) (hc : a.eval c = .int .i64 (k : Int)) (h63 : bytes * k ≤ 281474976710656) (h64 : k ≤ maxLen)
    (h : ∀ w' z, (∃ i, P.info? e = some i ∧ i.zero = some z) → Mine w0 e sz w' (.slice (some ⟨w.heap.size, 0, none⟩) k k) k (madeCells z.cells (k * sz)).toList → Later w w' → wpList P ops Q rest (a.put o.dst (.slice (some ⟨w.heap.size, 0, none⟩) k k)) w') : wpList P ops Q (o :: rest) a w := by
  obtain ⟨i, z, t1, t2, t3, t4, t5, t6, t7⟩ := T
  exact wpList_make_full w hgd l c t ho w0.heap.size e i z sz t1 t2 t3 t4 .i64 .i64 (k : Int) (k : Int) k hl hc rfl rfl (by rw [t5]; exact h63) h64 (Later.size hb) (fun w' h1 h2 =>
    have h3 : Later w w' := Later.grown (Later.refl _) h2 (fun _ hk => by cases hk)
    h w' z ⟨i, t2, t3⟩ ⟨h1, hb.trans h3⟩ h3)
end

/-- The call's own variables: whole blocks. -/
def Own (w : World) : List (Nat × Array Value) → Prop
  | [] => True
  | (b, A) :: l => (b < w.heap.size ∧ (∀ i, w.cell? ⟨b, i, none⟩ = A[i]?) ∧ (∀ i, i < A.size → w.frozen? ⟨b, i, none⟩ = false)) ∧ Own w l
theorem Own.later {w w' : World} : ∀ {l : List (Nat × Array Value)}, Own w l → Later w w' → Own w' l
  | [], _, _ => trivial
  | (_, _) :: l, h, hb => ⟨⟨by have := Later.size hb; have := h.1.1; omega, fun i => ((bcell hb).1 _ i h.1.1).trans (h.1.2.1 i), fun i hi => ((bcell hb).2 _ i h.1.1).trans (h.1.2.2 i hi)⟩, h.2.later hb⟩
theorem Own.cons {w : World} {b : Nat} {A : Array Value} {l : List (Nat × Array Value)} (hb : b < w.heap.size) (hc : ∀ i, w.cell? ⟨b, i, none⟩ = A[i]?) (hf : ∀ i, i < A.size → w.frozen? ⟨b, i, none⟩ = false) (h : Own w l) : Own w ((b, A) :: l) := ⟨⟨hb, hc, hf⟩, h⟩
theorem Own.boxed {w w' : World} {A : Array Value} {ta : TypeId} {l : List (Nat × Array Value)} (h : Later (w.alloc (.cells A ta)) w') (hl : Own w' l) : Own w' ((w.heap.size, A) :: l) := by
  have := own1 h
  exact ⟨⟨by have := this.2.2; omega, this.1, this.2.1⟩, hl⟩
theorem Own.one {w w' : World} {A : Array Value} {ta : TypeId} (h : Later (w.alloc (.cells A ta)) w') : Own w' [(w.heap.size, A)] := Own.boxed h trivial
theorem Own.two {w w' : World} {A B : Array Value} {ta tb : TypeId} (h : Later ((w.alloc (.cells A ta)).alloc (.cells B tb)) w') : Own w' [(w.heap.size, A), (w.heap.size + 1, B)] := by
  have := Own.one h; rw [World.size_alloc] at this
  exact Own.boxed (Later.trans ((Later.refl _).alloc _) h) this
theorem Own.three {w w' : World} {A B C : Array Value} {ta tb tc : TypeId} (h : Later (((w.alloc (.cells A ta)).alloc (.cells B tb)).alloc (.cells C tc)) w') : Own w' [(w.heap.size, A), (w.heap.size + 1, B), (w.heap.size + 1 + 1, C)] := by
  have := Own.two h; rw [World.size_alloc] at this
  exact Own.boxed (Later.trans (((Later.refl _).alloc _).alloc _) h) this
theorem Own.four {w w' : World} {A B C D : Array Value} {ta tb tc td : TypeId} (h : Later ((((w.alloc (.cells A ta)).alloc (.cells B tb)).alloc (.cells C tc)).alloc (.cells D td)) w') : Own w' [(w.heap.size, A), (w.heap.size + 1, B), (w.heap.size + 1 + 1, C), (w.heap.size + 1 + 1 + 1, D)] := by
  have := Own.three h; rw [World.size_alloc] at this
  exact Own.boxed (Later.trans ((((Later.refl _).alloc _).alloc _).alloc _) h) this

theorem own_alloc (w : World) (A : Array Value) (ta : TypeId) : Own (w.alloc (.cells A ta)) [(w.heap.size, A)] := Own.one (Later.refl _)
theorem own_one_d {w w' : World} {A : Array Value} {ta : TypeId} (h : Later (w.alloc (.cells A ta)).drew w') : Own w' [(w.heap.size, A)] := Own.one h.undrew
theorem own_set2 {w : World} {b : Nat} {u v x y : Value} (h : Own w [(b, #[u, v])]) : Own ((w.setCell ⟨b, 0, none⟩ x).setCell ⟨b, 1, none⟩ y) [(b, #[x, y])] :=
  Own.cons (by simpa using h.1.1) (fun i => set_own (k := 1) (set_own (k := 0) h.1.2.1 x (by simp)) y (by simp) i) (fun i hi => set_frozen (n := 2) (fun i hi => set_frozen (n := 2) h.1.2.2 x i hi) y i hi) trivial
theorem own_get {w : World} {b : Nat} {A : Array Value} (h : Own w [(b, A)]) : b < w.heap.size ∧ (∀ i, w.cell? ⟨b, i, none⟩ = A[i]?) ∧ (∀ i, i < A.size → w.frozen? ⟨b, i, none⟩ = false) := h.1


theorem Later.putCell {a b : World} (h : Later a b) {k i : Nat} (hk : a.heap.size ≤ k) (u : Value) : Later a (b.setCell ⟨k, i, none⟩ u) := h.setCell hk u

/-- Later from a world behind boxes is later from the one ahead of them. -/
theorem Later.un1 {a b : World} {o : Obj} (h : Later (a.alloc o) b) : Later a b := Later.unalloc h
end Go.Proofs.YtckeaibamgkegaaGreatDoor
end
section
/- rows of structs and of integers, literals, arrays by value: words of ours that hang on no function -/
namespace Go.Proofs.YtckeaibamgkegaaGreatDoor
open Go.RowKit
set_option maxRecDepth 100000

def I64 (x : Int) : Prop := -9223372036854775808 ≤ x ∧ x ≤ 9223372036854775807
/-- A slice holds structs of some cells. -/
def IsRow {α : Type} (sz : Nat) (f : α → Nat → Value) (w : World) (v : Value) (xs : List α) : Prop :=
  ((∃ p, v = .slice p 0 0) ∧ xs = []) ∨ ∃ b o cap, v = .slice (some ⟨b, o, none⟩) xs.length cap ∧ b < w.heap.size ∧ xs.length ≤ cap ∧ cap ≤ maxLen ∧
    ∀ i (h : i < xs.length) j, j < sz → w.cell? ⟨b, o + i * sz + j, none⟩ = some (f xs[i] j)
section
variable {α : Type} {sz : Nat} {f : α → Nat → Value} {w w' : World} {v : Value} {xs : List α}
theorem IsRow.later (h : IsRow sz f w v xs) (hb : Later w w') : IsRow sz f w' v xs := by
  rcases h with h | ⟨b, o, cap, h1, h2, h3, h4, h5⟩
  · exact .inl h
  · exact .inr ⟨b, o, cap, h1, Nat.lt_of_lt_of_le h2 (Later.size hb), h3, h4, fun i hi j hj => ((bcell hb).1 _ _ h2).trans (h5 i hi j hj)⟩
theorem IsRow.cells (h : IsRow sz f w v xs) (hs : w.heap.size ≤ w'.heap.size) (hb : ∀ a u, w.cell? a = some u → w'.cell? a = some u) : IsRow sz f w' v xs := by
  rcases h with h | ⟨b, o, cap, h1, h2, h3, h4, h5⟩
  · exact .inl h
  · exact .inr ⟨b, o, cap, h1, Nat.lt_of_lt_of_le h2 hs, h3, h4, fun i hi j hj => hb _ _ (h5 i hi j hj)⟩
theorem IsRow.form (h : IsRow sz f w v xs) : ∃ p cap, v = .slice p xs.length cap := by
  rcases h with ⟨⟨p, h1⟩, h2⟩ | ⟨b, o, cap, h1, _⟩
  · subst h2; exact ⟨p, 0, h1⟩
  · exact ⟨_, _, h1⟩
theorem IsRow.nil (w : World) : IsRow sz f w (.slice none 0 0) [] := .inl ⟨⟨none, rfl⟩, rfl⟩
theorem IsRow.full (h : IsRow sz f w v xs) {i : Nat} (hi : i < xs.length) : ∃ b o cap, v = .slice (some ⟨b, o, none⟩) xs.length cap ∧ b < w.heap.size ∧ ∀ j, j < sz → w.cell? ⟨b, o + i * sz + j, none⟩ = some (f xs[i] j) := by
  rcases h with ⟨_, rfl⟩ | ⟨b, o, cap, h1, h2, h3, h4, h5⟩
  · simp at hi
  · exact ⟨b, o, cap, h1, h2, fun j hj => h5 i hi j hj⟩
theorem flat_get (cs : α → List Value) (hcs : ∀ x, (cs x).length = sz) : ∀ (xs : List α) (i : Nat) (hi : i < xs.length) (j : Nat), j < sz → (xs.flatMap cs)[i * sz + j]? = (cs xs[i])[j]?
  | [], i, hi, _, _ => by simp at hi
  | x :: r, 0, _, j, hj => by
    rw [List.flatMap_cons, Nat.zero_mul, Nat.zero_add, List.getElem?_append_left (by rw [hcs]; exact hj)]; rfl
  | x :: r, i + 1, hi, j, hj => by
    rw [List.flatMap_cons, List.getElem?_append_right (by rw [hcs]; have : (i + 1) * sz = i * sz + sz := Nat.succ_mul i sz; omega), hcs]
    have := flat_get cs hcs r i (by simpa using hi) j hj
    have e : (i + 1) * sz + j - sz = i * sz + j := by rw [Nat.succ_mul]; omega
    rw [e, this]; rfl
theorem flat_len (cs : α → List Value) (hcs : ∀ x, (cs x).length = sz) : ∀ (xs : List α), (xs.flatMap cs).length = xs.length * sz
  | [] => by simp
  | x :: r => by rw [List.flatMap_cons, List.length_append, hcs, flat_len cs hcs r, List.length_cons, Nat.succ_mul]; omega
theorem Mine.row_ {w0 : World} {e : TypeId} {n : Nat} (cs : α → List Value) (hcs : ∀ x, (cs x).length = sz) (hf : ∀ x j, j < sz → (cs x)[j]? = some (f x j)) (hsz : 0 < sz) (h : Mine w0 e sz w v n (xs.flatMap cs)) : IsRow sz f w v xs ∧ n = xs.length := by
  have hn : n = xs.length := by have := h.1.1; rw [flat_len cs hcs] at this; exact Nat.eq_of_mul_eq_mul_right hsz this.symm
  refine ⟨?_, hn⟩
  subst hn
  rcases h.1.2 with ⟨h1, h2⟩ | ⟨g, cap, cur, h1, h2, h3, h4, h5, h6, h7⟩
  · exact .inl ⟨⟨none, by rw [h1]⟩, List.eq_nil_of_length_eq_zero h2⟩
  · refine .inr ⟨g, 0, cap, h1, (h.1.lt g (by rw [h1]; rfl)).2, h4, h5, fun i hi j hj => ?_⟩
    have := h.1.cells (g := g) (by rw [h1]; rfl) (i * sz + j) (f xs[i] j) (by rw [flat_get cs hcs xs i hi j hj]; exact hf _ _ hj)
    rwa [add_plain, ← Nat.add_assoc] at this
end

theorem grown_cell {w w' : World} {row : Option Nat} (hg : w.grownBy w' row) {b i : Nat} {u : Value} (h : w.cell? ⟨b, i, none⟩ = some u) (hne : some b ≠ row) : w'.cell? ⟨b, i, none⟩ = some u := by
  have hb := hg.block b (World.block_lt_of_cell? _ _ h) hne
  unfold World.cell? at h ⊢
  simp only at h ⊢
  rw [hb]; exact h
theorem grown_size {w w' : World} {row : Option Nat} (hg : w.grownBy w' row) : w.heap.size ≤ w'.heap.size := hg.size
/-- A slice holds ints. -/
def IsInts (w : World) (v : Value) (zs : List Int) : Prop :=
  (v = .slice none 0 0 ∧ zs = []) ∨ ∃ b o cap, v = .slice (some ⟨b, o, none⟩) zs.length cap ∧ b < w.heap.size ∧ zs.length ≤ cap ∧ cap ≤ maxLen ∧ ∀ j (h : j < zs.length), w.cell? ⟨b, o + j, none⟩ = some (.int .i64 zs[j])
theorem IsInts.later {w w' : World} {v : Value} {zs : List Int} (h : IsInts w v zs) (hb : Later w w') : IsInts w' v zs := by
  rcases h with h | ⟨b, o, cap, h1, h2, h3, h4, h5⟩
  · exact .inl h
  · exact .inr ⟨b, o, cap, h1, Nat.lt_of_lt_of_le h2 (Later.size hb), h3, h4, fun j hj => ((bcell hb).1 _ _ h2).trans (h5 j hj)⟩
theorem IsInts.form {w : World} {v : Value} {zs : List Int} (h : IsInts w v zs) : ∃ p cap, v = .slice p zs.length cap := by
  rcases h with ⟨h1, h2⟩ | ⟨b, o, cap, h1, _⟩
  · subst h2; exact ⟨_, _, h1⟩
  · exact ⟨_, _, h1⟩
theorem IsInts.full {w : World} {v : Value} {zs : List Int} {j : Nat} (h : IsInts w v zs) (hj : j < zs.length) : ∃ b o cap, v = .slice (some ⟨b, o, none⟩) zs.length cap ∧ b < w.heap.size ∧ w.cell? ⟨b, o + j, none⟩ = some (.int .i64 zs[j]) := by
  rcases h with ⟨_, rfl⟩ | ⟨b, o, cap, h1, h2, h3, h4, h5⟩
  · simp at hj
  · exact ⟨b, o, cap, h1, h2, h5 j hj⟩
theorem Mine.ints {w0 w : World} {e : TypeId} {v : Value} {n : Nat} {zs : List Int} (h : Mine w0 e 1 w v n (zs.map (Value.int .i64))) : IsInts w v zs ∧ n = zs.length := by
  have hn : n = zs.length := by have := h.1.1; simp at this; omega
  refine ⟨?_, hn⟩
  subst hn
  rcases h.1.2 with ⟨h1, h2⟩ | ⟨g, cap, cur, h1, h2, h3, h4, h5, h6, h7⟩
  · exact .inl ⟨by rw [h1], List.eq_nil_of_length_eq_zero h2⟩
  · refine .inr ⟨g, 0, cap, h1, (h.1.lt g (by rw [h1]; rfl)).2, h4, h5, fun j hj => ?_⟩
    have := h.1.cells (g := g) (by rw [h1]; rfl) j (.int .i64 zs[j]) (by simp [hj])
    rwa [add_plain] at this

theorem intInfo : (Tryz.prog.info? 3).map (fun i => (i.zero, i.size, i.bytes)) = some (some (.int .i64 0), 1, 8) := by kernel_rfl
/-- One element is appended, behind the block that holds it. -/
theorem wpList_push {P : Program} {w0 w : World} {e sz : Nat} {v : Value} {n : Nat} {xs : List Value} {ops : Array Oper} {rest : List Oper} {o : Oper} {a : Act} {Q : Exit → Act → World → Prop} {t bytes : Nat} {ta : TypeId} {news : Array Value}
    (T : SliceOf P t e sz bytes) (hM : Mine w0 e sz w v n xs) (hgd : o.guard = none) (s x : Operand)
    (ho : o.op = .call { callee := .builtin .append, args := #[s, x], argTypes := #[t, t] }) (hs : a.eval s = v) (c : Nat) (hx : a.eval x = .slice (some ⟨w.heap.size, 0, none⟩) 1 c) (hl : news.size = sz) (h1 : ∀ u ∈ news.toList, u.oneCell' = true)
    (h63 : (n + 1) * bytes ≤ 140737488355328) (h64 : n + 1 ≤ maxLen)
    (h : ∀ v' w', Mine w0 e sz w' v' (n + 1) (xs ++ news.toList) → (w.alloc (.cells news ta)).grownBy w' v.ownBlock → wpList P ops Q rest (a.put o.dst v') w') : wpList P ops Q (o :: rest) a (w.alloc (.cells news ta)) := by
  have hc := (own_get (own_alloc w news ta)).2.1
  refine wpList_app T (hM.later ((Later.refl _).alloc _)) hgd s x ho hs w.heap.size 0 1 c news.toList hx (by rw [Nat.one_mul, Array.length_toList, hl]) ?_ h1 h63 h64 h
  intro j hj
  rw [Nat.zero_add, hc j, Array.getElem?_toList]
/-- One element is appended, behind the block that holds it, wherever that is. -/
theorem wpList_pushAt {P : Program} {w0 w : World} {e sz : Nat} {v : Value} {n : Nat} {xs : List Value} {ops : Array Oper} {rest : List Oper} {o : Oper} {a : Act} {Q : Exit → Act → World → Prop} {t bytes : Nat} {ta : TypeId} {news : Array Value}
    (T : SliceOf P t e sz bytes) (hM : Mine w0 e sz w v n xs) (hgd : o.guard = none) (s x : Operand)
    (ho : o.op = .call { callee := .builtin .append, args := #[s, x], argTypes := #[t, t] }) (hs : a.eval s = v) (c b : Nat) (hx : a.eval x = .slice (some ⟨b, 0, none⟩) 1 c) (hb : b = w.heap.size) (hl : news.size = sz) (h1 : ∀ u ∈ news.toList, u.oneCell' = true)
    (h63 : (n + 1) * bytes ≤ 140737488355328) (h64 : n + 1 ≤ maxLen)
    (h : ∀ v' w', Mine w0 e sz w' v' (n + 1) (xs ++ news.toList) → (w.alloc (.cells news ta)).grownBy w' v.ownBlock → wpList P ops Q rest (a.put o.dst v') w') : wpList P ops Q (o :: rest) a (w.alloc (.cells news ta)) :=
  wpList_push T hM hgd s x ho hs c (by rw [hx, hb]) hl h1 h63 h64 h
theorem Mine.grow {w0 w w' : World} {e sz : Nat} {v : Value} {n : Nat} {xs : List Value} (h : Mine w0 e sz w v n xs) {u : World} (hu : Later u w) (hv : ∀ k, v.ownBlock = some k → u.heap.size ≤ k) (hg : w.grownBy w' v.ownBlock) : Later u w' := Later.grown hu hg (fun k hk => hv k hk)
theorem sliceInt : SliceOf Tryz.prog 59 3 1 8 := sliceOf_mk Tryz.underlying59 intInfo rfl (by decide)


/-! The two operations, as laws of the walk. -/
theorem wpList_built {P : Program} {ops : Array Oper} {rest : List Oper} {o : Oper} {a : Act} {w : World} {Q : Exit → Act → World → Prop} {t : TypeId} {vs : Array (Nat × Value)} {v : Value}
    (hr : ∀ w, (Instr.build t vs).run P w = .ok v w) {parts : Array (Nat × Operand)} (ho : o.op = .build t parts) (hg : o.guard = none) (hv : (parts.map fun (i, x) => (i, a.eval x)) = vs)
    (h : wpList P ops Q rest (a.put o.dst v) w) : wpList P ops Q (o :: rest) a w :=
  wpList_plain hg fun _ hK => by
    unfold Oper.wp execOp
    simp only [ho, Sem.run_bind, hv, hr, Result.andThen_ok]
    exact hK _ _ h
theorem wpList_builtS {P : Program} {ops : Array Oper} {rest : List Oper} {o : Oper} {a : Act} {w : World} {Q : Exit → Act → World → Prop} {t : TypeId} {n : Nat} {vs : Array (Nat × Value)} {ob : Obj}
    (hr : ∀ w, (Instr.buildSlice t n vs).run P w = .ok (.slice (some ⟨w.heap.size, 0, none⟩) n n) (w.alloc ob)) {parts : Array (Nat × Operand)} (ho : o.op = .buildSlice t n parts) (hg : o.guard = none) (hv : (parts.map fun (i, x) => (i, a.eval x)) = vs)
    (h : wpList P ops Q rest (a.put o.dst (.slice (some ⟨w.heap.size, 0, none⟩) n n)) (w.alloc ob)) : wpList P ops Q (o :: rest) a w :=
  wpList_plain hg fun _ hK => by
    unfold Oper.wp execOp
    simp only [ho, Sem.run_bind, hv, hr, Result.andThen_ok]
    exact hK _ _ h
theorem Mine.lit {w0 w : World} {e sz n : Nat} {cur : Array Value} (h : Later w0 w) (hs : cur.size = n * sz) (hn : n ≤ maxLen) : Mine w0 e sz (w.alloc (.cells cur e)) (.slice (some ⟨w.heap.size, 0, none⟩) n n) n cur.toList :=
  ⟨⟨by simp [hs], .inr ⟨w.heap.size, n, cur, rfl, Later.size h, heap_alloc_new w _, Nat.le_refl _, hn, hs, by rw [← hs, ← Array.length_toList, List.take_length]⟩⟩, h.alloc _⟩
theorem row_of_own1 {w : World} {b : Nat} {A : Array Value} (h : Own w [(b, A)]) (h0 : 0 < A.size) : ∃ t fr, w.heap[b]? = some (.cells A t fr) := by
  obtain ⟨-, c, -⟩ := own_get h
  have c0 := c 0
  have hs : A[0]? = some A[0] := Array.getElem?_eq_getElem h0
  rw [hs] at c0
  cases hh : w.heap[b]? with
  | none => simp [World.cell?, hh] at c0
  | some o =>
    cases o with
    | cells cs t fr =>
      refine ⟨t, fr, ?_⟩
      have : cs = A := by
        apply Array.ext_getElem?
        intro i
        have := c i
        simpa [World.cell?, hh] using this
      rw [this]
    | _ => simp [World.cell?, hh] at c0
theorem run_index_agg {P : Program} (t e : TypeId) (n : Nat) (cs : Array Value) (k : Nat) (v : Value) (w : World) (h : P.underlying t = some (.array n e)) (hk : k < n) (hv : cs[k]? = some v) (hs : ∀ w, (sizeOf e).run P w = .ok 1 w) (ha : ∀ w, (isAgg e).run P w = .ok false w) :
    (Instr.index t (.agg cs) (.int .i64 (k : Int))).run P w = .ok v w := by
  have h1 : (0 : Int) ≤ (k : Int) ∧ (k : Int) < (n : Int) := by omega
  simp [Instr.index, run_underlying h, asIntOf, hk, hs, part, ha, hv, Result.andThen]
theorem wpList_idx {P : Program} {ops : Array Oper} {rest : List Oper} {o : Oper} {a : Act} {w : World} {Q : Exit → Act → World → Prop} {t : TypeId} {x i : Operand} {X I v : Value}
    (hr : (Instr.index t X I).run P w = .ok v w) (ho : o.op = .index t x i) (hg : o.guard = none) (hx : a.eval x = X) (hi : a.eval i = I)
    (h : wpList P ops Q rest (a.put o.dst v) w) : wpList P ops Q (o :: rest) a w :=
  wpList_plain hg fun _ hK => by
    unfold Oper.wp execOp
    simp only [ho, hx, hi, Sem.run_bind, hr, Result.andThen_ok]
    exact hK _ _ h

end Go.Proofs.YtckeaibamgkegaaGreatDoor
end
