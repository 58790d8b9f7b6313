/- words of 64 bits: the library's products, sums and quotients, said over numbers -/
import Derived.Test.YtckeaibamgkegaaDoorRows
import Derived.Test.YtckeaibamgkegaaDoorDiv
import Derived.Test.YtckeaibamgkegaaDoorRegion
import Derived.Shelf.Spec.BitsCarry
import Derived.WalkKit
import Derived.WalkSpells
import Derived.WalkSmall
import Derived.WalkLawsBesides
import Derived.BigQuiet
import Derived.Lib.Hide
set_option linter.all false
namespace Go.Proofs.YtckeaibamgkegaaDoor
open Go.RowKit
set_option maxRecDepth 100000

theorem ret_int {k : IntKind} {a b : Int} (h : a = b) : Ending.returned (.int k a) = .returned (.int k b) := by rw [h]

theorem bcell {W w1 : World} (hb : Later W w1) : (∀ b o, b < W.heap.size → w1.cell? ⟨b, o, none⟩ = W.cell? ⟨b, o, none⟩) ∧ (∀ b o, b < W.heap.size → w1.frozen? ⟨b, o, none⟩ = W.frozen? ⟨b, o, none⟩) :=
  ⟨fun b o h => hb.cell (p := ⟨b, o, none⟩) h, fun b o h => hb.frozen (p := ⟨b, o, none⟩) h⟩

theorem Later.setCell {a b : World} (h : Later a b) {p : Addr} (hp : a.heap.size ≤ p.block) (u : Value) : Later a (b.setCell p u) := Below.setCell h hp u


theorem Later.size {a b : World} (h : Later a b) : a.heap.size ≤ b.heap.size := Below.size h
theorem Later.ofdrew {a b : World} (h : Later a b) : Later a.drew b := ⟨h.os, h.tape, h.output, Later.size (a := a) h, h.block⟩
theorem Later.ofdrewN {a b : World} {n : Nat} (h : Later a b) : Later (a.drewN n) b := ⟨h.os, h.tape, h.output, Later.size (a := a) h, h.block⟩
theorem Later.undrew {a b : World} (h : Later a.drew b) : Later a b := ⟨h.os, h.tape, h.output, Later.size (a := a.drew) h, h.block⟩
theorem Later.undrewN {a b : World} {n : Nat} (h : Later (a.drewN n) b) : Later a b := ⟨h.os, h.tape, h.output, Later.size (a := a.drewN n) h, h.block⟩

theorem Later.unalloc {a b : World} {o : Obj} (h : Later (a.alloc o) b) : Later a b := Later.trans ((Later.refl _).alloc _) h

/-- The call's own blocks, behind a call. -/
theorem own_block {W w' : World} (h : Later W w') {k : Nat} {A : Array Value} {t : TypeId} (hk : W.heap[k]? = some (.cells A t (0, 0))) : (∀ i, w'.cell? ⟨k, i, none⟩ = A[i]?) ∧ (∀ i, i < A.size → w'.frozen? ⟨k, i, none⟩ = false) := by
  have hlt : k < W.heap.size := by
    rcases Nat.lt_or_ge k W.heap.size with h' | h'
    · exact h'
    · simp [Array.getElem?_eq_none h'] at hk
  have e : w'.heap[k]? = some (.cells A t (0, 0)) := (h.block k hlt).trans hk
  refine ⟨fun i => ?_, fun i hi => ?_⟩
  · simp [World.cell?, e]
  · simp [World.frozen?, e]
theorem own1 {w w' : World} {A : Array Value} {ta : TypeId} (h : Later (w.alloc (.cells A ta)) w') :
    (∀ i, w'.cell? ⟨w.heap.size, i, none⟩ = A[i]?) ∧ (∀ i, i < A.size → w'.frozen? ⟨w.heap.size, i, none⟩ = false) ∧ w.heap.size + 1 ≤ w'.heap.size := by
  have h0 := own_block (A := A) (t := ta) (k := w.heap.size) h (MapKept.heap_alloc w _).1
  exact ⟨h0.1, h0.2, by simpa using h.size⟩
theorem use_of {p q : Prop} (h : p) (k : p → q) : q := k h
theorem use_own1 {w w' : World} {A : Array Value} {ta : TypeId} {q : Prop} (h : Later (w.alloc (.cells A ta)) w')
    (k : (∀ i, w'.cell? ⟨w.heap.size, i, none⟩ = A[i]?) → (∀ i, i < A.size → w'.frozen? ⟨w.heap.size, i, none⟩ = false) → w.heap.size < w'.heap.size → q) : q := k (own1 h).1 (own1 h).2.1 (own1 h).2.2
theorem own2 {w w' : World} {A B : Array Value} {ta tb : TypeId} (h : Later ((w.alloc (.cells A ta)).alloc (.cells B tb)) w') :
    (∀ i, w'.cell? ⟨w.heap.size, i, none⟩ = A[i]?) ∧ (∀ i, i < A.size → w'.frozen? ⟨w.heap.size, i, none⟩ = false) ∧
    (∀ i, w'.cell? ⟨w.heap.size + 1, i, none⟩ = B[i]?) ∧ (∀ i, i < B.size → w'.frozen? ⟨w.heap.size + 1, i, none⟩ = false) ∧ w.heap.size + 1 + 1 ≤ w'.heap.size := by
  have h1 := own1 h
  have h0 := own1 (w := w) (w' := w') (A := A) (ta := ta) (Later.trans ((Later.refl _).alloc _) h)
  simp only [World.size_alloc] at h1
  exact ⟨h0.1, h0.2.1, h1⟩
theorem own3 {w w' : World} {A B C : Array Value} {ta tb tc : TypeId} (h : Later (((w.alloc (.cells A ta)).alloc (.cells B tb)).alloc (.cells C tc)) w') :
    (∀ i, w'.cell? ⟨w.heap.size, i, none⟩ = A[i]?) ∧ (∀ i, i < A.size → w'.frozen? ⟨w.heap.size, i, none⟩ = false) ∧
    (∀ i, w'.cell? ⟨w.heap.size + 1, i, none⟩ = B[i]?) ∧ (∀ i, i < B.size → w'.frozen? ⟨w.heap.size + 1, i, none⟩ = false) ∧
    (∀ i, w'.cell? ⟨w.heap.size + 1 + 1, i, none⟩ = C[i]?) ∧ (∀ i, i < C.size → w'.frozen? ⟨w.heap.size + 1 + 1, i, none⟩ = false) ∧ w.heap.size + 1 + 1 + 1 ≤ w'.heap.size := by
  have h1 := own2 h
  have h0 := own1 (w := w) (w' := w') (A := A) (ta := ta) (Later.trans (((Later.refl _).alloc _).alloc _) h)
  simp only [World.size_alloc] at h1
  exact ⟨h0.1, h0.2.1, h1⟩

/-- The world at hand, under a name: whatever later one. -/
theorem wp_opaque {P : Program} {c : Code} {Q : Exit → Act → World → Prop} {a : Act} {W : World} (h : ∀ W', Later W W' → c.wp P Q a W') : c.wp P Q a W := h W (Later.refl W)
theorem set_own {w : World} {p k : Nat} {A : Array Value} (hc : ∀ i, w.cell? ⟨p, i, none⟩ = A[i]?) (x : Value) (hk : k < A.size) (i : Nat) : (w.setCell ⟨p, k, none⟩ x).cell? ⟨p, i, none⟩ = (A.setIfInBounds k x)[i]? := by
  by_cases h : k = i
  · subst h
    rw [World.cell?_setCell_same' _ _ _ (by rw [hc]; simp [hk])]
    simp [hk]
  · rw [World.cell?_setCell_other _ _ _ _ (fun e => h (by cases e; rfl)), hc]
    simp [Array.getElem?_setIfInBounds_ne h]
theorem set_far {w : World} {p b k : Nat} {A : Array Value} (hc : ∀ i, w.cell? ⟨b, i, none⟩ = A[i]?) (x : Value) (hb : p ≠ b) (i : Nat) : (w.setCell ⟨p, k, none⟩ x).cell? ⟨b, i, none⟩ = A[i]? := by
  rw [World.cell?_setCell_other _ _ _ _ (fun e => hb (by cases e; rfl)), hc]
theorem set_frozen {w : World} {p b k : Nat} {n : Nat} (hf : ∀ i, i < n → w.frozen? ⟨b, i, none⟩ = false) (x : Value) (i : Nat) (hi : i < n) : (w.setCell ⟨p, k, none⟩ x).frozen? ⟨b, i, none⟩ = false := by
  rw [World.frozen?_setCell, hf i hi]

def hi64 (M : Int) : Int := M / 18446744073709551616
def lo64 (M : Int) : Int := M % 18446744073709551616
def bor (x y : Int) : Int := if x < y then 1 else 0
theorem lo_bd (M : Int) : 0 ≤ lo64 M ∧ lo64 M ≤ 18446744073709551615 := by unfold lo64; omega
theorem hi_bd (M : Int) (h0 : 0 ≤ M) (h1 : M ≤ 340282366920938463463374607431768211455) : 0 ≤ hi64 M ∧ hi64 M ≤ 18446744073709551615 := by unfold hi64; omega
theorem bor_bd (x y : Int) : 0 ≤ bor x y ∧ bor x y ≤ 1 := by unfold bor; split <;> omega
theorem mul_bd {a b : Int} (a0 : 0 ≤ a) (a1 : a ≤ 18446744073709551615) (b0 : 0 ≤ b) (b1 : b ≤ 18446744073709551615) : 0 ≤ a * b ∧ a * b ≤ 340282366920938463426481119284349108225 :=
  ⟨Int.mul_nonneg a0 b0, Int.le_trans (Int.mul_le_mul a1 b1 b0 (by omega)) (by omega)⟩

theorem add64 (x y c : Int) (hx : 0 ≤ x) (hx' : x ≤ 18446744073709551615) (hy : 0 ≤ y) (hy' : y ≤ 18446744073709551615) (hc0 : 0 ≤ c) (hc : c ≤ 1) (w : World) : (callFunc 76 #[.int .u64 x, .int .u64 y, .int .u64 c]).run Tryd.prog w =
    .ok (.value (.tuple #[.int .u64 (lo64 (x + y + c)), .int .u64 (hi64 (x + y + c))])) w := by
  obtain ⟨x, rfl⟩ := Int.eq_ofNat_of_zero_le hx
  obtain ⟨y, rfl⟩ := Int.eq_ofNat_of_zero_le hy
  obtain ⟨c, rfl⟩ := Int.eq_ofNat_of_zero_le hc0
  rw [run_callFunc_extern Tryd.func76 (by kernel_rfl) (by kernel_rfl) (by kernel_rfl) (e := add64Entry) (by kernel_rfl), run_add64 x y c (by omega) (by omega) (by omega) (by omega)]
  simp only [Result.andThen]
  congr 5 <;> (unfold hi64 <;> unfold lo64 <;> omega)
theorem sub64 (x y b : Int) (hx : 0 ≤ x) (hx' : x ≤ 18446744073709551615) (hy : 0 ≤ y) (hy' : y ≤ 18446744073709551615) (hb0 : 0 ≤ b) (hb : b ≤ 1) (w : World) : (callFunc 106 #[.int .u64 x, .int .u64 y, .int .u64 b]).run Tryd.prog w =
    .ok (.value (.tuple #[.int .u64 (lo64 (x - y - b)), .int .u64 (bor x (y + b))])) w := by
  obtain ⟨x, rfl⟩ := Int.eq_ofNat_of_zero_le hx
  obtain ⟨y, rfl⟩ := Int.eq_ofNat_of_zero_le hy
  obtain ⟨b, rfl⟩ := Int.eq_ofNat_of_zero_le hb0
  have e1 : (((x + 18446744073709551616 - y - b) % 18446744073709551616 : Nat) : Int) = lo64 ((x : Int) - y - b) := by unfold lo64; omega
  have e2 : ((if x < y + b then 1 else 0 : Nat) : Int) = bor (x : Int) (y + b) := by unfold bor; split <;> split <;> omega
  rw [← e1, ← e2]
  rw [run_callFunc_extern Tryd.func106 (by kernel_rfl) (by kernel_rfl) (by kernel_rfl) (e := sub64Entry) (by kernel_rfl), run_sub64 x y b (by omega)]
  rfl
theorem add64_0 (x y : Int) (hx : 0 ≤ x) (hx' : x ≤ 18446744073709551615) (hy : 0 ≤ y) (hy' : y ≤ 18446744073709551615) (w : World) : (callFunc 76 #[.int .u64 x, .int .u64 y, .int .u64 0]).run Tryd.prog w =
    .ok (.value (.tuple #[.int .u64 (lo64 (x + y)), .int .u64 (hi64 (x + y))])) w := by
  simpa using add64 x y 0 hx hx' hy hy' (Int.le_refl 0) (by decide) w
theorem sub64_0 (x y : Int) (hx : 0 ≤ x) (hx' : x ≤ 18446744073709551615) (hy : 0 ≤ y) (hy' : y ≤ 18446744073709551615) (w : World) : (callFunc 106 #[.int .u64 x, .int .u64 y, .int .u64 0]).run Tryd.prog w =
    .ok (.value (.tuple #[.int .u64 (lo64 (x - y)), .int .u64 (bor x y)])) w := by
  simpa using sub64 x y 0 hx hx' hy hy' (Int.le_refl 0) (by decide) w

theorem mul64 (x y : Int) (w : World) (hx : 0 ≤ x) (hx' : x ≤ 18446744073709551615) (hy : 0 ≤ y) (hy' : y ≤ 18446744073709551615) :
    Calls Tryd.prog 96 #[.int .u64 x, .int .u64 y] w fun e w' => e = .returned (.tuple #[.int .u64 (hi64 (x * y)), .int .u64 (lo64 (x * y))]) ∧ w' = w := by
  obtain ⟨x, rfl⟩ := Int.eq_ofNat_of_zero_le hx
  obtain ⟨y, rfl⟩ := Int.eq_ofNat_of_zero_le hy
  refine (Tryd.bits_Mul64 x y (by omega) (by omega) w).mono fun e w' ⟨he, hw⟩ => ⟨?_, hw⟩
  rw [he]
  have e1 : hi64 ((x : Int) * y) = ((x * y / 18446744073709551616 : Nat) : Int) := by unfold hi64; simp
  have e2 : lo64 ((x : Int) * y) = ((x * y % 18446744073709551616 : Nat) : Int) := by unfold lo64; simp
  rw [e1, e2]

/-- The number that two words are. -/
def two64 (h l : Int) : Int := h * 18446744073709551616 + l
theorem two_parts (M : Int) : two64 (hi64 M) (lo64 M) = M := by unfold two64 hi64 lo64; omega

theorem div64 (hi lo y : Int) (w : World) (h1 : 0 ≤ hi) (h2 : hi < y) (h3 : 0 ≤ lo) (h4 : lo ≤ 18446744073709551615) (h5 : y ≤ 18446744073709551615) :
    Calls Tryd.prog 107 #[.int .u64 hi, .int .u64 lo, .int .u64 y] w fun e w' => e = .returned (.tuple #[.int .u64 (two64 hi lo / y), .int .u64 (two64 hi lo % y)]) ∧ Later w w' := by
  refine (div64_any hi lo y w h1 h2 h3 h4 h5).mono fun e w' ⟨he, n, hw⟩ => ⟨he, ?_⟩
  rw [hw]; exact (Later.refl w).drewN n
theorem dq_bd {hi lo y : Int} (h1 : 0 ≤ hi) (h2 : hi < y) (h3 : 0 ≤ lo) (h4 : lo ≤ 18446744073709551615) : 0 ≤ two64 hi lo / y ∧ two64 hi lo / y ≤ 18446744073709551615 ∧ 0 ≤ two64 hi lo % y ∧ two64 hi lo % y < y := by
  have hy : 0 < y := by omega
  unfold two64
  refine ⟨Int.ediv_nonneg (by omega) (by omega), ?_, Int.emod_nonneg _ (by omega), Int.emod_lt_of_pos _ hy⟩
  have : (hi * 18446744073709551616 + lo) / y < 18446744073709551616 := Int.ediv_lt_of_lt_mul hy (by omega)
  omega
end Go.Proofs.YtckeaibamgkegaaDoor
