/- texts of a proof, joined -/
import Derived.Shelf.Small.Bits
import Derived.Shelf.Strconv.Itoa0
import Derived.Shelf.Bits.Mul64
import Derived.Ground.Names2Prog
import Derived.Shelf.Slices.Clone
import Derived.Ground.SlgnProg
import Derived.Shelf.SlicesE.Clone
import Derived.Test.YtkpadahpepeaoaaDoorProg
import Derived.WalkKit
import Derived.Lib.BitFns
import Derived.Lib.ItoaNum
import Derived.Test.YtkpadahpepeaoaaDoorRows
import Derived.WalkSpells
import Derived.WalkSmall
import Derived.WalkLawsBesides
import Derived.BigQuiet
import Derived.Deep.RegionHeld3
import Derived.Deep.DeepCutAuto
import Derived.Deep.CutBlock
import Derived.Lib.Hide
import Derived.Deep.Quiet
import Derived.Below
import Derived.OrdersHeld
import Derived.Shelf.Spec.BitsCarry
import Derived.Laws.AppendOwnNone
import Derived.OwnWalk
set_option linter.all false
/-
  DERIVED: THE SHELF's CONTRACTS AT THIS DUMP, IN PLAIN WORDS (tools/lay-plain.mjs out of 'TrydShelf.lean', which tools/lay-shelf.mjs wrote): THE SAME DECLARATIONS UNDER THE SAME NAMES: 'import', 'namespace', 'open', 'def', 'theorem' AND NOTHING ELSE: no command of the shelf's: FOR A HAND-IN. Each laying: the table of numbers ('.._ren') and one theorem, a field a fact of the dump's own or the kernel's comparison; each contract: ONE APPLICATION.
-/
namespace Go.Proofs
open Go.Shelf
def Tryd.lays134_ren : Go.Shelf.Ren := ⟨fun | 134 => 97 | 129 => 98 | n => n, fun | 53 => 122 | 3 => 3 | 4 => 4 | 46 => 161 | 5 => 5 | 9 => 9 | n => n, fun | n => n⟩
theorem Tryd.lays134 : Go.Proofs.Lays.n134 Tryd.prog Tryd.lays134_ren := {
  mixed := by kernel_rfl
  f129 := Tryd.func98.trans (congrArg some (by kernel_rfl))
  f134 := Tryd.func97.trans (congrArg some (by kernel_rfl))
  t3 := Tryd.underlying3
  a3 := Tryd.isAgg3
  z3 := Tryd.sizeOf3
  v3 := Tryd.zeroValue3
  t4 := Tryd.underlying4
  a4 := Tryd.isAgg4
  z4 := Tryd.sizeOf4
  v4 := Tryd.zeroValue4
  t5 := Tryd.underlying5
  a5 := Tryd.isAgg5
  z5 := Tryd.sizeOf5
  v5 := Tryd.zeroValue5
  t9 := Tryd.underlying9
  a9 := Tryd.isAgg9
  z9 := Tryd.sizeOf9
  v9 := Tryd.zeroValue9
  t46 := Tryd.underlying161
  a46 := Tryd.isAgg161
  z46 := Tryd.sizeOf161
  v46 := Tryd.zeroValue161
  t53 := Tryd.underlying122
  a53 := Tryd.isAgg122
  z53 := Tryd.sizeOf122
  v53 := Tryd.zeroValue122 }
/-- bits.LeadingZeros64: "LeadingZeros64 returns the number of leading zero bits in x; the result is 64 for x == 0.": IT RETURNS '64 - Lib.bitLen x'; the world is as it was. ITS CALLEE bits.Len64 IS MET BY ITS OWN CONTRACT OFF THE SHELF (lay that first): entered in place it sends the kernel out of memory. (LAID: no walk: one application.) -/
theorem Tryd.bits_LeadingZeros64 (x : Int) (w : World) (h0 : 0 ≤ x) (h1 : x ≤ 18446744073709551615) :
    Calls Tryd.prog 97 #[.int .u64 x] w fun e w' => e = .returned (.int .i64 (64 - (Lib.bitLen x.toNat : Int))) ∧ w' = w := Any.bits_LeadingZeros64 Tryd.lays134 x w h0 h1
def Tryd.lays129_ren : Go.Shelf.Ren := ⟨fun | 129 => 98 | n => n, fun | 53 => 122 | 3 => 3 | 4 => 4 | 46 => 161 | 5 => 5 | 9 => 9 | n => n, fun | n => n⟩
theorem Tryd.lays129 : Go.Proofs.Lays.n129 Tryd.prog Tryd.lays129_ren := {
  mixed := by kernel_rfl
  f129 := Tryd.func98.trans (congrArg some (by kernel_rfl))
  t3 := Tryd.underlying3
  a3 := Tryd.isAgg3
  z3 := Tryd.sizeOf3
  v3 := Tryd.zeroValue3
  t4 := Tryd.underlying4
  a4 := Tryd.isAgg4
  z4 := Tryd.sizeOf4
  v4 := Tryd.zeroValue4
  t5 := Tryd.underlying5
  a5 := Tryd.isAgg5
  z5 := Tryd.sizeOf5
  v5 := Tryd.zeroValue5
  t9 := Tryd.underlying9
  a9 := Tryd.isAgg9
  z9 := Tryd.sizeOf9
  v9 := Tryd.zeroValue9
  t46 := Tryd.underlying161
  a46 := Tryd.isAgg161
  z46 := Tryd.sizeOf161
  v46 := Tryd.zeroValue161
  t53 := Tryd.underlying122
  a53 := Tryd.isAgg122
  z53 := Tryd.sizeOf122
  v53 := Tryd.zeroValue122 }
/-- bits.Len64: "Len64 returns the minimum number of bits required to represent x; the result is 0 for x == 0.": IT RETURNS 'Lib.bitLen x'; the world is as it was. ('h0', 'h1': x is a uint64.) (LAID: no walk: one application.) -/
theorem Tryd.bits_Len64 (x : Int) (w : World) (h0 : 0 ≤ x) (h1 : x ≤ 18446744073709551615) :
    Calls Tryd.prog 98 #[.int .u64 x] w fun e w' => e = .returned (.int .i64 (Lib.bitLen x.toNat)) ∧ w' = w := Any.bits_Len64 Tryd.lays129 x w h0 h1
def Tryd.lays264_ren : Go.Shelf.Ren := ⟨fun | 264 => 95 | n => n, fun | 53 => 122 | 46 => 161 | n => n, fun | n => n⟩
theorem Tryd.lays264 : Go.Proofs.Lays.n264 Tryd.prog Tryd.lays264_ren := {
  mixed := by kernel_rfl
  f264 := Tryd.func95.trans (congrArg some (by kernel_rfl))
  t46 := Tryd.underlying161
  a46 := Tryd.isAgg161
  z46 := Tryd.sizeOf161
  v46 := Tryd.zeroValue161
  t53 := Tryd.underlying122
  a53 := Tryd.isAgg122
  z53 := Tryd.sizeOf122
  v53 := Tryd.zeroValue122 }
open Go.RowKit Go.Lib in
theorem Tryd.bits_Mul64 (x y : Nat) (hx : x < 18446744073709551616) (hy : y < 18446744073709551616) (w : World) :
    Calls Tryd.prog 95 #[.int .u64 x, .int .u64 y] w fun e w' => e = .returned (.tuple #[.int .u64 ((x * y / 18446744073709551616 : Nat) : Int), .int .u64 ((x * y % 18446744073709551616 : Nat) : Int)]) ∧ w' = w := Any.bits_Mul64 Tryd.lays264 x y hx hy w
def Tryd.laysNm215_ren : Go.Shelf.Ren := ⟨fun | 15 => 66 | n => n, fun | 22 => 58 | 3 => 3 | 4 => 4 | n => n, fun | n => n⟩
theorem Tryd.laysNm215 : Go.Proofs.Lays2.n15 Tryd.prog Tryd.laysNm215_ren := {
  mixed := by kernel_rfl
  f15 := Tryd.func66.trans (congrArg some (by kernel_rfl))
  t3 := Tryd.underlying3
  a3 := Tryd.isAgg3
  z3 := Tryd.sizeOf3
  v3 := Tryd.zeroValue3
  t4 := Tryd.underlying4
  a4 := Tryd.isAgg4
  z4 := Tryd.sizeOf4
  v4 := Tryd.zeroValue4
  t22 := Tryd.underlying58
  a22 := Tryd.isAgg58
  z22 := Tryd.sizeOf58
  v22 := Tryd.zeroValue58
  i3 := by kernel_rfl }
open Go.RowKit Go.Lib in
/-- slices.Clone at []int: "Clone returns a copy of the slice. The elements are copied using assignment, so this is a shallow clone. The result may have additional unused capacity. The result preserves the nilness of s.": OF A SLICE THAT IS NOT nil IT RETURNS A SLICE THAT IS NOT nil, OF THE SAME ELEMENTS, IN MEMORY OF THE CALL's OWN: in the how-to's words (6f): 'w'.ownsRow B e 1 v' n cells': v' begins at the head of a row among the blocks from B on (B: the heap's size at the call), not frozen, whose first cells are the elements · 'Below B w w'': below B all is as it was. The capacity is whatever the run-time gives. 'zs': what the cells behind the slice's address hold; 'zs.take n': its elements. (LAID: no walk: one application.) -/
theorem Tryd.slices_Clone_int (b off n c : Nat) (zs : List Int) (w : World) (hz : n ≤ zs.length) (hbig : n * 8 ≤ 140737488355328) (hc : ∀ j, j < zs.length → w.cell? ⟨b, off + j, none⟩ = some (.int .i64 (zs.getD j 0))) :
    Calls Tryd.prog 66 #[.slice (some ⟨b, off, none⟩) n c] w fun e w' => ∃ v', e = .returned v' ∧ w'.ownsRow w.heap.size 3 1 v' n ((zs.take n).map (Value.int .i64)) ∧ v' ≠ .slice none 0 0 ∧ Below w.heap.size w w' := Any.slices_Clone_int Tryd.laysNm215 b off n c zs w hz hbig hc
open Go.RowKit Go.Lib in
/-- The same at nil: nil comes back; the world is as it was. (LAID: no walk: one application.) -/
theorem Tryd.slices_Clone_int_nil (n c : Nat) (w : World) :
    Calls Tryd.prog 66 #[.slice none n c] w fun e w' => e = .returned (.slice none 0 0) ∧ w' = w := Any.slices_Clone_int_nil Tryd.laysNm215 n c w
open Go.RowKit Go.Lib in
/-- The same at a slice of length 0 that is not nil, WHATEVER ITS ADDRESS (no cell is asked for): a slice that is not nil and owns nothing comes back. (LAID: no walk: one application.) -/
theorem Tryd.slices_Clone_int_zero (a : Addr) (c : Nat) (w : World) :
    Calls Tryd.prog 66 #[.slice (some a) 0 c] w fun e w' => ∃ v', e = .returned v' ∧ w'.ownsRow w.heap.size 3 1 v' 0 [] ∧ v' ≠ .slice none 0 0 ∧ Below w.heap.size w w' := Any.slices_Clone_int_zero Tryd.laysNm215 a c w
def Tryd.laysSlE041_f66_ren : Go.Shelf.Ren := ⟨fun | 41 => 66 | n => n, fun | 22 => 58 | 23 => 3 | 4 => 4 | n => n, fun | n => n⟩
theorem Tryd.laysSlE041_f66 : Go.Proofs.SlLaysE0.n41 Tryd.prog Tryd.laysSlE041_f66_ren := {
  mixed := by kernel_rfl
  f41 := ⟨Tryd.f66.name, by decide, Tryd.func66.trans (congrArg some (by kernel_rfl))⟩
  t4 := Tryd.underlying4
  a4 := Tryd.isAgg4
  z4 := Tryd.sizeOf4
  v4 := Tryd.zeroValue4
  t22 := Tryd.underlying58
  a22 := Tryd.isAgg58
  z22 := Tryd.sizeOf58
  v22 := Tryd.zeroValue58 }
open Go.RowKit Go.Lib in
/-- slices.Clone: "Clone returns a copy of the slice. The elements are copied using assignment, so this is a shallow clone. The result may have additional unused capacity. The result preserves the nilness of s.": OF A SLICE THAT IS NOT nil IT RETURNS A SLICE THAT IS NOT nil, OF THE SAME CELLS, IN MEMORY OF THE CALL's OWN ('ownsRow': the how-to's 6f); below the heap's size at the call all is as it was. (LAID AT THE INSTANCE 'slices.Clone[[]int,int]': no walk: one application.) -/
theorem Tryd.slices_Clone (i0 : TypeInfo) (z : Value) (size bytes : Nat) (hi : Tryd.prog.info? 3 = some i0) (hz0 : i0.zero = some z) (hz1 : i0.size = size) (hz2 : i0.bytes = bytes) (hzs : z.cells.size = size) (hsz : 0 < size) (z23 : ∀ w, (Go.sizeOf 3).run Tryd.prog w = .ok size w) (b off n c : Nat) (news : List Value) (w : World) (hl : news.length = n * size) (hn : n ≤ maxLen) (hbig : n * bytes ≤ 140737488355328) (hc : ∀ j u, news[j]? = some u → w.cell? ⟨b, off + j, none⟩ = some u) (h1 : ∀ u ∈ news, u.oneCell' = true) :
    Calls Tryd.prog 66 #[.slice (some ⟨b, off, none⟩) n c] w fun e w' => ∃ v', e = .returned v' ∧ w'.ownsRow w.heap.size 3 size v' n news ∧ v' ≠ .slice none 0 0 ∧ Below w.heap.size w w' := AnyE.slices_Clone Tryd.laysSlE041_f66 i0 z size bytes hi hz0 hz1 hz2 hzs hsz z23 b off n c news w hl hn hbig hc h1
open Go.RowKit Go.Lib in
/-- The same at nil: nil comes back; the world is as it was; nothing is asked of the element's type. (LAID AT THE INSTANCE 'slices.Clone[[]int,int]': no walk: one application.) -/
theorem Tryd.slices_Clone_nil (n c : Nat) (w : World) :
    Calls Tryd.prog 66 #[.slice none n c] w fun e w' => e = .returned (.slice none 0 0) ∧ w' = w := AnyE.slices_Clone_nil Tryd.laysSlE041_f66 n c w
end Go.Proofs

/- plain arithmetic for a division of two words by one -/
namespace Go.Proofs.YtkpadahpepeaoaaDoor
open Go.RowKit
set_option maxRecDepth 100000

/-- The state of the loop that lowers a guessed digit. -/
structure DInv (a b u d q r : Int) : Prop where
  e : q * a + r = u
  r0 : 0 ≤ r
  q0 : 0 ≤ q
  up : u * 4294967296 + d < q * a * 4294967296 + q * b + (a * 4294967296 + b)
  qb : q ≤ 4294967297

structure DEnd (a b u d q : Int) : Prop where
  q0 : 0 ≤ q
  qb : q ≤ 4294967295
  lo : q * a * 4294967296 + q * b ≤ u * 4294967296 + d
  up : u * 4294967296 + d < q * a * 4294967296 + q * b + (a * 4294967296 + b)

theorem DInv.start {a b u d : Int} (a1 : 2147483648 ≤ a) (a2 : a ≤ 4294967295) (b1 : 0 ≤ b) (b2 : b ≤ 4294967295) (u1 : 0 ≤ u) (u2 : u < a * 4294967296 + b) (d1 : 0 ≤ d) (d2 : d ≤ 4294967295) :
    DInv a b u d (u / a) (u - u / a * a) := by
  have h1 := Int.emod_add_mul_ediv u a
  have h2 := Int.emod_nonneg u (show a ≠ 0 by omega)
  have h3 := Int.emod_lt_of_pos u (show 0 < a by omega)
  have h4 : u / a * a = a * (u / a) := Int.mul_comm _ _
  have h0 : 0 ≤ u / a := Int.ediv_nonneg u1 (by omega)
  have hq : u / a < 4294967298 := Int.ediv_lt_of_lt_mul (by omega) (by omega)
  have h5 : 0 ≤ u / a * b := Int.mul_nonneg h0 b1
  refine ⟨by omega, by omega, h0, ?_, by omega⟩
  rw [h4]
  generalize a * (u / a) = P at *
  omega

theorem DInv.small {a b u d q r : Int} (h : DInv a b u d q r) (b1 : 0 ≤ b) (b2 : b ≤ 4294967295) (hq : q < 4294967296) : 0 ≤ q * b ∧ q * b ≤ 18446744073709551615 := by
  refine ⟨Int.mul_nonneg h.q0 b1, ?_⟩
  have := Int.mul_le_mul (show q ≤ 4294967295 by omega) b2 b1 (by omega)
  omega

theorem DInv.stop {a b u d q r : Int} (h : DInv a b u d q r) (hq : q < 4294967296) (hc : q * b ≤ 4294967296 * r + d) : DEnd a b u d q := by
  obtain ⟨e, r0, q0, up, qb⟩ := h
  refine ⟨q0, by omega, ?_, up⟩
  generalize q * a = P at *
  generalize q * b = S at *
  omega

theorem DInv.next {a b u d q r : Int} (h : DInv a b u d q r) (a1 : 2147483648 ≤ a) (a2 : a ≤ 4294967295) (b1 : 0 ≤ b) (b2 : b ≤ 4294967295) (u2 : u < a * 4294967296 + b) (d1 : 0 ≤ d) (d2 : d ≤ 4294967295)
    (hc : 4294967296 ≤ q ∨ 4294967296 * r + d < q * b) : 1 ≤ q ∧ DInv a b u d (q - 1) (r + a) := by
  obtain ⟨e, r0, q0, up, qb⟩ := h
  have e1 : (q - 1) * a = q * a - a := by rw [Int.sub_mul]; omega
  have e2 : (q - 1) * b = q * b - b := by rw [Int.sub_mul]; omega
  have hq : 1 ≤ q := by
    rcases hc with h | h
    · omega
    · by_cases hz : q = 0
      · subst hz; simp at h; omega
      · omega
  have key : u * 4294967296 + d < q * a * 4294967296 + q * b := by
    rcases hc with h | h
    · have k1 := Int.mul_le_mul h (Int.le_refl a) (by omega) (by omega)
      have k2 := Int.mul_le_mul h (Int.le_refl b) (by omega) (by omega)
      generalize q * a = P at *
      generalize q * b = S at *
      omega
    · generalize q * a = P at *
      generalize q * b = S at *
      omega
  refine ⟨hq, ?_, by omega, by omega, ?_, by omega⟩
  · rw [e1]; omega
  · rw [e1, e2]
    generalize q * a = P at *
    generalize q * b = S at *
    omega

theorem DInv.leave {a b u d q r : Int} (h : DInv a b u d q r) (a1 : 2147483648 ≤ a) (b1 : 0 ≤ b) (b2 : b ≤ 4294967295) (u2 : u < a * 4294967296 + b) (d1 : 0 ≤ d) (d2 : d ≤ 4294967295) (hq : q ≤ 4294967296) (hr : 4294967296 ≤ r) : DEnd a b u d q := by
  obtain ⟨e, r0, q0, up, qb⟩ := h
  have k : q * b ≤ 4294967296 * 4294967295 := Int.mul_le_mul hq b2 b1 (by omega)
  have lo : q * a * 4294967296 + q * b ≤ u * 4294967296 + d := by
    generalize q * a = P at *
    generalize q * b = S at *
    omega
  refine ⟨q0, ?_, lo, up⟩
  by_cases hz : q = 4294967296
  · subst hz; omega
  · omega

/-- Two digits make the quotient. -/
theorem two_digits {a b u v1 v0 q1 q0 Y : Int} (hY : Y = a * 4294967296 + b) (h1 : DEnd a b u v1 q1) (h0 : DEnd a b (u * 4294967296 + v1 - q1 * Y) v0 q0) (hYp : 0 < Y) :
    q1 * 4294967296 + q0 = (u * 18446744073709551616 + (v1 * 4294967296 + v0)) / Y ∧
    (u * 4294967296 + v1 - q1 * Y) * 4294967296 + v0 - q0 * Y = (u * 18446744073709551616 + (v1 * 4294967296 + v0)) % Y := by
  have e0 : q0 * Y = q0 * a * 4294967296 + q0 * b := by rw [hY, Int.mul_add, Int.mul_assoc]
  have l := h0.lo
  have p := h0.up
  rw [← hY, ← e0] at p
  rw [← e0] at l
  have E : u * 18446744073709551616 + (v1 * 4294967296 + v0) = (q1 * 4294967296 + q0) * Y + ((u * 4294967296 + v1 - q1 * Y) * 4294967296 + v0 - q0 * Y) := by
    rw [Int.add_mul, Int.mul_right_comm]
    generalize q1 * Y = A at *
    generalize q0 * Y = C at *
    omega
  have := Int.ediv_emod_unique (a := u * 18446744073709551616 + (v1 * 4294967296 + v0)) (b := Y) (r := (u * 4294967296 + v1 - q1 * Y) * 4294967296 + v0 - q0 * Y) (q := q1 * 4294967296 + q0) hYp
  have h := this.2 ⟨by rw [E, Int.mul_comm Y]; omega, by omega, by omega⟩
  exact ⟨h.1.symm, h.2.symm⟩


theorem bits_pow (y : Nat) (h0 : 0 < y) (h1 : y < 18446744073709551616) : ∃ k : Nat, k ≤ 63 ∧ 64 - (Lib.bitLen y : Int) = k ∧ 9223372036854775808 ≤ y * 2 ^ k ∧ y * 2 ^ k < 18446744073709551616 := by
  have hb := Lib.bitLenAux_bounds 64 y (by simpa using h1) (by omega)
  have hl := Lib.bitLen_le y 64 (by omega) (by simpa using h1)
  unfold Lib.bitLen at *
  generalize Lib.bitLenAux 64 y = n at *
  obtain ⟨b1, b2, b3⟩ := hb
  refine ⟨64 - n, by omega, by omega, ?_, ?_⟩
  · have e : 2 ^ (n - 1) * 2 ^ (64 - n) = 2 ^ 63 := by rw [← Nat.pow_add]; congr 1; omega
    have := Nat.mul_le_mul_right (2 ^ (64 - n)) b2
    rw [e] at this
    omega
  · have e : 2 ^ n * 2 ^ (64 - n) = 2 ^ 64 := by rw [← Nat.pow_add]; congr 1; omega
    have := Nat.mul_lt_mul_of_pos_right b3 (show 0 < 2 ^ (64 - n) from Nat.two_pow_pos _)
    rw [e] at this
    omega

/-- What a shift by k of a number of two words comes to. -/
theorem shift_two (hi lo y : Nat) (k : Nat) (hk : k ≤ 63) (hy : y * 2 ^ k < 18446744073709551616) (h : hi < y) (hlo : lo < 18446744073709551616) :
    hi * 2 ^ k < 18446744073709551616 ∧ lo / 2 ^ (64 - k) < 2 ^ k ∧ (hi * 2 ^ k) ||| (lo / 2 ^ (64 - k)) = hi * 2 ^ k + lo / 2 ^ (64 - k) ∧
    hi * 2 ^ k + lo / 2 ^ (64 - k) < y * 2 ^ k ∧ (hi * 2 ^ k + lo / 2 ^ (64 - k)) * 18446744073709551616 + lo * 2 ^ k % 18446744073709551616 = (hi * 18446744073709551616 + lo) * 2 ^ k := by
  have e : 2 ^ (64 - k) * 2 ^ k = 18446744073709551616 := by rw [← Nat.pow_add, show 64 - k + k = 64 by omega]
  have p1 : 0 < 2 ^ (64 - k) := Nat.two_pow_pos _
  have p2 : 0 < 2 ^ k := Nat.two_pow_pos _
  have m1 : hi * 2 ^ k + 2 ^ k ≤ y * 2 ^ k := by
    have := Nat.mul_le_mul_right (2 ^ k) (show hi + 1 ≤ y from h)
    rw [Nat.add_mul] at this
    omega
  have d1 : lo / 2 ^ (64 - k) < 2 ^ k := Nat.div_lt_of_lt_mul (by rw [e]; exact hlo)
  have o1 : (hi * 2 ^ k) ||| (lo / 2 ^ (64 - k)) = hi * 2 ^ k + lo / 2 ^ (64 - k) := by
    rw [Nat.mul_comm hi, Nat.two_pow_add_eq_or_of_lt d1]
  refine ⟨by omega, d1, o1, by omega, ?_⟩
  have md : lo * 2 ^ k % 18446744073709551616 = (lo % 2 ^ (64 - k)) * 2 ^ k := by
    rw [← e, Nat.mul_mod_mul_right]
  have dm := Nat.div_add_mod lo (2 ^ (64 - k))
  rw [md, Nat.add_mul, Nat.add_mul, ← e]
  have : lo * 2 ^ k = (2 ^ (64 - k) * (lo / 2 ^ (64 - k)) + lo % 2 ^ (64 - k)) * 2 ^ k := by rw [dm]
  rw [this, Nat.add_mul]
  have c1 : lo / 2 ^ (64 - k) * (2 ^ (64 - k) * 2 ^ k) = 2 ^ (64 - k) * (lo / 2 ^ (64 - k)) * 2 ^ k := by
    rw [← Nat.mul_assoc, Nat.mul_comm (lo / 2 ^ (64 - k))]
  have c2 : hi * 2 ^ k * (2 ^ (64 - k) * 2 ^ k) = hi * (2 ^ (64 - k) * 2 ^ k) * 2 ^ k := by
    rw [Nat.mul_right_comm]
  omega

end Go.Proofs.YtkpadahpepeaoaaDoor

/- math/bits.Div64: the quotient and the rest of two words through one; no condition but that the quotient fits. -/
namespace Go.Proofs.YtkpadahpepeaoaaDoor
open Go.RowKit
set_option maxRecDepth 100000


theorem wrap_u64 (n : Int) : IntKind.u64.wrap n = n % 18446744073709551616 := by simp [IntKind.wrap, IntKind.bits, IntKind.signed]

theorem wrap_three (A B C : Int) (h0 : 0 ≤ A + B - C) (h1 : A + B - C ≤ 18446744073709551615) : IntKind.u64.wrap (IntKind.u64.wrap (IntKind.u64.wrap A + B) - IntKind.u64.wrap C) = A + B - C := by
  simp only [wrap_u64]; omega

theorem wrap_two (A C : Int) (h0 : 0 ≤ A - C) (h1 : A - C ≤ 18446744073709551615) : IntKind.u64.wrap (A - IntKind.u64.wrap C) = A - C := by
  simp only [wrap_u64]; omega

set_option maxHeartbeats 1000000 in
theorem div64_core (hi lo y : Int) (w : World) (h1 : 0 ≤ hi) (h2 : hi < y) (h3 : 0 ≤ lo) (h4 : lo ≤ 18446744073709551615) (h5 : y ≤ 18446744073709551615) (hz : ¬ hi = 0)
    (k : Nat) (Y a b u v v1 v0 : Int) (hk : (k : Int) ≤ 63) (HS : Hid (64 - (Lib.bitLen y.toNat : Int) = k)) (eY : IntKind.u64.wrap (y * 2 ^ k) = Y)
    (ea : Y / 4294967296 = a) (eb : bits BinOp.and IntKind.u64 Y 4294967295 = b) (a1 : 2147483648 ≤ a) (a2 : a ≤ 4294967295) (b1 : 0 ≤ b) (b2 : b ≤ 4294967295) (HY : Hid (Y = a * 4294967296 + b)) (Y1 : 0 ≤ Y) (Y2 : Y ≤ 18446744073709551615)
    (eu : bits BinOp.or IntKind.u64 (IntKind.u64.wrap (hi * 2 ^ k)) (lo / 2 ^ (64 - k)) = u) (u1 : 0 ≤ u) (u2 : u < a * 4294967296 + b) (u3 : u ≤ 18446744073709551615)
    (ev : IntKind.u64.wrap (lo * 2 ^ k) = v) (ev1 : v / 4294967296 = v1) (ev0 : bits BinOp.and IntKind.u64 v 4294967295 = v0) (v10 : 0 ≤ v1) (v11 : v1 ≤ 4294967295) (v00 : 0 ≤ v0) (v01 : v0 ≤ 4294967295) (v2 : 0 ≤ v) (v3 : v ≤ 18446744073709551615) :
    Calls Tryd.prog 96 #[.int .u64 hi, .int .u64 lo, .int .u64 y] w fun e w' => e = .returned (.tuple #[.int .u64 ((u * 18446744073709551616 + (v1 * 4294967296 + v0)) / Y), .int .u64 ((u * 18446744073709551616 + (v1 * 4294967296 + v0)) % Y / 2 ^ k)]) ∧ w = w' := by
    have hy : 0 < y := by omega
    have I := DInv.start a1 a2 b1 b2 u1 u2 v10 v11
    have er : IntKind.u64.wrap (u - IntKind.u64.wrap (u / a * a)) = u - u / a * a := wrap_two _ _ (by have := I.r0; omega) (by have := Int.mul_nonneg I.q0 (show 0 ≤ a by omega); omega)
    have r2 : u - u / a * a < 4294967296 := by
      have h1 := Int.emod_add_mul_ediv u a
      have h3 := Int.emod_lt_of_pos u (show 0 < a by omega)
      have h4 : u / a * a = a * (u / a) := Int.mul_comm _ _
      omega
    have r1 := I.r0
    have q1 := I.q0
    generalize hqq : u / a = q at *
    generalize hrr : u - q * a = r at *
    clear hrr
    have I' : DInv a b u v1 (u / a) r := by rw [hqq]; exact I
    have HI := Lib.hid I'
    clear I'
    go_enter Tryd.func96, Tryd.ntmps96
    go_upto_block 0 with (go_at_call 97; refine (Tryd.bits_LeadingZeros64 _ _ (by omega) (by omega)).mono ?_; rw [HS.out]; rintro e w' ⟨rfl, rfl⟩)
    clear eY ea eb eu ev ev1 ev0 er hqq
    go_cut [15, 16] (fun s15 s16 wx => ∃ q1 r1 : Int, s15 = .int .u64 q1 ∧ s16 = .int .u64 r1 ∧ DEnd a b u v1 q1 ∧ wx = w')
    case first =>
      go_wp2_with fail
      go_loop [15, 16] (fun s15 s16 => ∃ q r : Int, s15 = .int .u64 q ∧ s16 = .int .u64 r ∧ r < 4294967296 ∧ DInv a b u v1 q r) (fun s15 _ => (intOf s15).toNat)
      case atStart => exact ⟨_, _, rfl, rfl, r2, HI.out⟩
      case round =>
        obtain ⟨q, r, rfl, rfl, hr, J⟩ := hrel
        have j0 := J.q0
        have j1 := J.r0
        have j2 := J.qb
        by_cases hq : 4294967296 ≤ q
        · have N := J.next a1 a2 b1 b2 u2 v10 v11 (.inl hq)
          have n1 := N.1
          by_cases hr2 : 4294967296 ≤ r + a
          · go_wp2
            go_meet
            exact ⟨_, _, rfl, rfl, N.2.leave a1 b1 b2 u2 v10 v11 (by have := J.qb; omega) hr2, rfl⟩
          · go_wp2
            go_round
            case rel => exact ⟨_, _, rfl, rfl, by omega, N.2⟩
            case measure => simp [intOf]; omega
        · have hsm := J.small b1 b2 (by omega)
          obtain ⟨s0, s1⟩ := hsm
          by_cases hc : 4294967296 * r + v1 < q * b
          · have N := J.next a1 a2 b1 b2 u2 v10 v11 (.inr hc)
            have n1 := N.1
            by_cases hr2 : 4294967296 ≤ r + a
            · go_wp2
              go_meet
              exact ⟨_, _, rfl, rfl, N.2.leave a1 b1 b2 u2 v10 v11 (by have := J.qb; omega) hr2, rfl⟩
            · go_wp2
              go_round
              case rel => exact ⟨_, _, rfl, rfl, by omega, N.2⟩
              case measure => simp [intOf]; omega
          · go_wp2
            go_meet
            exact ⟨_, _, rfl, rfl, J.stop (by omega) (by omega), rfl⟩
    case rest =>
      obtain ⟨q1, r1, rfl, rfl, E, rfl⟩ := hcut
      clear HI I r2
      have y1 : q1 * Y = q1 * a * 4294967296 + q1 * b := by rw [HY.out, Int.mul_add, Int.mul_assoc]
      have w0 : 0 ≤ u * 4294967296 + v1 - q1 * Y := by have := E.lo; omega
      have w1 : u * 4294967296 + v1 - q1 * Y < a * 4294967296 + b := by have := E.up; omega
      have eun : IntKind.u64.wrap (IntKind.u64.wrap (IntKind.u64.wrap (u * 4294967296) + v1) - IntKind.u64.wrap (q1 * Y)) = u * 4294967296 + v1 - q1 * Y := wrap_three _ _ _ w0 (by have := HY.out; omega)
      have T := fun (q0 : Int) (h0 : DEnd a b (u * 4294967296 + v1 - q1 * Y) v0 q0) => two_digits (q0 := q0) HY.out E h0 (by have := HY.out; omega)
      clear y1
      generalize huu : u * 4294967296 + v1 - q1 * Y = u' at *
      have HU := Lib.hid huu
      clear huu
      have u2' := w1
      have I := DInv.start a1 a2 b1 b2 w0 w1 v00 v01
      have er : IntKind.u64.wrap (u' - IntKind.u64.wrap (u' / a * a)) = u' - u' / a * a := wrap_two _ _ (by have := I.r0; omega) (by have := Int.mul_nonneg I.q0 (show 0 ≤ a by omega); omega)
      have r2' : u' - u' / a * a < 4294967296 := by
        have h1 := Int.emod_add_mul_ediv u' a
        have h3 := Int.emod_lt_of_pos u' (show 0 < a by omega)
        have h4 : u' / a * a = a * (u' / a) := Int.mul_comm _ _
        omega
      have r1' := I.r0
      have q1' := I.q0
      generalize hqq : u' / a = q' at *
      generalize hrr : u' - q' * a = r' at *
      clear hrr
      have I' : DInv a b u' v0 (u' / a) r' := by rw [hqq]; exact I
      have HI2 := Lib.hid I'
      clear I'
      go_upto_block 2 with fail
      clear er eun hqq
      go_cut [18, 16] (fun s18 s16 wx => ∃ q0 r1 : Int, s18 = .int .u64 q0 ∧ s16 = .int .u64 r1 ∧ DEnd a b u' v0 q0 ∧ wx = wc)
      case first =>
        go_wp2_with fail
        go_loop [18, 16] (fun s18 s16 => ∃ q r : Int, s18 = .int .u64 q ∧ s16 = .int .u64 r ∧ r < 4294967296 ∧ DInv a b u' v0 q r) (fun s18 _ => (intOf s18).toNat)
        case atStart => exact ⟨_, _, rfl, rfl, r2', HI2.out⟩
        case round =>
          obtain ⟨q, r, rfl, rfl, hr, J⟩ := hrel
          have j0 := J.q0
          have j1 := J.r0
          have j2 := J.qb
          by_cases hq : 4294967296 ≤ q
          · have N := J.next a1 a2 b1 b2 u2' v00 v01 (.inl hq)
            have n1 := N.1
            by_cases hr2 : 4294967296 ≤ r + a
            · go_wp2
              go_meet
              exact ⟨_, _, rfl, rfl, N.2.leave a1 b1 b2 u2' v00 v01 (by have := J.qb; omega) hr2, rfl⟩
            · go_wp2
              go_round
              case rel => exact ⟨_, _, rfl, rfl, by omega, N.2⟩
              case measure => simp [intOf]; omega
          · have hsm := J.small b1 b2 (by omega)
            obtain ⟨s0, s1⟩ := hsm
            by_cases hc : 4294967296 * r + v0 < q * b
            · have N := J.next a1 a2 b1 b2 u2' v00 v01 (.inr hc)
              have n1 := N.1
              by_cases hr2 : 4294967296 ≤ r + a
              · go_wp2
                go_meet
                exact ⟨_, _, rfl, rfl, N.2.leave a1 b1 b2 u2' v00 v01 (by have := J.qb; omega) hr2, rfl⟩
              · go_wp2
                go_round
                case rel => exact ⟨_, _, rfl, rfl, by omega, N.2⟩
                case measure => simp [intOf]; omega
            · go_wp2
              go_meet
              exact ⟨_, _, rfl, rfl, J.stop (by omega) (by omega), rfl⟩
      case rest =>
        obtain ⟨q0, r0, rfl, rfl, F, rfl⟩ := hcut
        obtain ⟨t1, t2⟩ := T q0 F
        have g1 : IntKind.u64.wrap (IntKind.u64.wrap (q1 * 4294967296) + q0) = q1 * 4294967296 + q0 := by
          have := E.q0; have := E.qb; have := F.q0; have := F.qb
          simp only [wrap_u64]; omega
        have y2 : q0 * Y = q0 * a * 4294967296 + q0 * b := by rw [HY.out, Int.mul_add, Int.mul_assoc]
        have w2 : 0 ≤ u' * 4294967296 + v0 - q0 * Y := by have := F.lo; omega
        have w3 : u' * 4294967296 + v0 - q0 * Y ≤ 18446744073709551615 := by have := F.up; have := HY.out; omega
        have g2 : IntKind.u64.wrap (IntKind.u64.wrap (IntKind.u64.wrap (u' * 4294967296) + v0) - IntKind.u64.wrap (q0 * Y)) = u' * 4294967296 + v0 - q0 * Y := wrap_three _ _ _ w2 w3
        have T1 := Lib.hid t1
        have T2 := Lib.hid t2
        clear t1 t2 y2 T
        generalize u' * 4294967296 + v0 - q0 * Y = R at *
        clear g1
        have q5 := E.q0
        have q6 := E.qb
        have q7 := F.q0
        have q8 := F.qb
        go_wp2
        go_ret2
        exact ⟨by rw [← T1.out, ← T2.out]; rfl, rfl⟩

theorem masked (x : Int) (h0 : 0 ≤ x) (h1 : x ≤ 18446744073709551615) : bits BinOp.and IntKind.u64 x 4294967295 = x % 4294967296 := by
  have := bits_mask IntKind.u64 64 (by simp [IntKind.bits]) (fun n h0 h1 => by rw [wrap_u64]; omega) 32 (by omega) x h0 (by omega)
  simpa using this

theorem div64_any (hi lo y : Int) (w : World) (h1 : 0 ≤ hi) (h2 : hi < y) (h3 : 0 ≤ lo) (h4 : lo ≤ 18446744073709551615) (h5 : y ≤ 18446744073709551615) :
    Calls Tryd.prog 96 #[.int .u64 hi, .int .u64 lo, .int .u64 y] w fun e w' => e = .returned (.tuple #[.int .u64 ((hi * 18446744073709551616 + lo) / y), .int .u64 ((hi * 18446744073709551616 + lo) % y)]) ∧ ∃ n, w' = w.drewN n := by
  have hy : 0 < y := by omega
  by_cases hz : hi = 0
  · subst hz
    go_enter Tryd.func96, Tryd.ntmps96
    go_wp2
    go_quiet (fail)
    go_wp2
    go_ret2
    exact ⟨by simp, _, rfl⟩
  · obtain ⟨H, rfl⟩ := Int.eq_ofNat_of_zero_le h1
    obtain ⟨L, rfl⟩ := Int.eq_ofNat_of_zero_le h3
    obtain ⟨y', rfl⟩ := Int.eq_ofNat_of_zero_le (show 0 ≤ y by omega)
    obtain ⟨k, hk, hb, k1, k2⟩ := bits_pow y' (by omega) (by omega)
    obtain ⟨s1, s2, s3, s4, s5⟩ := shift_two H L y' k hk k2 (by omega) (by omega)
    have c1 : ((y' : Int) * 2 ^ k) = ((y' * 2 ^ k : Nat) : Int) := by simp
    have c2 : ((H : Int) * 2 ^ k) = ((H * 2 ^ k : Nat) : Int) := by simp
    have c3 : ((L : Int) / 2 ^ (64 - k)) = ((L / 2 ^ (64 - k) : Nat) : Int) := by simp
    have c4 : ((L : Int) * 2 ^ k) = ((L * 2 ^ k : Nat) : Int) := by simp
    have eY : IntKind.u64.wrap ((y' : Int) * 2 ^ k) = ((y' * 2 ^ k : Nat) : Int) := by rw [c1, wrap_u64]; omega
    have eu : bits BinOp.or IntKind.u64 (IntKind.u64.wrap ((H : Int) * 2 ^ k)) ((L : Int) / 2 ^ (64 - k)) = ((H * 2 ^ k + L / 2 ^ (64 - k) : Nat) : Int) := by
      have e1 : IntKind.u64.wrap ((H : Int) * 2 ^ k) = ((H * 2 ^ k : Nat) : Int) := by rw [c2, wrap_u64]; omega
      have := (bits_nat IntKind.u64 64 (by simp [IntKind.bits]) (fun n h0 h1 => by rw [wrap_u64]; omega) (H * 2 ^ k) (L / 2 ^ (64 - k)) s1 (by omega)).2
      rw [e1, c3, this, s3]
    have ev : IntKind.u64.wrap ((L : Int) * 2 ^ k) = ((L * 2 ^ k % 18446744073709551616 : Nat) : Int) := by rw [c4, wrap_u64]; omega
    have core := div64_core H L y' w h1 h2 h3 h4 h5 hz k _ _ _ _ _ _ _ (by omega) (show Hid _ from (show 64 - (Lib.bitLen (y' : Int).toNat : Int) = k by simpa using hb)) eY rfl (masked _ (by omega) (by omega)) (by omega) (by omega) (by omega) (by omega) (show Hid _ from (show _ = _ from by omega)) (by omega) (by omega)
      eu (by omega) (by omega) (by omega) ev rfl (masked _ (by omega) (by omega)) (by omega) (by omega) (by omega) (by omega) (by omega) (by omega)
    refine core.mono ?_
    rintro e w' ⟨he, rfl⟩
    have hp : (0 : Nat) < 2 ^ k := Nat.two_pow_pos _
    refine ⟨?_, 0, rfl⟩
    rw [he]
    generalize L * 2 ^ k % 18446744073709551616 = V at *
    generalize L / 2 ^ (64 - k) = LL at *
    have e5 : (((H * 2 ^ k + LL : Nat) : Int) * 18446744073709551616 + ((V : Int) / 4294967296 * 4294967296 + (V : Int) % 4294967296)) = (((H * 18446744073709551616 + L) * 2 ^ k : Nat) : Int) := by
      rw [← s5]; omega
    have e6 : ((H : Int) * 18446744073709551616 + (L : Int)) = ((H * 18446744073709551616 + L : Nat) : Int) := by simp
    rw [e5, e6]
    have e7 : (((H * 18446744073709551616 + L) * 2 ^ k : Nat) : Int) / ((y' * 2 ^ k : Nat) : Int) = ((H * 18446744073709551616 + L : Nat) : Int) / (y' : Int) := by
      rw [← Int.natCast_ediv, ← Int.natCast_ediv, Nat.mul_div_mul_right _ _ hp]
    have e8 : (((H * 18446744073709551616 + L) * 2 ^ k : Nat) : Int) % ((y' * 2 ^ k : Nat) : Int) / 2 ^ k = ((H * 18446744073709551616 + L : Nat) : Int) % (y' : Int) := by
      have e9 : ((2 : Int) ^ k) = ((2 ^ k : Nat) : Int) := by simp
      rw [e9, ← Int.natCast_emod, ← Int.natCast_emod, ← Int.natCast_ediv, Nat.mul_mod_mul_right, Nat.mul_div_cancel _ hp]
    rw [e7, e8]

end Go.Proofs.YtkpadahpepeaoaaDoor

/- A region that draws its order, walked in one order of its own: what only reads is taken first, what changes the world comes up in the one order that is left. -/
namespace Go.Proofs.YtkpadahpepeaoaaDoor
open Go Go.RowKit

/-- A later world: all that was there is as it was. -/
def Later (w w' : World) : Prop := Below w.heap.size w w'

theorem Later.refl (w : World) : Later w w := Below.refl _ _
theorem Later.trans {a b c : World} (h : Later a b) (k : Later b c) : Later a c := Below.trans h (Below.mono k h.size)
theorem Later.drewN {a b : World} (h : Later a b) (n : Nat) : Later a (b.drewN n) := Below.trans h ⟨rfl, rfl, rfl, Nat.le_refl _, fun _ _ => rfl⟩
theorem Later.drew {a b : World} (h : Later a b) : Later a b.drew := Below.drew h
theorem Later.alloc {a b : World} (h : Later a b) (o : Obj) : Later a (b.alloc o) := Below.alloc h h.size o

open Classical in
/-- Some later world, as a function: so that a class of worlds is an image. -/
noncomputable def after (w u : World) : World := if Later w u then u else w

theorem after_later (w u : World) : Later w (after w u) := by
  unfold after
  split
  · assumption
  · exact Later.refl w

theorem after_of {w u : World} (h : Later w u) : after w u = u := by unfold after; rw [if_pos h]

@[go_sem] theorem after_cell (w u : World) (a : Addr) (h : (w.cell? a).isSome = true) : (after w u).cell? a = w.cell? a := by
  obtain ⟨v, hv⟩ := Option.isSome_iff_exists.1 h
  exact (after_later w u).cell (World.block_lt_of_cell? w a hv)

@[go_sem] theorem after_heap (w u : World) (k : Nat) (h : (w.heap[k]?).isSome = true) : (after w u).heap[k]? = w.heap[k]? := by
  refine (after_later w u).block k ?_
  rcases Nat.lt_or_ge k w.heap.size with h' | h'
  · exact h'
  · simp [Array.getElem?_eq_none h'] at h

def Aft (w : World) : World → Prop := fun w' => ∃ u, w' = after w u
theorem aft_iff {w w' : World} : Aft w w' ↔ Later w w' :=
  ⟨fun ⟨u, h⟩ => by rw [h]; exact after_later w u, fun h => ⟨w', (after_of h).symm⟩⟩

section
variable {P : Program} {ops : Array Oper} {Q : Exit → Act → World → Prop} {md : Region.Mode}

/-- An operation that is none of a call, a send, a defer ..: what it yields is a value, or nothing. -/
def readerKind (o : Oper) : Bool :=
  match o.op with
  | .move _ | .assign _ | .pick .. | .build .. | .load .. | .binOp .. | .unOp .. | .convert .. | .slice .. | .fieldAddr .. | .field .. | .indexAddr .. | .index .. | .lookup .. | .extract .. | .makeInterface .. | .makeFunc .. => true
  | _ => false

theorem Sem_bind_value {α : Type} {s : Sem α} {f : α → Value} {w w' : World} {n : Next} (h : (do pure (Next.value (f (← s))) : Sem Next).run P w = .ok n w') : ∃ v, n = .value v := by
  simp only [Sem.run_bind] at h
  generalize s.run P w = r at h
  cases r with
  | ok x w'' => simp at h; exact ⟨f x, h.1.symm⟩
  | halt x w'' => simp at h

theorem reader_value {o : Oper} (ho : readerKind o = true) {ρ : Operand → Value} {w w' : World} {n : Next} (h : (execOp ρ o).run P w = .ok n w') : ∃ v, n = .value v := by
  unfold readerKind at ho
  unfold execOp at h
  generalize o.op = op at *
  cases op <;> simp only [Bool.false_eq_true] at ho <;> simp only at h <;> first | exact Sem_bind_value (f := fun x => x) h | exact Sem_bind_value h | (simp at h; exact ⟨_, h.1.symm⟩)

/-- What a reader yields in every world of a class: a value, and the world is as it was. -/
theorem reader_quiet {o : Oper} (ho : readerKind o = true) {a : Act} {C : World → Prop} {w : World} {v : Value} (h : o.quietAt P a C w v) : (execOp a.eval o).run P w = .ok (.value v) w := by
  unfold Oper.quietAt at h
  generalize hr : (execOp a.eval o).run P w = r at h
  cases r with
  | ok n w' =>
    obtain ⟨u, rfl⟩ := reader_value ho hr
    simp only [Oper.quietUpon] at h
    rw [h.1, h.2]
  | halt x w' => simp only [Oper.quietUpon] at h

/-- Past the index t all is over: every operation up to it has come up. -/
def Past (t : Nat) (l : Array Bool) : Prop := ∀ j, j ≤ t → l.getD j false = true

theorem Past.set {t : Nat} {l : Array Bool} (h : Past t l) (i : Nat) : Past t (l.setIfInBounds i true) := fun j hj => getD_set_true (h j hj)

/-- Whatever order is picked from here on, and the world is of the class till index t has come up. -/
def wpAnyT (P : Program) (md : Region.Mode) (ops : Array Oper) (Q : Exit → Act → World → Prop) (C : World → Prop) (t : Nat) : Nat → Array Bool → Act → World → Prop
  | 0, listed, a, w => Region.ready md ops listed = [] ∧ Q .normal a w
  | fuel + 1, listed, a, w =>
    (Region.ready md ops listed = [] → Q .normal a w) ∧
    ∀ i ∈ Region.ready md ops listed, wpOp P ops Q i (fun a' w' => (Past t (listed.setIfInBounds i true) ∨ C w') ∧ wpAnyT P md ops Q C t fuel (listed.setIfInBounds i true) a' w') a w

theorem wpAny_of_T {C : World → Prop} {t : Nat} : ∀ (fuel : Nat) (listed : Array Bool) (a : Act) (w : World), wpAnyT P md ops Q C t fuel listed a w → wpAny P md ops Q fuel listed a w
  | 0, _, _, _, h => h
  | fuel + 1, _, _, _, h => ⟨h.1, fun i hi => wpOp_mono (fun a' w' h' => wpAny_of_T fuel _ a' w' h'.2) (h.2 i hi)⟩

theorem wpAnyT_mono {C C' : World → Prop} {t : Nat} (hC : ∀ w, C w → C' w) : ∀ (fuel : Nat) (listed : Array Bool) (a : Act) (w : World), wpAnyT P md ops Q C t fuel listed a w → wpAnyT P md ops Q C' t fuel listed a w
  | 0, _, _, _, h => h
  | fuel + 1, _, _, _, h => ⟨h.1, fun i hi => wpOp_mono (fun a' w' h' => ⟨h'.1.imp id (hC w'), wpAnyT_mono hC fuel _ a' w' h'.2⟩) (h.2 i hi)⟩

/-- A reader may be taken first. -/
theorem wpAnyT_first {C : World → Prop} {t i : Nat} {oi : Oper} {v : Value} (hi : ops[i]? = some oi) (hwt : ∀ ot, ops[t]? = some ot → ∃ e ∈ ot.after, Region.binds md e = true ∧ e.on = i) (hsel : ∀ (j : Nat) (o : Oper) cs b, ops[j]? = some o → o.op ≠ .select cs b)
    (hQ : ∀ c a w, Q (.panic c) (a.put oi.dst v) w → Q (.panic c) a w) :
    ∀ (fuel : Nat) (listed : Array Bool) (a : Act) (w : World),
      (∀ j oj, ops[j]? = some oj → j ≠ i → listed.getD j true = false → (∀ e ∈ oj.after, Region.binds md e = true → e.on ≠ i) → oi.apart ops oj = true) →
      i ∈ Region.ready md ops listed → listed.getD t false = false → YieldsIf P ops C oi v a → C w →
      wpAnyT P md ops Q C t fuel (listed.setIfInBounds i true) (a.put oi.dst v) w → wpAnyT P md ops Q C t (fuel + 1) listed a w := by
  intro fuel
  induction fuel with
  | zero =>
    intro listed a w _ hr _ hy hS H
    refine ⟨fun h => (by rw [h] at hr; cases hr), fun j hj => ?_⟩
    by_cases hji : j = i
    · subst hji; exact hy.wpOp hi hS ⟨.inr hS, H⟩
    · have := ready_mono hj hji
      rw [H.1] at this
      cases this
  | succ fuel ih =>
    intro listed a w hfree hr ht hy hS H
    refine ⟨fun h => (by rw [h] at hr; cases hr), fun j hj => ?_⟩
    by_cases hji : j = i
    · subst hji; exact hy.wpOp hi hS ⟨.inr hS, H⟩
    · have h1 := H.2 j (ready_mono hj hji)
      obtain ⟨hjun, oj, hoj, hall⟩ := mem_ready.1 hj
      have hiun : listed.getD i true = false := (mem_ready.1 hr).1
      have hiun' : (listed.setIfInBounds j true).getD i false = false := by
        rw [getD_set_ne false hji]
        rcases Nat.lt_or_ge i listed.size with h' | h'
        · simp [h'] at hiun ⊢; exact hiun
        · simp [Array.getElem?_eq_none h'] at hiun
      have hnot : ∀ e ∈ oj.after, Region.binds md e = true → e.on ≠ i := fun e he hb heq => by
        have h1 := hall e he hb
        rw [heq] at h1
        rcases Nat.lt_or_ge i listed.size with h' | h'
        · simp [h'] at hiun h1; rw [hiun] at h1; cases h1
        · simp [Array.getElem?_eq_none h'] at h1
      have h2 := wpOp_putIf hoj (hfree j oj hoj hji hjun hnot) (fun cs b => hsel i oi cs b hi) (fun cs b => hsel j oj cs b hoj) hQ hy h1
      have hfree' : ∀ k ok, ops[k]? = some ok → k ≠ i → (listed.setIfInBounds j true).getD k true = false →
          (∀ e ∈ ok.after, Region.binds md e = true → e.on ≠ i) → oi.apart ops ok = true := fun k ok hk hki hun hno => by
        refine hfree k ok hk hki ?_ hno
        by_cases hjk : j = k
        · subst hjk; exact hjun
        · rw [getD_set_ne true hjk] at hun; exact hun
      have hjt : j ≠ t := fun e => by
        subst e
        obtain ⟨e, he, hb, ho⟩ := hwt oj hoj
        exact hnot e he hb ho
      have hit : i ≠ t := fun e => by
        subst e
        obtain ⟨e, he, hb, ho⟩ := hwt oi hi
        obtain ⟨_, o', ho', hall'⟩ := mem_ready.1 hr
        rw [hi] at ho'
        cases ho'
        have := hall' e he hb
        rw [ho] at this
        rw [this] at ht
        cases ht
      refine wpOp_mono (fun a' w' h3 => ?_) h2
      have hC' : C w' := by
        refine h3.2.1.resolve_left fun hp => ?_
        have := hp t (Nat.le_refl t)
        rw [getD_set_ne false hjt, getD_set_ne false hit, ht] at this
        cases this
      have ht' : (listed.setIfInBounds j true).getD t false = false := by rw [getD_set_ne false hjt]; exact ht
      refine ⟨.inr hC', ih (listed.setIfInBounds j true) a' w' hfree' (ready_mono hr (Ne.symm hji)) ht' h3.1 hC' ?_⟩
      rw [Array.setIfInBounds_comm _ _ hji]
      exact h3.2.2

/-- A plan: rows of readers, and behind each row the operations that may come up next, each with the plan behind it. -/
inductive Plan where
  | done (last : List Nat)
  | one (row : List Nat) (i : Nat) (ri : Plan)
  | two (row : List Nat) (i : Nat) (ri : Plan) (j : Nat) (rj : Plan)
  | three (row : List Nat) (i : Nat) (ri : Plan) (j : Nat) (rj : Plan) (k : Nat) (rk : Plan)

def pick (ops : Array Oper) : List Nat → List Oper
  | [] => []
  | i :: l => (ops[i]?).toList ++ pick ops l

theorem pick_nil : pick ops [] = [] := rfl
theorem pick_cons (i : Nat) (l : List Nat) : pick ops (i :: l) = (ops[i]?).toList ++ pick ops l := rfl
theorem toList_some_append {α : Type} (x : α) (l : List α) : (some x).toList ++ l = x :: l := rfl

/-- What stands behind an operation that changes the world. -/
def stagePost (Q : Exit → Act → World → Prop) (R : Act → World → Prop) : Exit → Act → World → Prop
  | .normal, a, w => R a w
  | e, a, w => Q e a w

def wpPlan (P : Program) (ops : Array Oper) (t : Nat) (Q : Exit → Act → World → Prop) : Plan → Act → World → Prop
  | .done last, a, w => wpQuiet P ops (Aft w) (fun a' => Q .normal a' w) (pick ops last) a
  | .one l i ri, a, w =>
    wpQuiet P ops (Aft w) (fun a' => wpList P ops (stagePost Q fun a'' w'' => (i < t → Later w w'') ∧ wpPlan P ops t Q ri a'' w'') (pick ops [i]) a' w) (pick ops l) a
  | .two l i ri j rj, a, w =>
    wpQuiet P ops (Aft w) (fun a' => wpList P ops (stagePost Q fun a'' w'' => (i < t → Later w w'') ∧ wpPlan P ops t Q ri a'' w'') (pick ops [i]) a' w ∧
      wpList P ops (stagePost Q fun a'' w'' => (j < t → Later w w'') ∧ wpPlan P ops t Q rj a'' w'') (pick ops [j]) a' w) (pick ops l) a
  | .three l i ri j rj k rk, a, w =>
    wpQuiet P ops (Aft w) (fun a' => wpList P ops (stagePost Q fun a'' w'' => (i < t → Later w w'') ∧ wpPlan P ops t Q ri a'' w'') (pick ops [i]) a' w ∧
      wpList P ops (stagePost Q fun a'' w'' => (j < t → Later w w'') ∧ wpPlan P ops t Q rj a'' w'') (pick ops [j]) a' w ∧
      wpList P ops (stagePost Q fun a'' w'' => (k < t → Later w w'') ∧ wpPlan P ops t Q rk a'' w'') (pick ops [k]) a' w) (pick ops l) a

/-- The Bool over the steps: of a row of readers. -/
def okRow (md : Region.Mode) (ops : Array Oper) (t : Nat) : List Nat → Array Bool → Bool
  | [], _ => true
  | i :: l, listed =>
    ((Region.ready md ops listed).contains i && Region.free md ops listed i && decide (i < ops.size) && (match ops[i]? with | some o => readerKind o | none => false) &&
      (match ops[t]? with | some ot => ot.after.any (fun e => Region.binds md e && e.on == i) | none => true) && !listed.getD t false) && okRow md ops t l (listed.setIfInBounds i true)

def setAll (l : List Nat) (listed : Array Bool) : Array Bool := l.foldl (fun x i => x.setIfInBounds i true) listed

/-- Readers behind the sealed operation: no other operation may come up. -/
def okTail (md : Region.Mode) (ops : Array Oper) : List Nat → Array Bool → Bool
  | [], listed => Region.ready md ops listed == []
  | i :: l, listed => Region.ready md ops listed == [i] && (match ops[i]? with | some o => readerKind o | none => false) && okTail md ops l (listed.setIfInBounds i true)

def okEff (t : Nat) (l : List Nat) (i : Nat) (listed : Array Bool) : Bool :=
  decide (i < t) || (List.range (t + 1)).all (fun j => (setAll (l ++ [i]) listed).getD j false)

def okPlan (md : Region.Mode) (ops : Array Oper) (t : Nat) : Plan → Array Bool → Bool
  | .done last, listed => okTail md ops last listed || (okRow md ops t last listed && Region.ready md ops (setAll last listed) == [])
  | .one l i ri, listed => okRow md ops t l listed && (Region.ready md ops (setAll l listed) == [i]) && okEff t l i listed && okPlan md ops t ri (setAll (l ++ [i]) listed)
  | .two l i ri j rj, listed => okRow md ops t l listed && (Region.ready md ops (setAll l listed) == [i, j]) && okEff t l i listed && okPlan md ops t ri (setAll (l ++ [i]) listed) &&
      okEff t l j listed && okPlan md ops t rj (setAll (l ++ [j]) listed)
  | .three l i ri j rj k rk, listed => okRow md ops t l listed && (Region.ready md ops (setAll l listed) == [i, j, k]) && okEff t l i listed && okPlan md ops t ri (setAll (l ++ [i]) listed) &&
      okEff t l j listed && okPlan md ops t rj (setAll (l ++ [j]) listed) && okEff t l k listed && okPlan md ops t rk (setAll (l ++ [k]) listed)

def Plan.has (n : Nat) : Plan → Bool
  | .done last => last.length == n
  | .one l _ ri => decide (l.length + 1 ≤ n) && ri.has (n - (l.length + 1))
  | .two l _ ri _ rj => decide (l.length + 1 ≤ n) && ri.has (n - (l.length + 1)) && rj.has (n - (l.length + 1))
  | .three l _ ri _ rj _ rk => decide (l.length + 1 ≤ n) && ri.has (n - (l.length + 1)) && rj.has (n - (l.length + 1)) && rk.has (n - (l.length + 1))

theorem quiet_yields {o : Oper} (ho : readerKind o = true) {a : Act} {w : World} {K : Act → Prop} (hw : Region.wanted o (yielded ops a.tmps) = true) (h : o.quiet P a (Aft w) K) :
    ∃ v, YieldsIf P ops (Later w) o v a ∧ K (a.put o.dst v) := by
  obtain ⟨v, h1, h2⟩ := h
  exact ⟨v, .inl ⟨hw, fun w' hw' => reader_quiet ho (h1 w' (aft_iff.2 hw'))⟩, h2⟩

theorem wpQuiet_head {o : Oper} (ho : readerKind o = true) {a : Act} {w : World} {K : Act → Prop} {l : List Oper} (h : wpQuiet P ops (Aft w) K (o :: l) a) :
    ∃ v, YieldsIf P ops (Later w) o v a ∧ wpQuiet P ops (Aft w) K l (a.put o.dst v) := by
  by_cases hw : Region.wanted o (yielded ops a.tmps) = true
  · simp only [wpQuiet, hw, if_true] at h
    exact quiet_yields ho hw h
  · simp only [wpQuiet, hw] at h
    exact ⟨undef, .inr ⟨by simpa using hw, rfl⟩, h⟩

theorem run_row {t : Nat} {w : World} {K : Act → Prop} {f : Nat} (hs : Region.noSelect ops = true) (hQ : ∀ c a d v w, Q (.panic c) (Act.put a d v) w → Q (.panic c) a w) :
    ∀ (l : List Nat) (listed : Array Bool) (a : Act), okRow md ops t l listed = true → wpQuiet P ops (Aft w) K (pick ops l) a →
      (∀ a', K a' → wpAnyT P md ops Q (Later w) t f (setAll l listed) a' w) → wpAnyT P md ops Q (Later w) t (l.length + f) listed a w
  | [], listed, a, _, h, hk => by simpa [setAll] using hk a h
  | i :: l, listed, a, hb, h, hk => by
    simp only [okRow, Bool.and_eq_true, decide_eq_true_eq] at hb
    obtain ⟨⟨⟨⟨⟨⟨hr, hf⟩, hlt⟩, hk1⟩, hw1⟩, ht⟩, hb'⟩ := hb
    obtain ⟨o, ho⟩ : ∃ o, ops[i]? = some o := ⟨_, Array.getElem?_eq_getElem hlt⟩
    simp only [ho] at hk1
    have hp : pick ops (i :: l) = o :: pick ops l := by simp [pick, ho]
    rw [hp] at h
    obtain ⟨v, hy, h'⟩ := wpQuiet_head hk1 h
    have ih := run_row hs hQ l (listed.setIfInBounds i true) _ hb' h' (by simpa [setAll] using hk)
    have := wpAnyT_first (C := Later w) (t := t) (fuel := l.length + f) ho (fun ot hot => by
        simp only [hot] at hw1
        obtain ⟨e, he, hb⟩ := Array.any_eq_true'.1 hw1
        simp only [Bool.and_eq_true, beq_iff_eq] at hb
        exact ⟨e, he, hb.1, hb.2⟩) (Region.noSelect_spec hs) (fun c a w => hQ c a _ v w) listed a w (Region.free_spec ho hf) (by simpa using hr) (by simpa using ht) hy (Later.refl w) ih
    simpa [Nat.add_right_comm] using this

theorem wpAnyT_past {C C' : World → Prop} {t : Nat} : ∀ (fuel : Nat) (listed : Array Bool) (a : Act) (w : World), Past t listed → wpAnyT P md ops Q C t fuel listed a w → wpAnyT P md ops Q C' t fuel listed a w
  | 0, _, _, _, _, h => h
  | fuel + 1, _, _, _, hp, h => ⟨h.1, fun i hi => wpOp_mono (fun a' w' h' => ⟨.inl (hp.set i), wpAnyT_past fuel _ a' w' (hp.set i) h'.2⟩) (h.2 i hi)⟩

theorem letsOut_stage {R : Act → World → Prop} (h : LetsOut (stagePost Q R)) : LetsOut Q := h

theorem wp_of_stage {o : Oper} {a : Act} {w : World} {K : Act → World → Prop} {R : Act → World → Prop} (h : o.wp P a w K (stagePost Q R)) : o.wp P a w K Q := by
  unfold Oper.wp at *
  generalize (execOp a.eval o).run P w = r at *
  cases r with
  | ok n w' =>
    cases n <;> simp only [Oper.upon] at h ⊢ <;>
      first
        | exact h
        | exact Calls.mono h (fun e w'' he => by cases e <;> exact he)
  | halt x w' => cases x <;> simp only [Oper.upon] at h ⊢ <;> exact h

theorem run_one {i : Nat} {a : Act} {w : World} {C : World → Prop} {t f : Nat} {listed : Array Bool} {R : Act → World → Prop} (hi : i ∈ Region.ready md ops listed)
    (h : wpList P ops (stagePost Q R) (pick ops [i]) a w) (hR : ∀ a' w', R a' w' → (Past t (listed.setIfInBounds i true) ∨ C w') ∧ wpAnyT P md ops Q C t f (listed.setIfInBounds i true) a' w') :
    wpOp P ops Q i (fun a' w' => (Past t (listed.setIfInBounds i true) ∨ C w') ∧ wpAnyT P md ops Q C t f (listed.setIfInBounds i true) a' w') a w := by
  obtain ⟨_, o, ho, _⟩ := mem_ready.1 hi
  have hp : pick ops [i] = [o] := by simp [pick, ho]
  rw [hp] at h
  unfold wpOp
  simp only [ho]
  simp only [wpList] at h
  split
  · rename_i hw
    simp only [hw, if_true] at h
    rcases h with h | ⟨h1, h2⟩
    · exact .inl (wp_of_stage (Oper.wp_mono (fun a' w' h' => hR a' w' h') h))
    · exact .inr ⟨h1, letsOut_stage h2⟩
  · rename_i hw
    simp only [hw] at h
    exact hR _ _ h

theorem eff_next {i : Nat} {t f : Nat} {l : List Nat} {listed : Array Bool} {w : World} {R : Act → World → Prop} (hp : okEff t l i listed = true)
    (ih : ∀ a'' w'', R a'' w'' → wpAnyT P md ops Q (Later w'') t f (setAll (l ++ [i]) listed) a'' w'') (a'' : Act) (w'' : World) (h : (i < t → Later w w'') ∧ R a'' w'') :
    (Past t ((setAll l listed).setIfInBounds i true) ∨ Later w w'') ∧ wpAnyT P md ops Q (Later w) t f ((setAll l listed).setIfInBounds i true) a'' w'' := by
  have e1 : setAll (l ++ [i]) listed = (setAll l listed).setIfInBounds i true := by simp [setAll]
  have ih' := ih a'' w'' h.2
  unfold okEff at hp
  rw [e1] at ih' hp
  simp only [Bool.or_eq_true, decide_eq_true_eq, List.all_eq_true, List.mem_range] at hp
  rcases hp with hp | hp
  · exact ⟨.inr (h.1 hp), wpAnyT_mono (fun x hx => (h.1 hp).trans hx) _ _ _ _ ih'⟩
  · have hpast : Past t ((setAll l listed).setIfInBounds i true) := fun j hj => hp j (by omega)
    exact ⟨.inl hpast, wpAnyT_past _ _ _ _ hpast ih'⟩

theorem run_tail {w : World} {K : Act → Prop} {C : World → Prop} {t : Nat} (hC : C w) :
    ∀ (l : List Nat) (listed : Array Bool) (a : Act), okTail md ops l listed = true → wpQuiet P ops (Aft w) K (pick ops l) a → (∀ a', K a' → Q .normal a' w) → wpAnyT P md ops Q C t l.length listed a w
  | [], listed, a, hb, h, hk => ⟨by simpa [okTail] using hb, hk a h⟩
  | i :: l, listed, a, hb, h, hk => by
    simp only [okTail, Bool.and_eq_true, beq_iff_eq] at hb
    obtain ⟨⟨hr, hk1⟩, hb'⟩ := hb
    obtain ⟨_, o, ho, _⟩ := mem_ready.1 (show i ∈ Region.ready md ops listed by rw [hr]; simp)
    simp only [ho] at hk1
    have hp : pick ops (i :: l) = o :: pick ops l := by simp [pick, ho]
    rw [hp] at h
    obtain ⟨v, hy, h'⟩ := wpQuiet_head hk1 h
    have ih := run_tail (t := t) hC l (listed.setIfInBounds i true) _ hb' h' hk
    show wpAnyT P md ops Q C t (l.length + 1) listed a w
    unfold wpAnyT
    refine ⟨fun h0 => (by rw [h0] at hr; cases hr), fun j hj => ?_⟩
    rw [hr] at hj
    obtain rfl : j = i := by simpa using hj
    exact hy.wpOp ho (Later.refl w) ⟨.inr hC, ih⟩

theorem run_plan {t : Nat} (hs : Region.noSelect ops = true) (hQ : ∀ c a d v w, Q (.panic c) (Act.put a d v) w → Q (.panic c) a w) :
    ∀ (p : Plan) (n : Nat) (listed : Array Bool) (a : Act) (w : World), p.has n = true → okPlan md ops t p listed = true → wpPlan P ops t Q p a w → wpAnyT P md ops Q (Later w) t n listed a w
  | .done last, n, listed, a, w, hn, hb, h => by
    simp only [okPlan, Bool.or_eq_true, Bool.and_eq_true, beq_iff_eq] at hb
    simp only [Plan.has, beq_iff_eq] at hn
    simp only [wpPlan] at h
    subst hn
    rcases hb with hb | ⟨hb, he⟩
    · exact run_tail (C := Later w) (t := t) (Later.refl w) last listed a hb h (fun a' h => h)
    · exact run_row (f := 0) hs hQ last listed a hb h (fun a' h => ⟨he, h⟩)
  | .one l i ri, n, listed, a, w, hn, hb, h => by
    simp only [okPlan, Bool.and_eq_true, beq_iff_eq] at hb
    simp only [Plan.has, Bool.and_eq_true, decide_eq_true_eq] at hn
    obtain ⟨⟨⟨hrow, hr⟩, hp⟩, hi⟩ := hb
    obtain ⟨hn1, hn2⟩ := hn
    simp only [wpPlan] at h
    have := run_row (f := n - (l.length + 1) + 1) hs hQ l listed a hrow h (fun a' ha' => by
      unfold wpAnyT
      refine ⟨fun h0 => (by rw [h0] at hr; cases hr), fun j hj => ?_⟩
      have hj0 := hj
      rw [hr] at hj
      obtain rfl : j = i := by simpa using hj
      exact run_one hj0 ha' (eff_next hp (fun a'' w'' h' => run_plan hs hQ ri _ _ a'' w'' hn2 hi h')))
    rwa [show l.length + (n - (l.length + 1) + 1) = n by omega] at this
  | .two l i ri j rj, n, listed, a, w, hn, hb, h => by
    simp only [okPlan, Bool.and_eq_true, beq_iff_eq] at hb
    simp only [Plan.has, Bool.and_eq_true, decide_eq_true_eq] at hn
    obtain ⟨⟨⟨⟨⟨hrow, hr⟩, hp⟩, hi⟩, hp2⟩, hi2⟩ := hb
    obtain ⟨⟨hn1, hn2⟩, hn3⟩ := hn
    simp only [wpPlan] at h
    have := run_row (f := n - (l.length + 1) + 1) hs hQ l listed a hrow h (fun a' ha' => by
      unfold wpAnyT
      refine ⟨fun h0 => (by rw [h0] at hr; cases hr), fun k hk => ?_⟩
      have hk0 := hk
      rw [hr] at hk
      simp only [List.mem_cons, List.not_mem_nil, or_false] at hk
      rcases hk with rfl | rfl
      · exact run_one hk0 ha'.1 (eff_next hp (fun a'' w'' h' => run_plan hs hQ ri _ _ a'' w'' hn2 hi h'))
      · exact run_one hk0 ha'.2 (eff_next hp2 (fun a'' w'' h' => run_plan hs hQ rj _ _ a'' w'' hn3 hi2 h')))
    rwa [show l.length + (n - (l.length + 1) + 1) = n by omega] at this
  | .three l i ri j rj m rm, n, listed, a, w, hn, hb, h => by
    simp only [okPlan, Bool.and_eq_true, beq_iff_eq] at hb
    simp only [Plan.has, Bool.and_eq_true, decide_eq_true_eq] at hn
    obtain ⟨⟨⟨⟨⟨⟨⟨hrow, hr⟩, hp⟩, hi⟩, hp2⟩, hi2⟩, hp3⟩, hi3⟩ := hb
    obtain ⟨⟨⟨hn1, hn2⟩, hn3⟩, hn4⟩ := hn
    simp only [wpPlan] at h
    have := run_row (f := n - (l.length + 1) + 1) hs hQ l listed a hrow h (fun a' ha' => by
      unfold wpAnyT
      refine ⟨fun h0 => (by rw [h0] at hr; cases hr), fun k hk => ?_⟩
      have hk0 := hk
      rw [hr] at hk
      simp only [List.mem_cons, List.not_mem_nil, or_false] at hk
      rcases hk with rfl | rfl | rfl
      · exact run_one hk0 ha'.1 (eff_next hp (fun a'' w'' h' => run_plan hs hQ ri _ _ a'' w'' hn2 hi h'))
      · exact run_one hk0 ha'.2.1 (eff_next hp2 (fun a'' w'' h' => run_plan hs hQ rj _ _ a'' w'' hn3 hi2 h'))
      · exact run_one hk0 ha'.2.2 (eff_next hp3 (fun a'' w'' h' => run_plan hs hQ rm _ _ a'' w'' hn4 hi3 h')))
    rwa [show l.length + (n - (l.length + 1) + 1) = n by omega] at this

/-- **A region that asks the tape, by a plan of ours.** -/
theorem wp_region_plan {id : Nat} {a : Act} {w : World} (t : Nat) (p : Plan) (hm : P.follows .mixedOrders = true)
    (hB : (Region.noSelect ops && p.has ops.size && okPlan .any ops t p (Array.replicate ops.size false)) = true)
    (hQ : ∀ c a d v w, Q (.panic c) (Act.put a d v) w → Q (.panic c) a w) (h : wpPlan P ops t Q p a w.drew) : (Code.region id ops true).wp P Q a w := by
  simp only [Bool.and_eq_true] at hB
  obtain ⟨⟨hs, hn⟩, hb⟩ := hB
  exact wp_region_any hm (wpAny_of_T (C := Later w.drew) (t := t) _ _ _ _ (run_plan hs hQ p _ _ a _ hn hb h))


/-! The moves -/
theorem plan_done {t : Nat} {a : Act} {w : World} {last : List Nat}
    (h : ∀ K : Act → Prop, (∀ a', Q .normal a' w → K a') → wpQuiet P ops (fun x => ∃ u, x = after w u) K (pick ops last) a) : wpPlan P ops t Q (.done last) a w := by
  exact h _ (fun _ h => h)

/-- What stands behind one operation of a plan. -/
def Behind (P : Program) (ops : Array Oper) (t i : Nat) (Q : Exit → Act → World → Prop) (w : World) (p : Plan) : Exit → Act → World → Prop :=
  stagePost Q fun a'' w'' => (i < t → Later w w'') ∧ wpPlan P ops t Q p a'' w''

theorem plan_one {t i : Nat} {a : Act} {w : World} {l : List Nat} {p : Plan} {o : Oper} (ho : ops[i]? = some o)
    (h : ∀ K : Act → Prop, (∀ a', wpList P ops (Behind P ops t i Q w p) [o] a' w → K a') → wpQuiet P ops (fun x => ∃ u, x = after w u) K (pick ops l) a) : wpPlan P ops t Q (.one l i p) a w := by
  refine h _ (fun a' h' => ?_)
  have hp : pick ops [i] = [o] := by simp [pick, ho]
  rw [hp]; exact h'

theorem plan_two {t i j : Nat} {a : Act} {w : World} {l : List Nat} {p q : Plan} {o u : Oper} (ho : ops[i]? = some o) (hu : ops[j]? = some u)
    (h : ∀ K : Act → Prop, (∀ a', (wpList P ops (Behind P ops t i Q w p) [o] a' w ∧ wpList P ops (Behind P ops t j Q w q) [u] a' w) → K a') → wpQuiet P ops (fun x => ∃ u, x = after w u) K (pick ops l) a) : wpPlan P ops t Q (.two l i p j q) a w := by
  refine h _ (fun a' h' => ?_)
  have hp : pick ops [i] = [o] := by simp [pick, ho]
  have hq : pick ops [j] = [u] := by simp [pick, hu]
  rw [hp, hq]; exact h'

theorem plan_three {t i j k : Nat} {a : Act} {w : World} {l : List Nat} {p q r : Plan} {o u x : Oper} (ho : ops[i]? = some o) (hu : ops[j]? = some u) (hx : ops[k]? = some x)
    (h : ∀ K : Act → Prop, (∀ a', (wpList P ops (Behind P ops t i Q w p) [o] a' w ∧ wpList P ops (Behind P ops t j Q w q) [u] a' w ∧ wpList P ops (Behind P ops t k Q w r) [x] a' w) → K a') → wpQuiet P ops (fun x => ∃ u, x = after w u) K (pick ops l) a) :
    wpPlan P ops t Q (.three l i p j q k r) a w := by
  refine h _ (fun a' h' => ?_)
  have hp : pick ops [i] = [o] := by simp [pick, ho]
  have hq : pick ops [j] = [u] := by simp [pick, hu]
  have hr : pick ops [k] = [x] := by simp [pick, hx]
  rw [hp, hq, hr]; exact h'

/-- Behind an operation of a plan: the world is a later one, and the plan goes on. -/
theorem behind {t i : Nat} {a : Act} {w w' : World} {p : Plan} (h1 : Later w w') (h2 : wpPlan P ops t Q p a w') : Behind P ops t i Q w p .normal a w' := ⟨fun _ => h1, h2⟩
/-- Behind the first store, to which all else has come up. -/
theorem behind_store {t i : Nat} {a : Act} {w w' : World} {p : Plan} (h1 : ¬ i < t) (h2 : wpPlan P ops t Q p a w') : Behind P ops t i Q w p .normal a w' := ⟨fun h => absurd h h1, h2⟩

theorem at_list {l : List Oper} {a : Act} {w : World} (h : wpList P ops Q l a w) : wpList P ops Q l a w := h

end
end Go.Proofs.YtkpadahpepeaoaaDoor

/- words of 64 bits: the library's products, sums and quotients, said over numbers -/
namespace Go.Proofs.YtkpadahpepeaoaaDoor
open Go.RowKit
set_option maxRecDepth 100000

theorem ret_int {k : IntKind} {a b : Int} (h : a = b) : Ending.returned (.int k a) = .returned (.int k b) := by rw [h]

theorem bcell {W w1 : World} (hb : Later W w1) : (∀ b o, b < W.heap.size → w1.cell? ⟨b, o, none⟩ = W.cell? ⟨b, o, none⟩) ∧ (∀ b o, b < W.heap.size → w1.frozen? ⟨b, o, none⟩ = W.frozen? ⟨b, o, none⟩) :=
  ⟨fun b o h => hb.cell (p := ⟨b, o, none⟩) h, fun b o h => hb.frozen (p := ⟨b, o, none⟩) h⟩

theorem Later.setCell {a b : World} (h : Later a b) {p : Addr} (hp : a.heap.size ≤ p.block) (u : Value) : Later a (b.setCell p u) := Below.setCell h hp u


theorem Later.size {a b : World} (h : Later a b) : a.heap.size ≤ b.heap.size := Below.size h
theorem Later.ofdrew {a b : World} (h : Later a b) : Later a.drew b := ⟨h.os, h.tape, h.output, Later.size (a := a) h, h.block⟩
theorem Later.ofdrewN {a b : World} {n : Nat} (h : Later a b) : Later (a.drewN n) b := ⟨h.os, h.tape, h.output, Later.size (a := a) h, h.block⟩
theorem Later.undrew {a b : World} (h : Later a.drew b) : Later a b := ⟨h.os, h.tape, h.output, Later.size (a := a.drew) h, h.block⟩
theorem Later.undrewN {a b : World} {n : Nat} (h : Later (a.drewN n) b) : Later a b := ⟨h.os, h.tape, h.output, Later.size (a := a.drewN n) h, h.block⟩

theorem Later.unalloc {a b : World} {o : Obj} (h : Later (a.alloc o) b) : Later a b := Later.trans ((Later.refl _).alloc _) h

/-- The call's own blocks, behind a call. -/
theorem own_block {W w' : World} (h : Later W w') {k : Nat} {A : Array Value} {t : TypeId} (hk : W.heap[k]? = some (.cells A t (0, 0))) : (∀ i, w'.cell? ⟨k, i, none⟩ = A[i]?) ∧ (∀ i, i < A.size → w'.frozen? ⟨k, i, none⟩ = false) := by
  have hlt : k < W.heap.size := by
    rcases Nat.lt_or_ge k W.heap.size with h' | h'
    · exact h'
    · simp [Array.getElem?_eq_none h'] at hk
  have e : w'.heap[k]? = some (.cells A t (0, 0)) := (h.block k hlt).trans hk
  refine ⟨fun i => ?_, fun i hi => ?_⟩
  · simp [World.cell?, e]
  · simp [World.frozen?, e]
theorem own1 {w w' : World} {A : Array Value} {ta : TypeId} (h : Later (w.alloc (.cells A ta)) w') :
    (∀ i, w'.cell? ⟨w.heap.size, i, none⟩ = A[i]?) ∧ (∀ i, i < A.size → w'.frozen? ⟨w.heap.size, i, none⟩ = false) ∧ w.heap.size + 1 ≤ w'.heap.size := by
  have h0 := own_block (A := A) (t := ta) (k := w.heap.size) h (MapKept.heap_alloc w _).1
  exact ⟨h0.1, h0.2, by simpa using h.size⟩
theorem use_of {p q : Prop} (h : p) (k : p → q) : q := k h
theorem use_own1 {w w' : World} {A : Array Value} {ta : TypeId} {q : Prop} (h : Later (w.alloc (.cells A ta)) w')
    (k : (∀ i, w'.cell? ⟨w.heap.size, i, none⟩ = A[i]?) → (∀ i, i < A.size → w'.frozen? ⟨w.heap.size, i, none⟩ = false) → w.heap.size < w'.heap.size → q) : q := k (own1 h).1 (own1 h).2.1 (own1 h).2.2
theorem own2 {w w' : World} {A B : Array Value} {ta tb : TypeId} (h : Later ((w.alloc (.cells A ta)).alloc (.cells B tb)) w') :
    (∀ i, w'.cell? ⟨w.heap.size, i, none⟩ = A[i]?) ∧ (∀ i, i < A.size → w'.frozen? ⟨w.heap.size, i, none⟩ = false) ∧
    (∀ i, w'.cell? ⟨w.heap.size + 1, i, none⟩ = B[i]?) ∧ (∀ i, i < B.size → w'.frozen? ⟨w.heap.size + 1, i, none⟩ = false) ∧ w.heap.size + 1 + 1 ≤ w'.heap.size := by
  have h1 := own1 h
  have h0 := own1 (w := w) (w' := w') (A := A) (ta := ta) (Later.trans ((Later.refl _).alloc _) h)
  simp only [World.size_alloc] at h1
  exact ⟨h0.1, h0.2.1, h1⟩
theorem own3 {w w' : World} {A B C : Array Value} {ta tb tc : TypeId} (h : Later (((w.alloc (.cells A ta)).alloc (.cells B tb)).alloc (.cells C tc)) w') :
    (∀ i, w'.cell? ⟨w.heap.size, i, none⟩ = A[i]?) ∧ (∀ i, i < A.size → w'.frozen? ⟨w.heap.size, i, none⟩ = false) ∧
    (∀ i, w'.cell? ⟨w.heap.size + 1, i, none⟩ = B[i]?) ∧ (∀ i, i < B.size → w'.frozen? ⟨w.heap.size + 1, i, none⟩ = false) ∧
    (∀ i, w'.cell? ⟨w.heap.size + 1 + 1, i, none⟩ = C[i]?) ∧ (∀ i, i < C.size → w'.frozen? ⟨w.heap.size + 1 + 1, i, none⟩ = false) ∧ w.heap.size + 1 + 1 + 1 ≤ w'.heap.size := by
  have h1 := own2 h
  have h0 := own1 (w := w) (w' := w') (A := A) (ta := ta) (Later.trans (((Later.refl _).alloc _).alloc _) h)
  simp only [World.size_alloc] at h1
  exact ⟨h0.1, h0.2.1, h1⟩

/-- The world at hand, under a name: whatever later one. -/
theorem wp_opaque {P : Program} {c : Code} {Q : Exit → Act → World → Prop} {a : Act} {W : World} (h : ∀ W', Later W W' → c.wp P Q a W') : c.wp P Q a W := h W (Later.refl W)
theorem set_own {w : World} {p k : Nat} {A : Array Value} (hc : ∀ i, w.cell? ⟨p, i, none⟩ = A[i]?) (x : Value) (hk : k < A.size) (i : Nat) : (w.setCell ⟨p, k, none⟩ x).cell? ⟨p, i, none⟩ = (A.setIfInBounds k x)[i]? := by
  by_cases h : k = i
  · subst h
    rw [World.cell?_setCell_same' _ _ _ (by rw [hc]; simp [hk])]
    simp [hk]
  · rw [World.cell?_setCell_other _ _ _ _ (fun e => h (by cases e; rfl)), hc]
    simp [Array.getElem?_setIfInBounds_ne h]
theorem set_far {w : World} {p b k : Nat} {A : Array Value} (hc : ∀ i, w.cell? ⟨b, i, none⟩ = A[i]?) (x : Value) (hb : p ≠ b) (i : Nat) : (w.setCell ⟨p, k, none⟩ x).cell? ⟨b, i, none⟩ = A[i]? := by
  rw [World.cell?_setCell_other _ _ _ _ (fun e => hb (by cases e; rfl)), hc]
theorem set_frozen {w : World} {p b k : Nat} {n : Nat} (hf : ∀ i, i < n → w.frozen? ⟨b, i, none⟩ = false) (x : Value) (i : Nat) (hi : i < n) : (w.setCell ⟨p, k, none⟩ x).frozen? ⟨b, i, none⟩ = false := by
  rw [World.frozen?_setCell, hf i hi]

def hi64 (M : Int) : Int := M / 18446744073709551616
def lo64 (M : Int) : Int := M % 18446744073709551616
def bor (x y : Int) : Int := if x < y then 1 else 0
theorem lo_bd (M : Int) : 0 ≤ lo64 M ∧ lo64 M ≤ 18446744073709551615 := by unfold lo64; omega
theorem hi_bd (M : Int) (h0 : 0 ≤ M) (h1 : M ≤ 340282366920938463463374607431768211455) : 0 ≤ hi64 M ∧ hi64 M ≤ 18446744073709551615 := by unfold hi64; omega
theorem bor_bd (x y : Int) : 0 ≤ bor x y ∧ bor x y ≤ 1 := by unfold bor; split <;> omega
theorem mul_bd {a b : Int} (a0 : 0 ≤ a) (a1 : a ≤ 18446744073709551615) (b0 : 0 ≤ b) (b1 : b ≤ 18446744073709551615) : 0 ≤ a * b ∧ a * b ≤ 340282366920938463426481119284349108225 :=
  ⟨Int.mul_nonneg a0 b0, Int.le_trans (Int.mul_le_mul a1 b1 b0 (by omega)) (by omega)⟩

theorem add64 (x y c : Int) (hx : 0 ≤ x) (hx' : x ≤ 18446744073709551615) (hy : 0 ≤ y) (hy' : y ≤ 18446744073709551615) (hc0 : 0 ≤ c) (hc : c ≤ 1) (w : World) : (callFunc 90 #[.int .u64 x, .int .u64 y, .int .u64 c]).run Tryd.prog w =
    .ok (.value (.tuple #[.int .u64 (lo64 (x + y + c)), .int .u64 (hi64 (x + y + c))])) w := by
  obtain ⟨x, rfl⟩ := Int.eq_ofNat_of_zero_le hx
  obtain ⟨y, rfl⟩ := Int.eq_ofNat_of_zero_le hy
  obtain ⟨c, rfl⟩ := Int.eq_ofNat_of_zero_le hc0
  rw [run_callFunc_extern Tryd.func90 (by kernel_rfl) (by kernel_rfl) (by kernel_rfl) (e := add64Entry) (by kernel_rfl), run_add64 x y c (by omega) (by omega) (by omega) (by omega)]
  simp only [Result.andThen]
  congr 5 <;> (unfold hi64 <;> unfold lo64 <;> omega)
theorem sub64 (x y b : Int) (hx : 0 ≤ x) (hx' : x ≤ 18446744073709551615) (hy : 0 ≤ y) (hy' : y ≤ 18446744073709551615) (hb0 : 0 ≤ b) (hb : b ≤ 1) (w : World) : (callFunc 92 #[.int .u64 x, .int .u64 y, .int .u64 b]).run Tryd.prog w =
    .ok (.value (.tuple #[.int .u64 (lo64 (x - y - b)), .int .u64 (bor x (y + b))])) w := by
  obtain ⟨x, rfl⟩ := Int.eq_ofNat_of_zero_le hx
  obtain ⟨y, rfl⟩ := Int.eq_ofNat_of_zero_le hy
  obtain ⟨b, rfl⟩ := Int.eq_ofNat_of_zero_le hb0
  have e1 : (((x + 18446744073709551616 - y - b) % 18446744073709551616 : Nat) : Int) = lo64 ((x : Int) - y - b) := by unfold lo64; omega
  have e2 : ((if x < y + b then 1 else 0 : Nat) : Int) = bor (x : Int) (y + b) := by unfold bor; split <;> split <;> omega
  rw [← e1, ← e2]
  rw [run_callFunc_extern Tryd.func92 (by kernel_rfl) (by kernel_rfl) (by kernel_rfl) (e := sub64Entry) (by kernel_rfl), run_sub64 x y b (by omega)]
  rfl
theorem add64_0 (x y : Int) (hx : 0 ≤ x) (hx' : x ≤ 18446744073709551615) (hy : 0 ≤ y) (hy' : y ≤ 18446744073709551615) (w : World) : (callFunc 90 #[.int .u64 x, .int .u64 y, .int .u64 0]).run Tryd.prog w =
    .ok (.value (.tuple #[.int .u64 (lo64 (x + y)), .int .u64 (hi64 (x + y))])) w := by
  simpa using add64 x y 0 hx hx' hy hy' (Int.le_refl 0) (by decide) w
theorem sub64_0 (x y : Int) (hx : 0 ≤ x) (hx' : x ≤ 18446744073709551615) (hy : 0 ≤ y) (hy' : y ≤ 18446744073709551615) (w : World) : (callFunc 92 #[.int .u64 x, .int .u64 y, .int .u64 0]).run Tryd.prog w =
    .ok (.value (.tuple #[.int .u64 (lo64 (x - y)), .int .u64 (bor x y)])) w := by
  simpa using sub64 x y 0 hx hx' hy hy' (Int.le_refl 0) (by decide) w

theorem mul64 (x y : Int) (w : World) (hx : 0 ≤ x) (hx' : x ≤ 18446744073709551615) (hy : 0 ≤ y) (hy' : y ≤ 18446744073709551615) :
    Calls Tryd.prog 95 #[.int .u64 x, .int .u64 y] w fun e w' => e = .returned (.tuple #[.int .u64 (hi64 (x * y)), .int .u64 (lo64 (x * y))]) ∧ w' = w := by
  obtain ⟨x, rfl⟩ := Int.eq_ofNat_of_zero_le hx
  obtain ⟨y, rfl⟩ := Int.eq_ofNat_of_zero_le hy
  refine (Tryd.bits_Mul64 x y (by omega) (by omega) w).mono fun e w' ⟨he, hw⟩ => ⟨?_, hw⟩
  rw [he]
  have e1 : hi64 ((x : Int) * y) = ((x * y / 18446744073709551616 : Nat) : Int) := by unfold hi64; simp
  have e2 : lo64 ((x : Int) * y) = ((x * y % 18446744073709551616 : Nat) : Int) := by unfold lo64; simp
  rw [e1, e2]

/-- The number that two words are. -/
def two64 (h l : Int) : Int := h * 18446744073709551616 + l
theorem two_parts (M : Int) : two64 (hi64 M) (lo64 M) = M := by unfold two64 hi64 lo64; omega

theorem div64 (hi lo y : Int) (w : World) (h1 : 0 ≤ hi) (h2 : hi < y) (h3 : 0 ≤ lo) (h4 : lo ≤ 18446744073709551615) (h5 : y ≤ 18446744073709551615) :
    Calls Tryd.prog 96 #[.int .u64 hi, .int .u64 lo, .int .u64 y] w fun e w' => e = .returned (.tuple #[.int .u64 (two64 hi lo / y), .int .u64 (two64 hi lo % y)]) ∧ Later w w' := by
  refine (div64_any hi lo y w h1 h2 h3 h4 h5).mono fun e w' ⟨he, n, hw⟩ => ⟨he, ?_⟩
  rw [hw]; exact (Later.refl w).drewN n
theorem dq_bd {hi lo y : Int} (h1 : 0 ≤ hi) (h2 : hi < y) (h3 : 0 ≤ lo) (h4 : lo ≤ 18446744073709551615) : 0 ≤ two64 hi lo / y ∧ two64 hi lo / y ≤ 18446744073709551615 ∧ 0 ≤ two64 hi lo % y ∧ two64 hi lo % y < y := by
  have hy : 0 < y := by omega
  unfold two64
  refine ⟨Int.ediv_nonneg (by omega) (by omega), ?_, Int.emod_nonneg _ (by omega), Int.emod_lt_of_pos _ hy⟩
  have : (hi * 18446744073709551616 + lo) / y < 18446744073709551616 := Int.ediv_lt_of_lt_mul hy (by omega)
  omega
end Go.Proofs.YtkpadahpepeaoaaDoor

/- plain: numbers as rows of bits; what a slice of them is in a world. -/
namespace Go.Proofs.YtkpadahpepeaoaaDoor
open Go.RowKit
set_option maxRecDepth 100000

/-- Bit i of n. -/
def bit (n i : Nat) : Int := ((n / 2 ^ i % 2 : Nat) : Int)
/-- How many bits n has. -/
def nlen (n : Nat) : Nat := if n = 0 then 0 else n.log2 + 1

theorem bit_cases (n i : Nat) : bit n i = 0 ∨ bit n i = 1 := by unfold bit; omega
theorem bit_high {n L i : Nat} (h : n < 2 ^ L) (hi : L ≤ i) : bit n i = 0 := by
  unfold bit
  have : 2 ^ L ≤ 2 ^ i := Nat.pow_le_pow_right (by omega) hi
  rw [Nat.div_eq_of_lt (by omega)]; rfl
theorem nlen_zero : nlen 0 = 0 := rfl
theorem lt_nlen (n : Nat) : n < 2 ^ nlen n := by
  unfold nlen; split
  · omega
  · exact Nat.lt_log2_self
theorem nlen_le {n L : Nat} (h : n < 2 ^ L) : nlen n ≤ L := by
  unfold nlen; split
  · omega
  · rename_i h0
    exact (Nat.log2_lt h0).2 h
theorem le_nlen {n L : Nat} (h : 2 ^ L ≤ n) : L + 1 ≤ nlen n := by
  have h1 := lt_nlen n
  have h2 : 2 ^ L < 2 ^ nlen n := by omega
  exact (Nat.pow_lt_pow_iff_right (by omega)).1 h2
theorem nlen_eq {n L : Nat} (h : n < 2 ^ L) (h2 : L = 0 ∨ 2 ^ (L - 1) ≤ n) : nlen n = L := by
  have := nlen_le h
  rcases h2 with h2 | h2
  · omega
  · have := le_nlen h2
    omega
theorem nlen_low {n : Nat} (h : 0 < n) : 2 ^ (nlen n - 1) ≤ n := by
  unfold nlen; split
  · omega
  · rw [Nat.add_sub_cancel]; exact Nat.log2_self_le (by omega)
theorem nlen_pos {n : Nat} : 0 < nlen n ↔ 0 < n := by
  unfold nlen; split <;> omega
theorem nlen_mono {n m : Nat} (h : n ≤ m) : nlen n ≤ nlen m := nlen_le (by have := lt_nlen m; omega)

/-- The next bit of what is left. -/
theorem div_step (n i : Nat) : n / 2 ^ i = 2 * (n / 2 ^ (i + 1)) + n / 2 ^ i % 2 := by
  rw [Nat.pow_succ, ← Nat.div_div_eq_div_mul]; omega
theorem mod_step (n i : Nat) : n % 2 ^ (i + 1) = n % 2 ^ i + 2 ^ i * (n / 2 ^ i % 2) := by
  rw [Nat.pow_succ, Nat.mod_mul]

/-- A slice holds the first L bits of n, which has no more. -/
def Row (w : World) (v : Value) (n L : Nat) : Prop :=
  n < 2 ^ L ∧ ((v = .slice none 0 0 ∧ L = 0) ∨
    ∃ b cap, v = .slice (some ⟨b, 0, none⟩) L cap ∧ b < w.heap.size ∧ L ≤ cap ∧ ∀ i, i < L → w.cell? ⟨b, i, none⟩ = some (.int .i64 (bit n i)))
/-- A slice is n: no nought is at its end. -/
def Num (w : World) (v : Value) (n : Nat) : Prop := Row w v n (nlen n)

theorem Row.later {w w' : World} {v : Value} {n L : Nat} (h : Row w v n L) (hb : Later w w') : Row w' v n L := by
  refine ⟨h.1, ?_⟩
  rcases h.2 with h2 | ⟨b, cap, h2, h3, h4, h5⟩
  · exact .inl h2
  · have := Later.size hb
    exact .inr ⟨b, cap, h2, by omega, h4, fun i hi => ((bcell hb).1 b i h3).trans (h5 i hi)⟩
theorem Num.later {w w' : World} {v : Value} {n : Nat} (h : Num w v n) (hb : Later w w') : Num w' v n := Row.later h hb

theorem Row.form {w : World} {v : Value} {n L : Nat} (h : Row w v n L) : ∃ p cap, v = .slice p L cap := by
  rcases h.2 with ⟨h1, h2⟩ | ⟨b, cap, h2, _⟩
  · subst h2; exact ⟨_, _, h1⟩
  · exact ⟨_, _, h2⟩
theorem Row.full {w : World} {v : Value} {n L : Nat} (h : Row w v n L) (hL : 0 < L) :
    ∃ b cap, v = .slice (some ⟨b, 0, none⟩) L cap ∧ b < w.heap.size ∧ L ≤ cap ∧ ∀ i, i < L → w.cell? ⟨b, i, none⟩ = some (.int .i64 (bit n i)) := by
  rcases h.2 with ⟨_, h2⟩ | h
  · omega
  · exact h

/-- -1, 0 or 1: by the order of numbers. -/
def cmpN (n m : Nat) : Int := if n < m then -1 else if n = m then 0 else 1
theorem cmpN_len {n m : Nat} (h : nlen n < nlen m) : cmpN n m = -1 := by
  have : n < m := by
    apply Classical.byContradiction; intro h1
    have := nlen_mono (show m ≤ n by omega)
    omega
  simp [cmpN, this]
theorem cmpN_len' {n m : Nat} (h : nlen m < nlen n) : cmpN n m = 1 := by
  have : m < n := by
    apply Classical.byContradiction; intro h1
    have := nlen_mono (show n ≤ m by omega)
    omega
  simp only [cmpN]; rw [if_neg (by omega), if_neg (by omega)]
theorem cmpN_bit {n m k : Nat} (h : n / 2 ^ (k + 1) = m / 2 ^ (k + 1)) (hb : bit n k ≠ bit m k) : cmpN n m = bit n k - bit m k := by
  have h1 := div_step n k
  have h2 := div_step m k
  have hp : 0 < 2 ^ k := Nat.pow_pos (by omega)
  have e1 := Nat.div_add_mod n (2 ^ k)
  have e2 := Nat.div_add_mod m (2 ^ k)
  have l1 := Nat.mod_lt n hp
  have l2 := Nat.mod_lt m hp
  unfold bit at hb ⊢
  rw [h] at h1
  rcases Nat.mod_two_eq_zero_or_one (n / 2 ^ k) with a | a <;> rcases Nat.mod_two_eq_zero_or_one (m / 2 ^ k) with b | b
  · simp [a, b] at hb
  · have : n < m := by
      rw [← e1, ← e2, h1, h2, a, b, Nat.mul_add, Nat.mul_add]; omega
    simp [cmpN, this, a, b]
  · have : m < n := by
      rw [← e1, ← e2, h1, h2, a, b, Nat.mul_add, Nat.mul_add]; omega
    simp only [cmpN]; rw [if_neg (by omega), if_neg (by omega)]; simp [a, b]
  · simp [a, b] at hb
theorem div_bit {n m k : Nat} (h : n / 2 ^ (k + 1) = m / 2 ^ (k + 1)) (hb : bit n k = bit m k) : n / 2 ^ k = m / 2 ^ k := by
  have h1 := div_step n k
  have h2 := div_step m k
  unfold bit at hb
  omega

theorem Num.nil (w : World) : Num w (.slice none 0 0) 0 := ⟨by rw [nlen_zero]; decide, .inl ⟨rfl, rfl⟩⟩
theorem Num.nought {w : World} {b cap : Nat} (hb : b < w.heap.size) : Num w (.slice (some ⟨b, 0, none⟩) 0 cap) 0 :=
  ⟨by rw [nlen_zero]; decide, .inr ⟨b, cap, rfl, hb, Nat.zero_le _, fun i hi => by rw [nlen_zero] at hi; omega⟩⟩
theorem bit_top0 {n k : Nat} (h : n < 2 ^ (k + 1)) (hb : bit n k = 0) : n < 2 ^ k := by
  unfold bit at hb
  have h0 : n / 2 ^ k < 2 := (Nat.div_lt_iff_lt_mul (Nat.pow_pos (by omega))).2 (by rw [Nat.pow_succ] at h; omega)
  have h1 : n / 2 ^ k = 0 := by
    generalize n / 2 ^ k = q at *; omega
  rcases Nat.div_eq_zero_iff.1 h1 with h2 | h2
  · have := Nat.pow_pos (show 0 < 2 by omega) (n := k); omega
  · exact h2
theorem bit_top1 {n k : Nat} (h : n < 2 ^ (k + 1)) (hb : bit n k = 1) : nlen n = k + 1 := by
  refine nlen_eq h (.inr ?_)
  rw [Nat.add_sub_cancel]
  apply Classical.byContradiction; intro hlt
  have : bit n k = 0 := bit_high (L := k) (by omega) (Nat.le_refl _)
  omega

/-- The cells of the first L bits. -/
def bitsV (n L : Nat) : List Value := (List.range L).map fun i => .int .i64 (bit n i)
theorem bitsV_zero (n : Nat) : bitsV n 0 = [] := rfl
theorem bitsV_succ (n L : Nat) : bitsV n (L + 1) = bitsV n L ++ [.int .i64 (bit n L)] := by simp [bitsV, List.range_succ]
theorem bitsV_len (n L : Nat) : (bitsV n L).length = L := by simp [bitsV]
theorem bitsV_get {n L i : Nat} (h : i < L) : (bitsV n L)[i]? = some (.int .i64 (bit n i)) := by simp [bitsV, h]

theorem Row.of_own {w : World} {base t L n : Nat} {v : Value} (h : w.ownsRow base t 1 v L (bitsV n L)) (hn : n < 2 ^ L) : Row w v n L := by
  refine ⟨hn, ?_⟩
  rcases h.2 with ⟨h1, h2⟩ | ⟨g, cap, cur, h1, h2, h3, h4, h5, h6, h7⟩
  · exact .inl ⟨h1, h2⟩
  · refine .inr ⟨g, cap, h1, (Array.getElem?_eq_some_iff.1 h3).1, h4, fun i hi => ?_⟩
    have := h.cells (g := g) (by subst h1; rfl) i _ (bitsV_get hi)
    have hadd : (⟨g, 0, none⟩ : Addr).add i = ⟨g, i, none⟩ := by unfold Addr.add; split <;> simp_all
    rw [← hadd]; exact this

/-- What grows by the call's own row is later. -/
theorem Later.grown {w w1 w2 : World} {row : Option Nat} (h : Later w w1) (hg : w1.grownBy w2 row) (hr : ∀ k, row = some k → w.heap.size ≤ k) : Later w w2 := by
  have hs := Later.size h
  refine ⟨hg.os.trans h.os, hg.tape.trans h.tape, hg.output.trans h.output, ?_, fun k hk => ?_⟩
  · have := hg.size; omega
  · exact (hg.block k (by omega) (fun e => by have := hr k e.symm; omega)).trans (h.block k hk)


/-- What is carried into bit i of a sum. -/
def car (a b i : Nat) : Int := ((a % 2 ^ i + b % 2 ^ i) / 2 ^ i : Nat)
/-- What is borrowed at bit i of a difference. -/
def bow (a b i : Nat) : Int := if a % 2 ^ i < b % 2 ^ i then 1 else 0
theorem car_zero (a b : Nat) : car a b 0 = 0 := by simp [car, Nat.mod_one]
theorem bow_zero (a b : Nat) : bow a b 0 = 0 := by simp [bow, Nat.mod_one]
theorem car_cases (a b i : Nat) : car a b i = 0 ∨ car a b i = 1 := by
  have hp : 0 < 2 ^ i := Nat.pow_pos (by omega)
  have l1 := Nat.mod_lt a hp
  have l2 := Nat.mod_lt b hp
  have h2 : (a % 2 ^ i + b % 2 ^ i) / 2 ^ i < 2 := (Nat.div_lt_iff_lt_mul hp).2 (by omega)
  unfold car
  generalize (a % 2 ^ i + b % 2 ^ i) / 2 ^ i = q at *
  omega
theorem bow_cases (a b i : Nat) : bow a b i = 0 ∨ bow a b i = 1 := by unfold bow; split <;> simp
theorem car_next (a b i : Nat) : bit a i + bit b i + car a b i = bit (a + b) i + 2 * car a b (i + 1) := by
  have hp : 0 < 2 ^ i := Nat.pow_pos (by omega)
  have e : (a % 2 ^ (i + 1) + b % 2 ^ (i + 1)) / 2 ^ (i + 1) = ((a % 2 ^ i + b % 2 ^ i) / 2 ^ i + a / 2 ^ i % 2 + b / 2 ^ i % 2) / 2 := by
    rw [mod_step a, mod_step b, Nat.pow_succ, ← Nat.div_div_eq_div_mul]
    rw [show a % 2 ^ i + 2 ^ i * (a / 2 ^ i % 2) + (b % 2 ^ i + 2 ^ i * (b / 2 ^ i % 2)) = (a % 2 ^ i + b % 2 ^ i) + 2 ^ i * (a / 2 ^ i % 2 + b / 2 ^ i % 2) by rw [Nat.mul_add]; omega]
    rw [Nat.add_mul_div_left _ _ hp]
    congr 1; omega
  have e2 : (a + b) / 2 ^ i = a / 2 ^ i + b / 2 ^ i + (a % 2 ^ i + b % 2 ^ i) / 2 ^ i := Nat.add_div hp |>.trans (by
    congr 1
    split
    · rename_i h
      have l1 := Nat.mod_lt a hp
      have l2 := Nat.mod_lt b hp
      exact (Nat.div_eq_of_lt_le (by omega) (by omega)).symm
    · rename_i h
      exact (Nat.div_eq_of_lt (by omega)).symm)
  unfold bit car
  rw [e, e2]
  generalize a / 2 ^ i = p
  generalize b / 2 ^ i = q
  generalize (a % 2 ^ i + b % 2 ^ i) / 2 ^ i = c
  omega
theorem bow_next {a b : Nat} (h : b ≤ a) (i : Nat) : bit a i - bit b i - bow a b i = bit (a - b) i - 2 * bow a b (i + 1) := by
  have hp : 0 < 2 ^ i := Nat.pow_pos (by omega)
  have ea := Nat.div_add_mod a (2 ^ i)
  have eb := Nat.div_add_mod b (2 ^ i)
  have la := Nat.mod_lt a hp
  have lb := Nat.mod_lt b hp
  have e : bow a b (i + 1) = if a / 2 ^ i % 2 < b / 2 ^ i % 2 then 1 else if a / 2 ^ i % 2 = b / 2 ^ i % 2 then bow a b i else 0 := by
    unfold bow
    rw [mod_step a, mod_step b]
    rcases Nat.mod_two_eq_zero_or_one (a / 2 ^ i) with x | x <;> rcases Nat.mod_two_eq_zero_or_one (b / 2 ^ i) with y | y <;> rw [x, y] <;> simp <;> omega
  have hq : b / 2 ^ i ≤ a / 2 ^ i := Nat.div_le_div_right h
  have e2 : ((a - b) / 2 ^ i : Nat) = (a / 2 ^ i : Nat) - (b / 2 ^ i : Nat) - bow a b i := by
    have hd : ((a - b : Nat) : Int) = (2 ^ i : Nat) * ((a / 2 ^ i : Nat) - (b / 2 ^ i : Nat) : Int) + ((a % 2 ^ i : Nat) - (b % 2 ^ i : Nat) : Int) := by
      rw [Int.mul_sub]
      have := congrArg (fun n : Nat => (n : Int)) ea
      have := congrArg (fun n : Nat => (n : Int)) eb
      simp only [Int.natCast_add, Int.natCast_mul] at *
      omega
    rw [Int.natCast_ediv, hd]
    have hpz : ((2 ^ i : Nat) : Int) ≠ 0 := by omega
    rw [Int.add_comm, Int.add_mul_ediv_left _ _ hpz]
    unfold bow
    split
    · rename_i hlt
      have : ((a % 2 ^ i : Nat) - (b % 2 ^ i : Nat) : Int) / (2 ^ i : Nat) = -1 := by
        rw [Int.ediv_eq_iff_of_pos (by omega)]
        omega
      omega
    · rename_i hlt
      have : ((a % 2 ^ i : Nat) - (b % 2 ^ i : Nat) : Int) / (2 ^ i : Nat) = 0 := Int.ediv_eq_zero_of_lt (by omega) (by omega)
      omega
  unfold bit
  rw [e]
  have hb := bow_cases a b i
  generalize a / 2 ^ i = p at *
  generalize b / 2 ^ i = q at *
  generalize (a - b) / 2 ^ i = r at *
  generalize bow a b i = c at *
  split
  · omega
  · split <;> omega
theorem car_end {a b i : Nat} (ha : a < 2 ^ i) (hb : b < 2 ^ i) : (car a b i = 0 → a + b < 2 ^ i) ∧ (car a b i ≠ 0 → 2 ^ i ≤ a + b) := by
  have hp : 0 < 2 ^ i := Nat.pow_pos (by omega)
  unfold car
  rw [Nat.mod_eq_of_lt ha, Nat.mod_eq_of_lt hb]
  constructor
  · intro h
    have : (a + b) / 2 ^ i = 0 := by omega
    rcases Nat.div_eq_zero_iff.1 this with h | h <;> omega
  · intro h
    apply Classical.byContradiction; intro hlt
    rw [Nat.div_eq_of_lt (by omega)] at h
    exact h rfl

end Go.Proofs.YtkpadahpepeaoaaDoor

/- rules of ours for rows that a call makes, and for its own variables. -/
namespace Go.Proofs.YtkpadahpepeaoaaDoor
open Go.RowKit
set_option maxRecDepth 100000

/-- What is known of a slice's type: its elements, how many cells one has, and how many bytes. -/
def SliceOf (P : Program) (t e : TypeId) (sz bytes : Nat) : Prop :=
  ∃ i z, P.underlying t = some (.slice e) ∧ P.info? e = some i ∧ i.zero = some z ∧ i.size = sz ∧ i.bytes = bytes ∧ z.cells.size = sz ∧ 0 < sz
theorem sliceOf_mk {P : Program} {t e : TypeId} {sz bytes : Nat} {z : Value} (ht : P.underlying t = some (.slice e)) (h : (P.info? e).map (fun i => (i.zero, i.size, i.bytes)) = some (some z, sz, bytes)) (hz : z.cells.size = sz) (h0 : 0 < sz) : SliceOf P t e sz bytes := by
  obtain ⟨i0, hi, hz0, hz1, hz2⟩ := info_parts h
  exact ⟨i0, z, ht, hi, hz0, hz1, hz2, hz, h0⟩

/-- A row that a call made: what was there at w0 is as it was. -/
def Mine (w0 : World) (e sz : Nat) (w : World) (v : Value) (n : Nat) (xs : List Value) : Prop := w.ownsRow w0.heap.size e sz v n xs ∧ Later w0 w

section
variable {P : Program} {w0 w : World} {e sz : Nat} {v : Value} {n : Nat} {xs : List Value}
theorem Mine.nil (h : Later w0 w) : Mine w0 e sz w (.slice none 0 0) 0 [] := ⟨World.ownsRow_nil _ _ _ _, h⟩
theorem Mine.lat (h : Mine w0 e sz w v n xs) : Later w0 w := h.2
theorem Mine.later {w' : World} (h : Mine w0 e sz w v n xs) (hb : Later w w') : Mine w0 e sz w' v n xs := by
  refine ⟨h.1.kept (row := none) ⟨hb.os, hb.tape, hb.output, hb.size, fun k hk _ => hb.block k hk⟩ ?_, h.2.trans hb⟩
  cases v.ownBlock <;> simp
theorem Mine.form (h : Mine w0 e sz w v n xs) : ∃ p cap, v = .slice p n cap := by
  rcases h.1.2 with ⟨h1, h2⟩ | ⟨g, cap, cur, h1, _⟩
  · subst h2; exact ⟨_, _, h1⟩
  · exact ⟨_, _, h1⟩

/-- Cells in a row from an address on. -/
def CellsAt (w : World) (b o : Nat) (cs : List Value) : Prop := ∀ j, j < cs.length → w.cell? ⟨b, o + j, none⟩ = cs[j]?

theorem CellsAt.later {w w' : World} {b o : Nat} {cs : List Value} (h : CellsAt w b o cs) (hl : Later w w') (hb : b < w.heap.size) : CellsAt w' b o cs := fun j hj => ((bcell hl).1 _ _ hb).trans (h j hj)
theorem add_plain (b o j : Nat) : (⟨b, o, none⟩ : Addr).add j = ⟨b, o + j, none⟩ := by unfold Addr.add; split <;> simp_all

theorem wpList_app {ops : Array Oper} {rest : List Oper} {o : Oper} {a : Act} {Q : Exit → Act → World → Prop} {t bytes : Nat} (T : SliceOf P t e sz bytes) (hM : Mine w0 e sz w v n xs) (hgd : o.guard = none) (s x : Operand)
    (ho : o.op = .call { callee := .builtin .append, args := #[s, x], argTypes := #[t, t] }) (hs : a.eval s = v)
    (b p m c : Nat) (news : List Value) (hx : a.eval x = .slice (some ⟨b, p, none⟩) m c) (hl : news.length = m * sz) (hc : CellsAt w b p news) (h1 : ∀ u ∈ news, u.oneCell' = true)
    (h63 : (n + m) * bytes ≤ 140737488355328) (h64 : n + m ≤ maxLen)
    (h : ∀ v' w', Mine w0 e sz w' v' (n + m) (xs ++ news) → w.grownBy w' v.ownBlock → wpList P ops Q rest (a.put o.dst v') w') : wpList P ops Q (o :: rest) a w := by
  obtain ⟨i, z, t1, t2, t3, t4, t5, t6, t7⟩ := T
  refine wpList_append_own _ hgd s x t ho w0.heap.size e i z sz bytes t1 t2 t3 t4 t5 t6 t7 v n xs hs hM.1 ⟨b, p, none⟩ m c news hx hl ?_ h1 h64 h63 (Later.size hM.2) (fun v' w' h1' h2' _ => h v' w' ⟨h1', Later.grown hM.2 h2' (fun k hk => (hM.1.lt k hk).1)⟩ h2')
  intro j u hj
  have hjl : j < news.length := (List.getElem?_eq_some_iff.1 hj).1
  rw [add_plain, hc j hjl, hj]

theorem wpList_app_none {ops : Array Oper} {rest : List Oper} {o : Oper} {a : Act} {Q : Exit → Act → World → Prop} {t bytes : Nat} (T : SliceOf P t e sz bytes) (hM : Mine w0 e sz w v n xs) (hgd : o.guard = none) (s x : Operand)
    (ho : o.op = .call { callee := .builtin .append, args := #[s, x], argTypes := #[t, t] }) (hs : a.eval s = v) (hx : a.eval x = .slice none 0 0)
    (h : wpList P ops Q rest (a.put o.dst v) w) : wpList P ops Q (o :: rest) a w := by
  obtain ⟨i, z, t1, t2, t3, t4, t5, t6, t7⟩ := T
  exact wpList_append_own_none hgd s x t ho w0.heap.size e i sz t1 t2 v n xs hs hM.1 hx h

theorem wpList_mk {ops : Array Oper} {rest : List Oper} {o : Oper} {a : Act} {Q : Exit → Act → World → Prop} {t bytes : Nat} (T : SliceOf P t e sz bytes) (hb : Later w0 w) (hgd : o.guard = none) (l c : Operand)
    (ho : o.op = .makeSlice t l c) (k : Nat) (hl : a.eval l = .int .i64 (k : Int)) (hc : a.eval c = .int .i64 (k : Int)) (h63 : bytes * k ≤ 281474976710656) (h64 : k ≤ maxLen)
    (h : ∀ w' z, (∃ i, P.info? e = some i ∧ i.zero = some z) → Mine w0 e sz w' (.slice (some ⟨w.heap.size, 0, none⟩) k k) k (madeCells z.cells (k * sz)).toList → Later w w' → wpList P ops Q rest (a.put o.dst (.slice (some ⟨w.heap.size, 0, none⟩) k k)) w') : wpList P ops Q (o :: rest) a w := by
  obtain ⟨i, z, t1, t2, t3, t4, t5, t6, t7⟩ := T
  exact wpList_make_full w hgd l c t ho w0.heap.size e i z sz t1 t2 t3 t4 .i64 .i64 (k : Int) (k : Int) k hl hc rfl rfl (by rw [t5]; exact h63) h64 (Later.size hb) (fun w' h1 h2 =>
    have h3 : Later w w' := Later.grown (Later.refl _) h2 (fun _ hk => by cases hk)
    h w' z ⟨i, t2, t3⟩ ⟨h1, hb.trans h3⟩ h3)
end

/-- The call's own variables: whole blocks. -/
def Own (w : World) : List (Nat × Array Value) → Prop
  | [] => True
  | (b, A) :: l => (b < w.heap.size ∧ (∀ i, w.cell? ⟨b, i, none⟩ = A[i]?) ∧ (∀ i, i < A.size → w.frozen? ⟨b, i, none⟩ = false)) ∧ Own w l
theorem Own.later {w w' : World} : ∀ {l : List (Nat × Array Value)}, Own w l → Later w w' → Own w' l
  | [], _, _ => trivial
  | (_, _) :: l, h, hb => ⟨⟨by have := Later.size hb; have := h.1.1; omega, fun i => ((bcell hb).1 _ i h.1.1).trans (h.1.2.1 i), fun i hi => ((bcell hb).2 _ i h.1.1).trans (h.1.2.2 i hi)⟩, h.2.later hb⟩
theorem Own.cons {w : World} {b : Nat} {A : Array Value} {l : List (Nat × Array Value)} (hb : b < w.heap.size) (hc : ∀ i, w.cell? ⟨b, i, none⟩ = A[i]?) (hf : ∀ i, i < A.size → w.frozen? ⟨b, i, none⟩ = false) (h : Own w l) : Own w ((b, A) :: l) := ⟨⟨hb, hc, hf⟩, h⟩
theorem Own.boxed {w w' : World} {A : Array Value} {ta : TypeId} {l : List (Nat × Array Value)} (h : Later (w.alloc (.cells A ta)) w') (hl : Own w' l) : Own w' ((w.heap.size, A) :: l) := by
  have := own1 h
  exact ⟨⟨by have := this.2.2; omega, this.1, this.2.1⟩, hl⟩
theorem Own.one {w w' : World} {A : Array Value} {ta : TypeId} (h : Later (w.alloc (.cells A ta)) w') : Own w' [(w.heap.size, A)] := Own.boxed h trivial
theorem Own.two {w w' : World} {A B : Array Value} {ta tb : TypeId} (h : Later ((w.alloc (.cells A ta)).alloc (.cells B tb)) w') : Own w' [(w.heap.size, A), (w.heap.size + 1, B)] := by
  have := Own.one h; rw [World.size_alloc] at this
  exact Own.boxed (Later.trans ((Later.refl _).alloc _) h) this
theorem Own.three {w w' : World} {A B C : Array Value} {ta tb tc : TypeId} (h : Later (((w.alloc (.cells A ta)).alloc (.cells B tb)).alloc (.cells C tc)) w') : Own w' [(w.heap.size, A), (w.heap.size + 1, B), (w.heap.size + 1 + 1, C)] := by
  have := Own.two h; rw [World.size_alloc] at this
  exact Own.boxed (Later.trans (((Later.refl _).alloc _).alloc _) h) this
theorem Own.four {w w' : World} {A B C D : Array Value} {ta tb tc td : TypeId} (h : Later ((((w.alloc (.cells A ta)).alloc (.cells B tb)).alloc (.cells C tc)).alloc (.cells D td)) w') : Own w' [(w.heap.size, A), (w.heap.size + 1, B), (w.heap.size + 1 + 1, C), (w.heap.size + 1 + 1 + 1, D)] := by
  have := Own.three h; rw [World.size_alloc] at this
  exact Own.boxed (Later.trans ((((Later.refl _).alloc _).alloc _).alloc _) h) this

theorem own_alloc (w : World) (A : Array Value) (ta : TypeId) : Own (w.alloc (.cells A ta)) [(w.heap.size, A)] := Own.one (Later.refl _)
theorem own_one_d {w w' : World} {A : Array Value} {ta : TypeId} (h : Later (w.alloc (.cells A ta)).drew w') : Own w' [(w.heap.size, A)] := Own.one h.undrew
theorem own_set2 {w : World} {b : Nat} {u v x y : Value} (h : Own w [(b, #[u, v])]) : Own ((w.setCell ⟨b, 0, none⟩ x).setCell ⟨b, 1, none⟩ y) [(b, #[x, y])] :=
  Own.cons (by simpa using h.1.1) (fun i => set_own (k := 1) (set_own (k := 0) h.1.2.1 x (by simp)) y (by simp) i) (fun i hi => set_frozen (n := 2) (fun i hi => set_frozen (n := 2) h.1.2.2 x i hi) y i hi) trivial
theorem own_get {w : World} {b : Nat} {A : Array Value} (h : Own w [(b, A)]) : b < w.heap.size ∧ (∀ i, w.cell? ⟨b, i, none⟩ = A[i]?) ∧ (∀ i, i < A.size → w.frozen? ⟨b, i, none⟩ = false) := h.1


theorem Later.putCell {a b : World} (h : Later a b) {k i : Nat} (hk : a.heap.size ≤ k) (u : Value) : Later a (b.setCell ⟨k, i, none⟩ u) := h.setCell hk u

/-- Later from a world behind boxes is later from the one ahead of them. -/
theorem Later.un1 {a b : World} {o : Obj} (h : Later (a.alloc o) b) : Later a b := Later.unalloc h
end Go.Proofs.YtkpadahpepeaoaaDoor
