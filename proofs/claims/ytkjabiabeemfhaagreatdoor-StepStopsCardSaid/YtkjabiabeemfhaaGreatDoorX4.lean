/- an argument of operations of a run, opened -/
import Derived.Test.YtkjabiabeemfhaaGreatDoorW33
import Derived.Test.YtkjabiabeemfhaaGreatDoorW3
import Derived.Test.YtkjabiabeemfhaaGreatDoorW2
import Derived.Test.YtkjabiabeemfhaaGreatDoorRows
import Derived.Test.YtkjabiabeemfhaaGreatDoorW1
import Derived.Shelf.Small.Bits
import Derived.Shelf.Small.Wraps
import Derived.Shelf.Strconv.Itoa0
import Derived.Shelf.Bits.Mul64
import Derived.Ground.Names2Prog
import Derived.Shelf.Slices.Clone
import Derived.Shelf.Slices.SearchI
import Derived.Ground.SlgnProg
import Derived.Shelf.SlicesE.Clone
import Derived.Shelf.SlLaysF0
import Derived.Ground.SlsfProg
import Derived.Test.YtkjabiabeemfhaaGreatDoorProg
import Derived.WalkKit
import Derived.Lib.BitFns
import Derived.Lib.ItoaNum
import Derived.WalkSpells
import Derived.WalkSmall
import Derived.WalkLawsBesides
import Derived.BigQuiet
import Derived.Deep.RegionHeld3
import Derived.Deep.DeepCutAuto
import Derived.Deep.CutBlock
import Derived.Lib.Hide
import Derived.Deep.Quiet
import Derived.Below
import Derived.OrdersHeld
import Derived.Shelf.Spec.BitsCarry
import Derived.Laws.AppendOwnNone
import Derived.OwnWalk
import Derived.Great.BuildSlice
import Derived.ChangeSame
import Derived.ProofKit
import Derived.Carry
import Derived.ReadAgain
import Derived.Deep.Slices
import Derived.OpenShut
import Derived.LaidMore
import Derived.Test.YtkjabiabeemfhaaGreatDoorW11
import Derived.Test.YtkjabiabeemfhaaGreatDoorX1
import Derived.Test.YtkjabiabeemfhaaGreatDoorW31
set_option linter.all false
set_option linter.all false
section
namespace Go.Proofs.YtkjabiabeemfhaaGreatDoor
open Go.ChangeShapes Go.WideShapes Go.ChangeAt Go.RowKit
section
variable {H : Type} {enc : TypeId × Value → H} {W : World} {r : Reach} {base : Nat} {sp : Nat → Bool} {held : Bool}
theorem rd_4 {α : Type} {l : List α} (h : l.length = 4) : ∃ a b c d, l = [a, b, c, d] := by match l, h with | [a, b, c, d], _ => exact ⟨a, b, c, d, rfl⟩
end
end Go.Proofs.YtkjabiabeemfhaaGreatDoor
end
section
namespace Go.Proofs.YtkjabiabeemfhaaGreatDoor
open Go.ChangeShapes Go.WideShapes Go.ChangeAt Go.RowKit
section
variable {H : Type} {enc : TypeId × Value → H} {W : World} {r : Reach} {base : Nat} {held : Bool}
theorem tolds_rd {fuel : Nat} {v : Value} {x : DataW H × List MemPlace} (h : DataW.trod enc Tryz.prog W 0 (fun _ => true) held fuel 23 [v] = some x) : ∃ ts, IsTolds W v ts ∧ ∀ y ∈ ts, y.ok :=
  rd_row (P := Tryz.prog) (e := 55) (sz := 6) (ok := Td.ok) (f := Td.cell) (by decide) Tryz.underlying23 (by kernel_rfl) (fun _ _ _ h' => told_of_trod h') h
set_option maxRecDepth 100000
theorem job_cells {n : Nat} {cs : List Value} {y : DataW H × List MemPlace} (h : DataW.trod enc Tryz.prog W 0 (fun _ => true) held n 25 cs = some y) :
    ∃ u1 a b u2 l1 l2, cs = [u1, .int .i64 a, .int .i64 b, u2] ∧ I64 a ∧ I64 b ∧ IsNodes W u1 l1 ∧ IsTolds W u2 l2 ∧ (∀ y ∈ l1, y.ok) ∧ ∀ y ∈ l2, y.ok := by
  obtain ⟨xs, m, _, _, hl, hlen, hf⟩ := DataW.trod_struct Tryz.underlying25 h
  have c0 : Tryz.prog.cellsOf 25 = 4 := by kernel_rfl
  have c1 : Tryz.prog.cellsOf 3 = 1 := by kernel_rfl
  have c2 : Tryz.prog.cellsOf 22 = 1 := by kernel_rfl
  have c3 : Tryz.prog.cellsOf 23 = 1 := by kernel_rfl
  have hlen : xs.length = 4 := hlen
  have f0 : DataW.trod enc Tryz.prog W 0 (fun _ => true) held m 22 ((cs.drop 0).take (Tryz.prog.cellsOf 22)) = xs[0]? := hf 0 _ rfl
  have f1 : DataW.trod enc Tryz.prog W 0 (fun _ => true) held m 3 ((cs.drop 1).take (Tryz.prog.cellsOf 3)) = xs[1]? := hf 1 _ rfl
  have f2 : DataW.trod enc Tryz.prog W 0 (fun _ => true) held m 3 ((cs.drop 2).take (Tryz.prog.cellsOf 3)) = xs[2]? := hf 2 _ rfl
  have f3 : DataW.trod enc Tryz.prog W 0 (fun _ => true) held m 23 ((cs.drop 3).take (Tryz.prog.cellsOf 23)) = xs[3]? := hf 3 _ rfl
  obtain ⟨y0, e0⟩ := rd_some (xs := xs) (i := 0) (by omega)
  obtain ⟨y1, e1⟩ := rd_some (xs := xs) (i := 1) (by omega)
  obtain ⟨y2, e2⟩ := rd_some (xs := xs) (i := 2) (by omega)
  obtain ⟨y3, e3⟩ := rd_some (xs := xs) (i := 3) (by omega)
  rw [c2, e0] at f0
  rw [c1, e1] at f1
  rw [c1, e2] at f2
  rw [c3, e3] at f3
  rw [c0] at hl
  obtain ⟨a, b, c, d, rfl⟩ := rd_4 hl
  clear hf hl h
  obtain ⟨p, hp, ip⟩ := rd_int Tryz.underlying3 f1
  obtain ⟨q, hq, iq⟩ := rd_int Tryz.underlying3 f2
  simp at hp hq
  subst hp hq
  obtain ⟨l1, g1, o1⟩ := nodes_rd (v := a) (by simpa using f0)
  obtain ⟨l2, g2, o2⟩ := tolds_rd (v := d) (by simpa using f3)
  exact ⟨a, p, q, d, l1, l2, rfl, ip, iq, g1, g2, o1, o2⟩
theorem job_of_trod {fuel : Nat} {v : Value} {x : DataW H × List MemPlace} (hk : Value.okWide Tryz.prog W r base 25 v) (h : DataW.trod enc Tryz.prog W 0 (fun _ => true) held fuel 25 v.cells.toList = some x) :
    ∃ u1 a b u2 l1 l2, v = .agg #[u1, .int .i64 a, .int .i64 b, u2] ∧ I64 a ∧ I64 b ∧ IsNodes W u1 l1 ∧ IsTolds W u2 l2 ∧ (∀ y ∈ l1, y.ok) ∧ ∀ y ∈ l2, y.ok := by
  obtain ⟨s, rfl, -, -⟩ : ∃ cs, v = .agg cs ∧ cs.size = Tryz.prog.cellsOf 25 ∧ Row.okWide Tryz.prog W r base 25 cs := by simpa only [Value.okWide, Tryz.underlying25] using hk
  obtain ⟨u1, a, b, u2, l1, l2, he, i1, i2, g1, g2, o1, o2⟩ := job_cells h
  refine ⟨u1, a, b, u2, l1, l2, ?_, i1, i2, g1, g2, o1, o2⟩
  cases s with
  | mk s => simp [Value.cells] at he; rw [he]
end
end Go.Proofs.YtkjabiabeemfhaaGreatDoor
end
section
namespace Go.Proofs.YtkjabiabeemfhaaGreatDoor
open Go.ChangeShapes Go.WideShapes Go.ChangeAt Go.RowKit
section
variable {H : Type} {enc : TypeId × Value → H} {W : World} {held : Bool}
theorem ints_rd {fuel : Nat} {v : Value} {x : DataW H × List MemPlace} (h : DataW.trod enc Tryz.prog W 0 (fun _ => true) held fuel 94 [v] = some x) : ∃ ls : List Int, IsIntR W v ls ∧ ∀ y ∈ ls, I64 y :=
  rd_row (P := Tryz.prog) (e := 3) (sz := 1) (ok := I64) (f := intCell) (by decide) Tryz.underlying94 (by kernel_rfl) (fun _ cs _ h' => by
    obtain ⟨a, ha, hi⟩ := rd_int Tryz.underlying3 h'
    subst ha
    refine ⟨a, hi, fun j hj => ?_⟩
    obtain rfl : j = 0 := by omega
    rfl) h
end
end Go.Proofs.YtkjabiabeemfhaaGreatDoor
end
