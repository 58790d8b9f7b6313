/- a ratio's cells, opened -/
import Derived.Test.YtckeaibamgkegaaDoorRead
set_option linter.all false
namespace Go.Proofs.YtckeaibamgkegaaDoor
open Go.ChangeShapes Go.WideShapes Go.ChangeAt Go.RowKit
set_option maxRecDepth 100000
section
variable {H : Type} {enc : TypeId × Value → H} {W : World} {sp : Nat → Bool} {held : Bool}
theorem ratio_of_trod {n : Nat} {cs : List Value} {y : DataW H × List MemPlace} (h : DataW.trod enc Tryd.prog W 0 (fun _ => true) held n 23 cs = some y) : ∃ a b, cs = [.int .i64 a, .int .i64 b] ∧ I64 a ∧ I64 b := by
  obtain ⟨xs, m, _, _, hl, hlen, hf⟩ := DataW.trod_struct Tryd.underlying23 h
  have c0 : Tryd.prog.cellsOf 23 = 2 := by kernel_rfl
  have c1 : Tryd.prog.cellsOf 3 = 1 := by kernel_rfl
  have hlen : xs.length = 2 := hlen
  have f0 : DataW.trod enc Tryd.prog W 0 (fun _ => true) held m 3 ((cs.drop 0).take (Tryd.prog.cellsOf 3)) = xs[0]? := hf 0 _ rfl
  have f1 : DataW.trod enc Tryd.prog W 0 (fun _ => true) held m 3 ((cs.drop 1).take (Tryd.prog.cellsOf 3)) = xs[1]? := hf 1 _ rfl
  obtain ⟨y0, e0⟩ := rd_some (xs := xs) (i := 0) (by omega)
  obtain ⟨y1, e1⟩ := rd_some (xs := xs) (i := 1) (by omega)
  rw [c1, e0] at f0
  rw [c1, e1] at f1
  rw [c0] at hl
  obtain ⟨a, b, rfl⟩ : ∃ a b, cs = [a, b] := by match cs, hl with | [a, b], _ => exact ⟨a, b, rfl⟩
  clear hf hl h
  obtain ⟨p, hp, ip⟩ := rd_int Tryd.underlying3 f0
  obtain ⟨q, hq, iq⟩ := rd_int Tryd.underlying3 f1
  simp at hp hq
  subst hp hq
  exact ⟨p, q, rfl, ip, iq⟩
end
end Go.Proofs.YtckeaibamgkegaaDoor
