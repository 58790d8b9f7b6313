/- an argument of flows, opened -/
import Derived.Test.YtckeaibamgkegaaDoorFlow
import Derived.Test.YtckeaibamgkegaaDoorRead
set_option linter.all false
namespace Go.Proofs.YtckeaibamgkegaaDoor
open Go.ChangeShapes Go.WideShapes Go.ChangeAt Go.RowKit
section
variable {H : Type} {enc : TypeId × Value → H} {W : World} {held : Bool}
theorem flow_of_trod {n : Nat} {cs : List Value} {y : DataW H × List MemPlace} (h : DataW.trod enc Tryd.prog W 0 (fun _ => true) held n 49 cs = some y) : ∃ x : Fl, x.ok ∧ ∀ j, j < 3 → cs[j]? = some (flF x j) := by
  obtain ⟨xs, m, _, _, hl, hlen, hf⟩ := DataW.trod_struct Tryd.underlying49 h
  have c0 : Tryd.prog.cellsOf 49 = 3 := by kernel_rfl
  have c1 : Tryd.prog.cellsOf 3 = 1 := by kernel_rfl
  have hlen : xs.length = 3 := hlen
  have f0 : DataW.trod enc Tryd.prog W 0 (fun _ => true) held m 3 ((cs.drop 0).take (Tryd.prog.cellsOf 3)) = xs[0]? := hf 0 _ rfl
  have f1 : DataW.trod enc Tryd.prog W 0 (fun _ => true) held m 3 ((cs.drop 1).take (Tryd.prog.cellsOf 3)) = xs[1]? := hf 1 _ rfl
  have f2 : DataW.trod enc Tryd.prog W 0 (fun _ => true) held m 3 ((cs.drop 2).take (Tryd.prog.cellsOf 3)) = xs[2]? := hf 2 _ rfl
  obtain ⟨y0, e0⟩ := rd_some (xs := xs) (i := 0) (by omega)
  obtain ⟨y1, e1⟩ := rd_some (xs := xs) (i := 1) (by omega)
  obtain ⟨y2, e2⟩ := rd_some (xs := xs) (i := 2) (by omega)
  rw [c1, e0] at f0
  rw [c1, e1] at f1
  rw [c1, e2] at f2
  rw [c0] at hl
  obtain ⟨a, b, c, rfl⟩ := rd_3 hl
  clear hf hl h
  obtain ⟨p, hp, ip⟩ := rd_int Tryd.underlying3 f0
  obtain ⟨q, hq, iq⟩ := rd_int Tryd.underlying3 f1
  obtain ⟨s, hs, is⟩ := rd_int Tryd.underlying3 f2
  simp at hp hq hs
  subst hp hq hs
  refine ⟨⟨p, q, s⟩, ⟨ip, iq, is⟩, fun j hj => ?_⟩
  rcases j with _ | _ | _ | j
  all_goals first | rfl | omega
theorem flows_of_trod {fuel : Nat} {v : Value} {x : DataW H × List MemPlace} (h : DataW.trod enc Tryd.prog W 0 (fun _ => true) held fuel 47 [v] = some x) : ∃ ls, IsFlows W v ls ∧ ∀ y ∈ ls, y.ok :=
  rd_row (P := Tryd.prog) (e := 49) (sz := 3) (ok := Fl.ok) (f := flF) (by decide) Tryd.underlying47 (by kernel_rfl) (fun _ _ _ h' => flow_of_trod h') h
end
end Go.Proofs.YtckeaibamgkegaaDoor
