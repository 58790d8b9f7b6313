/- arguments opened: calls of Post -/
import Derived.Test.YtpblfheeeifjcaaDoorPst
import Derived.Test.YtpblfheeeifjcaaDoorRead
set_option linter.all false
namespace Go.Proofs.YtpblfheeeifjcaaDoor
open Go.ChangeShapes Go.WideShapes Go.ChangeAt Go.RowKit
section
variable {H : Type} {enc : TypeId × Value → H} {W : World} {held : Bool}
theorem line_of_trod {n : Nat} {cs : List Value} {y : DataW H × List MemPlace} (h : DataW.trod enc Tryd.prog W 0 (fun _ => true) held n 41 cs = some y) : ∃ x : Ln, x.ok ∧ ∀ j, j < 3 → cs[j]? = some (lnF x j) := by
  obtain ⟨xs, m, _, _, hl, hlen, hf⟩ := DataW.trod_struct Tryd.underlying41 h
  have c0 : Tryd.prog.cellsOf 41 = 3 := by kernel_rfl
  have c1 : Tryd.prog.cellsOf 3 = 1 := by kernel_rfl
  have hlen : xs.length = 3 := hlen
  have f0 : DataW.trod enc Tryd.prog W 0 (fun _ => true) held m 3 ((cs.drop 0).take (Tryd.prog.cellsOf 3)) = xs[0]? := hf 0 _ rfl
  have f1 : DataW.trod enc Tryd.prog W 0 (fun _ => true) held m 3 ((cs.drop 1).take (Tryd.prog.cellsOf 3)) = xs[1]? := hf 1 _ rfl
  have f2 : DataW.trod enc Tryd.prog W 0 (fun _ => true) held m 3 ((cs.drop 2).take (Tryd.prog.cellsOf 3)) = xs[2]? := hf 2 _ rfl
  obtain ⟨y0, e0⟩ := rd_some (xs := xs) (i := 0) (by omega)
  obtain ⟨y1, e1⟩ := rd_some (xs := xs) (i := 1) (by omega)
  obtain ⟨y2, e2⟩ := rd_some (xs := xs) (i := 2) (by omega)
  rw [c1, e0] at f0
  rw [c1, e1] at f1
  rw [c1, e2] at f2
  rw [c0] at hl
  obtain ⟨a, b, c, rfl⟩ := rd_3 hl
  clear hf hl h
  obtain ⟨p, hp, ip⟩ := rd_int Tryd.underlying3 f0
  obtain ⟨q, hq, iq⟩ := rd_int Tryd.underlying3 f1
  obtain ⟨s, hs, is⟩ := rd_int Tryd.underlying3 f2
  simp at hp hq hs
  subst hp hq hs
  refine ⟨⟨p, q, s⟩, ⟨ip, iq, is⟩, fun j hj => ?_⟩
  rcases j with _ | _ | _ | j
  all_goals first | rfl | omega
theorem lines_of_trod {fuel : Nat} {v : Value} {x : DataW H × List MemPlace} (h : DataW.trod enc Tryd.prog W 0 (fun _ => true) held fuel 32 [v] = some x) : ∃ ls, IsLines W v ls ∧ ∀ y ∈ ls, y.ok :=
  rd_row (P := Tryd.prog) (e := 41) (sz := 3) (ok := Ln.ok) (f := lnF) (by decide) Tryd.underlying32 (by kernel_rfl) (fun _ _ _ h' => line_of_trod h') h
theorem tag_of_trod {n : Nat} {cs : List Value} {y : DataW H × List MemPlace} (h : DataW.trod enc Tryd.prog W 0 (fun _ => true) held n 31 cs = some y) : ∃ a b c, cs = [.int .i64 a, .int .i64 b, .int .i64 c] ∧ I64 a ∧ I64 b ∧ I64 c := by
  obtain ⟨xs, m, _, _, hl, hlen, hf⟩ := DataW.trod_struct Tryd.underlying31 h
  have c0 : Tryd.prog.cellsOf 31 = 3 := by kernel_rfl
  have c1 : Tryd.prog.cellsOf 3 = 1 := by kernel_rfl
  have hlen : xs.length = 3 := hlen
  have f0 : DataW.trod enc Tryd.prog W 0 (fun _ => true) held m 3 ((cs.drop 0).take (Tryd.prog.cellsOf 3)) = xs[0]? := hf 0 _ rfl
  have f1 : DataW.trod enc Tryd.prog W 0 (fun _ => true) held m 3 ((cs.drop 1).take (Tryd.prog.cellsOf 3)) = xs[1]? := hf 1 _ rfl
  have f2 : DataW.trod enc Tryd.prog W 0 (fun _ => true) held m 3 ((cs.drop 2).take (Tryd.prog.cellsOf 3)) = xs[2]? := hf 2 _ rfl
  obtain ⟨y0, e0⟩ := rd_some (xs := xs) (i := 0) (by omega)
  obtain ⟨y1, e1⟩ := rd_some (xs := xs) (i := 1) (by omega)
  obtain ⟨y2, e2⟩ := rd_some (xs := xs) (i := 2) (by omega)
  rw [c1, e0] at f0
  rw [c1, e1] at f1
  rw [c1, e2] at f2
  rw [c0] at hl
  obtain ⟨a, b, c, rfl⟩ := rd_3 hl
  clear hf hl h
  obtain ⟨p, hp, ip⟩ := rd_int Tryd.underlying3 f0
  obtain ⟨q, hq, iq⟩ := rd_int Tryd.underlying3 f1
  obtain ⟨s, hs, is⟩ := rd_int Tryd.underlying3 f2
  simp at hp hq hs
  subst hp hq hs
  exact ⟨p, q, s, rfl, ip, iq, is⟩
theorem entry_of_trod {n : Nat} {cs : List Value} {y : DataW H × List MemPlace} (h : DataW.trod enc Tryd.prog W 0 (fun _ => true) held n 34 cs = some y) : ∃ x : En × Value, (IsLines W x.2 x.1.ls ∧ x.1.wd) ∧ ∀ j, j < 7 → cs[j]? = some (enF x j) := by
  obtain ⟨xs, m, _, _, hl, hlen, hf⟩ := DataW.trod_struct Tryd.underlying34 h
  have c0 : Tryd.prog.cellsOf 34 = 7 := by kernel_rfl
  have c1 : Tryd.prog.cellsOf 3 = 1 := by kernel_rfl
  have c3 : Tryd.prog.cellsOf 31 = 3 := by kernel_rfl
  have c4 : Tryd.prog.cellsOf 32 = 1 := by kernel_rfl
  have hlen : xs.length = 5 := hlen
  have f0 : DataW.trod enc Tryd.prog W 0 (fun _ => true) held m 31 ((cs.drop 0).take (Tryd.prog.cellsOf 31)) = xs[0]? := hf 0 _ rfl
  have f1 : DataW.trod enc Tryd.prog W 0 (fun _ => true) held m 3 ((cs.drop 3).take (Tryd.prog.cellsOf 3)) = xs[1]? := hf 1 _ rfl
  have f2 : DataW.trod enc Tryd.prog W 0 (fun _ => true) held m 3 ((cs.drop 4).take (Tryd.prog.cellsOf 3)) = xs[2]? := hf 2 _ rfl
  have f3 : DataW.trod enc Tryd.prog W 0 (fun _ => true) held m 3 ((cs.drop 5).take (Tryd.prog.cellsOf 3)) = xs[3]? := hf 3 _ rfl
  have f4 : DataW.trod enc Tryd.prog W 0 (fun _ => true) held m 32 ((cs.drop 6).take (Tryd.prog.cellsOf 32)) = xs[4]? := hf 4 _ rfl
  obtain ⟨y0, e0⟩ := rd_some (xs := xs) (i := 0) (by omega)
  obtain ⟨y1, e1⟩ := rd_some (xs := xs) (i := 1) (by omega)
  obtain ⟨y2, e2⟩ := rd_some (xs := xs) (i := 2) (by omega)
  obtain ⟨y3, e3⟩ := rd_some (xs := xs) (i := 3) (by omega)
  obtain ⟨y4, e4⟩ := rd_some (xs := xs) (i := 4) (by omega)
  rw [c3, e0] at f0
  rw [c1, e1] at f1
  rw [c1, e2] at f2
  rw [c1, e3] at f3
  rw [c4, e4] at f4
  rw [c0] at hl
  obtain ⟨a0, a1, a2, a3, a4, a5, a6, rfl⟩ := rd_7 hl
  clear hf hl h
  obtain ⟨t0, t1, t2, ht, i0, i1, i2⟩ := tag_of_trod f0
  obtain ⟨p, hp, ip⟩ := rd_int Tryd.underlying3 f1
  obtain ⟨q, hq, iq⟩ := rd_int Tryd.underlying3 f2
  obtain ⟨s, hs, is⟩ := rd_int Tryd.underlying3 f3
  simp at ht hp hq hs
  obtain ⟨ht0, ht1, ht2⟩ := ht
  subst ht0 ht1 ht2 hp hq hs
  have f4' : DataW.trod enc Tryd.prog W 0 (fun _ => true) held m 32 [a6] = some y4 := by simpa using f4
  obtain ⟨ls, hL, hlo⟩ := lines_of_trod f4'
  refine ⟨(⟨t0, t1, t2, p, q, s, ls⟩, a6), ⟨hL, i0, i1, i2, ip, iq, is, hlo⟩, fun j hj => ?_⟩
  rcases j with _ | _ | _ | _ | _ | _ | _ | j
  all_goals first | rfl | omega
theorem entries_of_trod {fuel : Nat} {v : Value} {x : DataW H × List MemPlace} (h : DataW.trod enc Tryd.prog W 0 (fun _ => true) held fuel 48 [v] = some x) : ∃ es, IsEntries W v es ∧ ∀ y ∈ es, y.wd := by
  obtain ⟨xs, h1, h2⟩ := rd_row (P := Tryd.prog) (e := 34) (sz := 7) (ok := fun x : En × Value => IsLines W x.2 x.1.ls ∧ x.1.wd) (f := enF) (by decide) Tryd.underlying48 (by kernel_rfl) (fun _ _ _ h' => entry_of_trod h') h
  refine ⟨xs.map (·.1), ⟨xs, rfl, h1, fun x hx => (h2 x hx).1⟩, fun y hy => ?_⟩
  obtain ⟨x, hx, rfl⟩ := List.mem_map.1 hy
  exact (h2 x hx).2
theorem op_of_trod {n : Nat} {cs : List Value} {y : DataW H × List MemPlace} (h : DataW.trod enc Tryd.prog W 0 (fun _ => true) held n 50 cs = some y) : ∃ x : OpL × Value, (IsEntries W x.2 x.1.es ∧ x.1.ok) ∧ ∀ j, j < 4 → cs[j]? = some (opF x j) := by
  obtain ⟨xs, m, _, _, hl, hlen, hf⟩ := DataW.trod_struct Tryd.underlying50 h
  have c0 : Tryd.prog.cellsOf 50 = 4 := by kernel_rfl
  have c1 : Tryd.prog.cellsOf 3 = 1 := by kernel_rfl
  have c3 : Tryd.prog.cellsOf 4 = 1 := by kernel_rfl
  have c4 : Tryd.prog.cellsOf 48 = 1 := by kernel_rfl
  have hlen : xs.length = 4 := hlen
  have f0 : DataW.trod enc Tryd.prog W 0 (fun _ => true) held m 3 ((cs.drop 0).take (Tryd.prog.cellsOf 3)) = xs[0]? := hf 0 _ rfl
  have f1 : DataW.trod enc Tryd.prog W 0 (fun _ => true) held m 3 ((cs.drop 1).take (Tryd.prog.cellsOf 3)) = xs[1]? := hf 1 _ rfl
  have f2 : DataW.trod enc Tryd.prog W 0 (fun _ => true) held m 4 ((cs.drop 2).take (Tryd.prog.cellsOf 4)) = xs[2]? := hf 2 _ rfl
  have f3 : DataW.trod enc Tryd.prog W 0 (fun _ => true) held m 48 ((cs.drop 3).take (Tryd.prog.cellsOf 48)) = xs[3]? := hf 3 _ rfl
  obtain ⟨y0, e0⟩ := rd_some (xs := xs) (i := 0) (by omega)
  obtain ⟨y1, e1⟩ := rd_some (xs := xs) (i := 1) (by omega)
  obtain ⟨y2, e2⟩ := rd_some (xs := xs) (i := 2) (by omega)
  obtain ⟨y3, e3⟩ := rd_some (xs := xs) (i := 3) (by omega)
  rw [c1, e0] at f0
  rw [c1, e1] at f1
  rw [c3, e2] at f2
  rw [c4, e3] at f3
  rw [c0] at hl
  obtain ⟨a0, a1, a2, a3, rfl⟩ := rd_4 hl
  clear hf hl h
  obtain ⟨p, hp, ip⟩ := rd_int Tryd.underlying3 f0
  obtain ⟨q, hq, iq⟩ := rd_int Tryd.underlying3 f1
  obtain ⟨s, hs, _⟩ := DataW.trod_bool Tryd.underlying4 f2
  simp at hp hq hs
  subst hp hq hs
  have f3' : DataW.trod enc Tryd.prog W 0 (fun _ => true) held m 48 [a3] = some y3 := by simpa using f3
  obtain ⟨es, hE, heo⟩ := entries_of_trod f3'
  refine ⟨(⟨p, q, s, es⟩, a3), ⟨hE, ip, iq, heo⟩, fun j hj => ?_⟩
  rcases j with _ | _ | _ | _ | j
  all_goals first | rfl | omega
theorem ops_of_trod {fuel : Nat} {v : Value} {x : DataW H × List MemPlace} (h : DataW.trod enc Tryd.prog W 0 (fun _ => true) held fuel 22 [v] = some x) : ∃ l, IsOps W v l ∧ ∀ o ∈ l, o.ok := by
  obtain ⟨xs, h1, h2⟩ := rd_row (P := Tryd.prog) (e := 50) (sz := 4) (ok := fun x : OpL × Value => IsEntries W x.2 x.1.es ∧ x.1.ok) (f := opF) (by decide) Tryd.underlying22 (by kernel_rfl) (fun _ _ _ h' => op_of_trod h') h
  refine ⟨xs.map (·.1), ⟨xs, rfl, h1, fun x hx => (h2 x hx).1⟩, fun y hy => ?_⟩
  obtain ⟨x, hx, rfl⟩ := List.mem_map.1 hy
  exact (h2 x hx).2
end
end Go.Proofs.YtpblfheeeifjcaaDoor
