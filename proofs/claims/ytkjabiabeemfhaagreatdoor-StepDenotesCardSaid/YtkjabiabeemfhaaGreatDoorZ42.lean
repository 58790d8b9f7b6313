/- an argument of operations of a run, opened -/
import Derived.Test.YtkjabiabeemfhaaGreatDoorZ3
import Derived.Test.YtkjabiabeemfhaaGreatDoorZ41
import Derived.ReadAgain
import Derived.Deep.Slices
import Derived.OpenShut
import Derived.LaidMore
import Derived.Test.YtkjabiabeemfhaaGreatDoorZ39
set_option linter.all false
set_option linter.all false
section
namespace Go.Proofs.YtkjabiabeemfhaaGreatDoor
open Go.ChangeShapes Go.WideShapes Go.ChangeAt Go.RowKit
section
variable {H : Type} {enc : TypeId × Value → H} {W : World} {r : Reach} {base : Nat} {sp : Nat → Bool} {held : Bool}
theorem rd_row {P : Program} {α : Type} {sz : Nat} {f : α → Nat → Value} {ok : α → Prop} {t e : TypeId} {fuel : Nat} {v : Value} {x : DataW H × List MemPlace} (hsz : 0 < sz) (ht : P.underlying t = some (.slice e)) (hc : P.cellsOf e = sz)
  (hel : ∀ n cs d, DataW.trod enc P W 0 (fun _ => true) held n e cs = some d → ∃ y : α, ok y ∧ ∀ j, j < sz → cs[j]? = some (f y j))
  (h : DataW.trod enc P W 0 (fun _ => true) held fuel t [v] = some x) : ∃ xs, IsRow sz f W v xs ∧ ∀ y ∈ xs, ok y := by
 rcases Deep.open_slice ht h with ⟨h0, _⟩ | ⟨a, len, cap, m, n, D, Pl, h0, hb, hl, hm, hmm, _, hx⟩
 ·simp only [List.cons.injEq, and_true] at h0
  exact ⟨[], .inl ⟨⟨none, h0⟩, rfl⟩, by simp⟩
 ·simp only [List.cons.injEq, and_true] at h0
  subst h0
  rw [if_pos rfl] at hmm
  subst hmm
  rcases Nat.eq_zero_or_pos m with hm0 | hm0
  ·subst hm0
   have : len = 0 := by omega
   subst this
   exact ⟨[], .inl ⟨⟨some a, rfl⟩, rfl⟩, by simp⟩
  ·have h00 : W.cell? a = none ∨ ∃ u, W.cell? a = some u := by cases W.cell? a with | none => exact .inl rfl | some u => exact .inr ⟨u, rfl⟩
   obtain ⟨u, hu⟩ : ∃ u, W.cell? a = some u := by
    obtain ⟨cs, h1, h2⟩ := hx 0 hm0
    obtain ⟨y, _, h4⟩ := hel _ _ _ h2
    rw [hc, Nat.zero_mul] at h1
    obtain ⟨_, h5, h6⟩ := World.cells?_some h1
    have h7 := h6 0 hsz
    rw [h4 0 hsz] at h7
    have e : (a.add 0).add 0 = a := by obtain ⟨b, o, s⟩ := a; cases s <;> simp [Addr.add]
    rw [e] at h7
    exact ⟨_, h7⟩
   have hs := World.cell?_spot hu
   have hlt := World.block_lt_of_cell? _ _ hu
   obtain ⟨b, o, s⟩ := a
   simp only at hs hlt
   subst hs
   have key : ∀ i : Fin len, ∃ y : α, ok y ∧ ∀ j, j < sz → W.cell? ⟨b, o + i.1 * sz + j, none⟩ = some (f y j) := by
    intro i
    obtain ⟨cs, h1, h2⟩ := hx i.1 (Nat.lt_of_lt_of_le i.2 hl)
    obtain ⟨y, h3, h4⟩ := hel _ _ _ h2
    refine ⟨y, h3, fun j hj => ?_⟩
    rw [hc, add_plain] at h1
    obtain ⟨_, h5, h6⟩ := World.cells?_some h1
    have := h6 j hj
    rw [add_plain] at this
    rw [this]
    exact h4 j hj
   obtain ⟨g, hg⟩ := Classical.axiomOfChoice key
   refine ⟨List.ofFn g, .inr ⟨b, o, m, by rw [List.length_ofFn], hlt, by rw [List.length_ofFn]; exact hl, hm, fun i hi j hj => ?_⟩, fun y hy => ?_⟩
   ·rw [List.getElem_ofFn]
    exact (hg ⟨i, by simpa using hi⟩).2 j hj
   ·obtain ⟨i, rfl⟩ := List.mem_ofFn.1 hy
    exact (hg i).1
theorem rd_int {t : TypeId} {n : Nat} {cs : List Value} {y : DataW H × List MemPlace} (ht : Tryz.prog.underlying t = some (.int .i64)) (h : DataW.trod enc Tryz.prog W 0 sp held n t cs = some y) : ∃ a, cs = [.int .i64 a] ∧ I64 a := by
 obtain ⟨a, h1, _, h2⟩ := DataW.trod_int ht h
 exact ⟨a, h1, wf_i64 h2⟩
theorem rd_some {α : Type} {xs : List α} {i : Nat} (h : i < xs.length) : ∃ y, xs[i]? = some y := ⟨_, List.getElem?_eq_getElem h⟩
end
end Go.Proofs.YtkjabiabeemfhaaGreatDoor
end
section
namespace Go.Proofs.YtkjabiabeemfhaaGreatDoor
open Go.ChangeShapes Go.WideShapes Go.ChangeAt Go.RowKit
section
variable {H : Type} {enc : TypeId × Value → H} {W : World} {r : Reach} {base : Nat} {held : Bool}
theorem nodes_rd {fuel : Nat} {v : Value} {x : DataW H × List MemPlace} (h : DataW.trod enc Tryz.prog W 0 (fun _ => true) held fuel 22 [v] = some x) : ∃ ts, IsNodes W v ts ∧ ∀ y ∈ ts, y.ok :=
 rd_row (P := Tryz.prog) (e := 61) (sz := 5) (ok := Nd.ok) (f := fun (x : Nd) j => .int .i64 (x.cell j)) (by decide) Tryz.underlying22 (by kernel_rfl) (fun _ _ _ h' => node_of_trod h') h
set_option maxRecDepth 100000
end
end Go.Proofs.YtkjabiabeemfhaaGreatDoor
end
section
namespace Go.Proofs.YtkjabiabeemfhaaGreatDoor
open Go.ChangeShapes Go.WideShapes Go.ChangeAt Go.RowKit
section
variable {H : Type} {enc : TypeId × Value → H} {W : World} {held : Bool}
theorem rd_8 {α : Type} {l : List α} (h : l.length = 8) : ∃ a b c d e f g i, l = [a, b, c, d, e, f, g, i] := by match l, h with | [a, b, c, d, e, f, g, i], _ => exact ⟨a, b, c, d, e, f, g, i, rfl⟩
theorem op_of_trod {n : Nat} {cs : List Value} {y : DataW H × List MemPlace} (h : DataW.trod enc Tryz.prog W 0 (fun _ => true) held n 86 cs = some y) : ∃ x : Ops, x.ok ∧ ∀ j, j < 8 → cs[j]? = some (x.cell j) := by
 obtain ⟨xs, m, _, _, hl, hlen, hf⟩ := DataW.trod_struct Tryz.underlying86 h
 have c0 : Tryz.prog.cellsOf 86 = 8 := by kernel_rfl
 have c1 : Tryz.prog.cellsOf 3 = 1 := by kernel_rfl
 have c2 : Tryz.prog.cellsOf 55 = 6 := by kernel_rfl
 have c4 : Tryz.prog.cellsOf 4 = 1 := by kernel_rfl
 have hlen : xs.length = 3 := hlen
 have f0 : DataW.trod enc Tryz.prog W 0 (fun _ => true) held m 4 ((cs.drop 0).take (Tryz.prog.cellsOf 4)) = xs[0]? := hf 0 _ rfl
 have f1 : DataW.trod enc Tryz.prog W 0 (fun _ => true) held m 3 ((cs.drop 1).take (Tryz.prog.cellsOf 3)) = xs[1]? := hf 1 _ rfl
 have f2 : DataW.trod enc Tryz.prog W 0 (fun _ => true) held m 55 ((cs.drop 2).take (Tryz.prog.cellsOf 55)) = xs[2]? := hf 2 _ rfl
 obtain ⟨y0, e0⟩ := rd_some (xs := xs) (i := 0) (by omega)
 obtain ⟨y1, e1⟩ := rd_some (xs := xs) (i := 1) (by omega)
 obtain ⟨y2, e2⟩ := rd_some (xs := xs) (i := 2) (by omega)
 rw [c4, e0] at f0
 rw [c1, e1] at f1
 rw [c2, e2] at f2
 rw [c0] at hl
 obtain ⟨a, b, c, d, e, f, g, i, rfl⟩ := rd_8 hl
 clear hf hl h
 obtain ⟨p, hp, _⟩ := DataW.trod_bool Tryz.underlying4 f0
 obtain ⟨q, hq, iq⟩ := rd_int Tryz.underlying3 f1
 obtain ⟨x, hx, gx⟩ := told_of_trod f2
 simp at hp hq
 subst hp hq
 refine ⟨⟨p, q, x⟩, ⟨iq, hx⟩, fun j hj => ?_⟩
 have g0 := gx 0 (by decide)
 have g1 := gx 1 (by decide)
 have g2 := gx 2 (by decide)
 have g3 := gx 3 (by decide)
 have g4 := gx 4 (by decide)
 have g5 := gx 5 (by decide)
 rcases j with _ | _ | _ | _ | _ | _ | _ | _ | j
 ·rfl
 ·rfl
 ·exact g0
 ·exact g1
 ·exact g2
 ·exact g3
 ·exact g4
 ·exact g5
 ·omega
theorem ops_rd {fuel : Nat} {v : Value} {x : DataW H × List MemPlace} (h : DataW.trod enc Tryz.prog W 0 (fun _ => true) held fuel 76 [v] = some x) : ∃ ls, IsOps W v ls ∧ ∀ y ∈ ls, y.ok :=
 rd_row (P := Tryz.prog) (e := 86) (sz := 8) (ok := Ops.ok) (f := Ops.cell) (by decide) Tryz.underlying76 (by kernel_rfl) (fun _ _ _ h' => op_of_trod h') h
end
end Go.Proofs.YtkjabiabeemfhaaGreatDoor
end
