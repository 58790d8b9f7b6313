/- arguments opened: a job; calls of a run -/
import Derived.Test.YtkjabiabeemfhaaGreatDoorV38
import Derived.Test.YtkjabiabeemfhaaGreatDoorV4
import Derived.LaidByTextLater
import Derived.Deep.Strs
import Derived.Test.YtkjabiabeemfhaaGreatDoorV3
import Derived.ReadAgain
import Derived.Deep.Slices
import Derived.OpenShut
import Derived.LaidMore
set_option linter.all false
set_option linter.all false
section
namespace Go.Proofs.YtkjabiabeemfhaaGreatDoor
open Go.ChangeShapes Go.WideShapes Go.ChangeAt Go.RowKit
abbrev laidT : List (String × DataW Unit) := Rows.denoteUpToRow.laid
def nameT : String := ((Rows.denoteUpToRow.laid.head?).map (·.1)).getD ""
def shpD (op : Int) : DataW Unit := .agg [.lit (.int .i64 (shp op 0)), .lit (.int .i64 (shp op 1)), .agg [.lit (.int .i64 (shp op 2)), .lit (.int .i64 (shp op 3)), .lit (.int .i64 (shp op 4)), .lit (.int .i64 (shp op 5))]]
theorem laid_shapes : Rows.laid_chattel_term_shapes (H := Unit) = .agg ((List.range 18).map fun i => shpD (i : Nat)) := by rfl
set_option maxRecDepth 100000
section
variable {enc : TypeId × Value → Unit} {W : World} {sp : Nat → Bool} {held : Bool}
theorem len4 {α : Type} {l : List α} (h : l.length = 4) : ∃ a b c d, l = [a, b, c, d] := by match l, h with | [a, b, c, d], _ => exact ⟨a, b, c, d, rfl⟩
theorem four_of_trod {n : Nat} {cs : List Value} {y : DataW Unit × List MemPlace} {p q r s : Int} (h : DataW.trod enc Tryz.prog W 0 sp held n 212 cs = some y) (hy : y.1 = .agg [.lit (.int .i64 p), .lit (.int .i64 q), .lit (.int .i64 r), .lit (.int .i64 s)]) :
    cs = [.int .i64 p, .int .i64 q, .int .i64 r, .int .i64 s] := by
  obtain ⟨xs, m, _, hx, hl, hlen, hf⟩ := DataW.trod_array Tryz.underlying212 h
  have c0 : Tryz.prog.cellsOf 212 = 4 := by kernel_rfl
  have c1 : Tryz.prog.cellsOf 3 = 1 := by kernel_rfl
  have f0 : DataW.trod enc Tryz.prog W 0 sp held m 3 ((cs.drop (0 * Tryz.prog.cellsOf 3)).take (Tryz.prog.cellsOf 3)) = xs[0]? := hf 0 (by omega)
  have f1 : DataW.trod enc Tryz.prog W 0 sp held m 3 ((cs.drop (1 * Tryz.prog.cellsOf 3)).take (Tryz.prog.cellsOf 3)) = xs[1]? := hf 1 (by omega)
  have f2 : DataW.trod enc Tryz.prog W 0 sp held m 3 ((cs.drop (2 * Tryz.prog.cellsOf 3)).take (Tryz.prog.cellsOf 3)) = xs[2]? := hf 2 (by omega)
  have f3 : DataW.trod enc Tryz.prog W 0 sp held m 3 ((cs.drop (3 * Tryz.prog.cellsOf 3)).take (Tryz.prog.cellsOf 3)) = xs[3]? := hf 3 (by omega)
  clear hf h
  rw [c1] at f0 f1 f2 f3
  rw [c0] at hl
  obtain ⟨a, b, c, d, rfl⟩ := len4 hl
  obtain ⟨y0, y1, y2, y3, rfl⟩ := len4 hlen
  subst hx
  simp only [List.map_cons, List.map_nil, DataW.agg.injEq, List.cons.injEq, and_true] at hy
  obtain ⟨h0, h1, h2, h3⟩ := hy
  obtain ⟨z0, a0, b0, _⟩ := DataW.trod_int Tryz.underlying3 (x := y0) f0
  obtain ⟨z1, a1, b1, _⟩ := DataW.trod_int Tryz.underlying3 (x := y1) f1
  obtain ⟨z2, a2, b2, _⟩ := DataW.trod_int Tryz.underlying3 (x := y2) f2
  obtain ⟨z3, a3, b3, _⟩ := DataW.trod_int Tryz.underlying3 (x := y3) f3
  subst b0 b1 b2 b3
  simp at a0 a1 a2 a3 h0 h1 h2 h3
  subst a0 a1 a2 a3 h0 h1 h2 h3
  rfl
theorem shape_of_trod {n : Nat} {cs : List Value} {y : DataW Unit × List MemPlace} {op : Int} (h : DataW.trod enc Tryz.prog W 0 sp held n 214 cs = some y) (hy : y.1 = shpD op) (j : Nat) (hj : j < 6) :
    cs[j]? = some (.int .i64 (shp op j)) := by
  obtain ⟨xs, m, _, hx, hl, hlen, hf⟩ := DataW.trod_struct Tryz.underlying214 h
  have c0 : Tryz.prog.cellsOf 214 = 6 := by kernel_rfl
  have c1 : Tryz.prog.cellsOf 3 = 1 := by kernel_rfl
  have c4 : Tryz.prog.cellsOf 212 = 4 := by kernel_rfl
  have hlen : xs.length = 3 := hlen
  have f0 : DataW.trod enc Tryz.prog W 0 sp held m 3 ((cs.drop 0).take (Tryz.prog.cellsOf 3)) = xs[0]? := hf 0 _ rfl
  have f1 : DataW.trod enc Tryz.prog W 0 sp held m 3 ((cs.drop 1).take (Tryz.prog.cellsOf 3)) = xs[1]? := hf 1 _ rfl
  have f2 : DataW.trod enc Tryz.prog W 0 sp held m 212 ((cs.drop 2).take (Tryz.prog.cellsOf 212)) = xs[2]? := hf 2 _ rfl
  clear hf h
  rw [c1] at f0 f1
  rw [c4] at f2
  rw [c0] at hl
  obtain ⟨a, b, c, d, e, g, rfl⟩ := len6 hl
  obtain ⟨y0, y1, y2, rfl⟩ : ∃ a b c, xs = [a, b, c] := by match xs, hlen with | [a, b, c], _ => exact ⟨a, b, c, rfl⟩
  subst hx
  unfold shpD at hy
  simp only [List.map_cons, List.map_nil, DataW.agg.injEq, List.cons.injEq, and_true] at hy
  obtain ⟨h0, h1, h2⟩ := hy
  obtain ⟨z0, a0, b0, _⟩ := DataW.trod_int Tryz.underlying3 (x := y0) f0
  obtain ⟨z1, a1, b1, _⟩ := DataW.trod_int Tryz.underlying3 (x := y1) f1
  have h4 := four_of_trod (y := y2) f2 h2
  subst b0 b1
  simp at a0 a1 h0 h1 h4
  obtain ⟨e1, e2, e3, e4⟩ := h4
  subst a0 a1 h0 h1 e1 e2 e3 e4
  rcases j with _ | _ | _ | _ | _ | _ | j
  all_goals first | rfl | omega
end
theorem shapes_of_laid {W : World} (h : laidMetH Tryz.prog laidT W) : Shapes W := by
  rw [MakeChecks.laidMetH_plain _ _ _ (by kernel_rfl)] at h
  obtain ⟨ps, ⟨g, t, cs, fuel, p, q, hg, ht, hv, hd, _, _⟩, _, _⟩ := h
  obtain rfl := Option.some.inj ((show Tryz.prog.globalNamed nameT = some 0 by kernel_rfl).symm.trans hg)
  obtain rfl := Option.some.inj ((show (Tryz.prog.globals[0]?).map (·.type) = some 255 by kernel_rfl).symm.trans ht)
  have c1 : Tryz.prog.cellsOf 214 = 6 := by kernel_rfl
  obtain ⟨xs, m, _, ex, hlen, hl, hel⟩ := DataW.trod_array Tryz.underlying255 hd
  rw [laid_shapes] at ex
  have e1 : (List.range 18).map (fun i => shpD (i : Nat)) = xs.map (·.1) := DataW.agg.inj (Prod.mk.inj ex).1
  have key : ∀ op : Nat, op < 18 → ∀ j, j < 6 → W.cell? ⟨0, op * 6 + j, none⟩ = some (.int .i64 (shp op j)) := by
    intro op ho j hj
    rw [World.var?_cell hg hv]
    obtain ⟨y, hy⟩ := some_of_lt (xs := xs) (i := op) (by omega)
    have h1 := hel op ho
    rw [hy, c1] at h1
    have h2 : y.1 = shpD (op : Nat) := by
      have := congrArg (fun l => l[op]?) e1
      simp only [List.getElem?_map, hy, Option.map_some] at this
      rw [List.getElem?_range ho] at this
      simpa using this.symm
    have h3 := shape_of_trod h1 h2 j hj
    rw [List.getElem?_take_of_lt hj, List.getElem?_drop] at h3
    rw [← Array.getElem?_toList]
    exact h3
  exact ⟨by have := World.block_lt_of_cell? _ _ (key 0 (by omega) 0 (by omega)); omega, key⟩
end Go.Proofs.YtkjabiabeemfhaaGreatDoor
end
section
namespace Go.Proofs.YtkjabiabeemfhaaGreatDoor
open Go.ChangeShapes Go.WideShapes Go.ChangeAt Go.RowKit
section
variable {H : Type} {enc : TypeId × Value → H} {W : World} {r : Reach} {base : Nat} {sp : Nat → Bool} {held : Bool}
theorem rd_row {P : Program} {α : Type} {sz : Nat} {f : α → Nat → Value} {ok : α → Prop} {t e : TypeId} {fuel : Nat} {v : Value} {x : DataW H × List MemPlace} (hsz : 0 < sz) (ht : P.underlying t = some (.slice e)) (hc : P.cellsOf e = sz)
    (hel : ∀ n cs d, DataW.trod enc P W 0 (fun _ => true) held n e cs = some d → ∃ y : α, ok y ∧ ∀ j, j < sz → cs[j]? = some (f y j))
    (h : DataW.trod enc P W 0 (fun _ => true) held fuel t [v] = some x) : ∃ xs, IsRow sz f W v xs ∧ ∀ y ∈ xs, ok y := by
  rcases Deep.open_slice ht h with ⟨h0, _⟩ | ⟨a, len, cap, m, n, D, Pl, h0, hb, hl, hm, hmm, _, hx⟩
  · simp only [List.cons.injEq, and_true] at h0
    exact ⟨[], .inl ⟨⟨none, h0⟩, rfl⟩, by simp⟩
  · simp only [List.cons.injEq, and_true] at h0
    subst h0
    rw [if_pos rfl] at hmm
    subst hmm
    rcases Nat.eq_zero_or_pos m with hm0 | hm0
    · subst hm0
      have : len = 0 := by omega
      subst this
      exact ⟨[], .inl ⟨⟨some a, rfl⟩, rfl⟩, by simp⟩
    · have h00 : W.cell? a = none ∨ ∃ u, W.cell? a = some u := by cases W.cell? a with | none => exact .inl rfl | some u => exact .inr ⟨u, rfl⟩
      obtain ⟨u, hu⟩ : ∃ u, W.cell? a = some u := by
        obtain ⟨cs, h1, h2⟩ := hx 0 hm0
        obtain ⟨y, _, h4⟩ := hel _ _ _ h2
        rw [hc, Nat.zero_mul] at h1
        obtain ⟨_, h5, h6⟩ := World.cells?_some h1
        have h7 := h6 0 hsz
        rw [h4 0 hsz] at h7
        have e : (a.add 0).add 0 = a := by obtain ⟨b, o, s⟩ := a; cases s <;> simp [Addr.add]
        rw [e] at h7
        exact ⟨_, h7⟩
      have hs := World.cell?_spot hu
      have hlt := World.block_lt_of_cell? _ _ hu
      obtain ⟨b, o, s⟩ := a
      simp only at hs hlt
      subst hs
      have key : ∀ i : Fin len, ∃ y : α, ok y ∧ ∀ j, j < sz → W.cell? ⟨b, o + i.1 * sz + j, none⟩ = some (f y j) := by
        intro i
        obtain ⟨cs, h1, h2⟩ := hx i.1 (Nat.lt_of_lt_of_le i.2 hl)
        obtain ⟨y, h3, h4⟩ := hel _ _ _ h2
        refine ⟨y, h3, fun j hj => ?_⟩
        rw [hc, add_plain] at h1
        obtain ⟨_, h5, h6⟩ := World.cells?_some h1
        have := h6 j hj
        rw [add_plain] at this
        rw [this]
        exact h4 j hj
      obtain ⟨g, hg⟩ := Classical.axiomOfChoice key
      refine ⟨List.ofFn g, .inr ⟨b, o, m, by rw [List.length_ofFn], hlt, by rw [List.length_ofFn]; exact hl, hm, fun i hi j hj => ?_⟩, fun y hy => ?_⟩
      · rw [List.getElem_ofFn]
        exact (hg ⟨i, by simpa using hi⟩).2 j hj
      · obtain ⟨i, rfl⟩ := List.mem_ofFn.1 hy
        exact (hg i).1
theorem rd_int {t : TypeId} {n : Nat} {cs : List Value} {y : DataW H × List MemPlace} (ht : Tryz.prog.underlying t = some (.int .i64)) (h : DataW.trod enc Tryz.prog W 0 sp held n t cs = some y) : ∃ a, cs = [.int .i64 a] ∧ I64 a := by
  obtain ⟨a, h1, _, h2⟩ := DataW.trod_int ht h
  exact ⟨a, h1, wf_i64 h2⟩
theorem rd_some {α : Type} {xs : List α} {i : Nat} (h : i < xs.length) : ∃ y, xs[i]? = some y := ⟨_, List.getElem?_eq_getElem h⟩
theorem rd_4 {α : Type} {l : List α} (h : l.length = 4) : ∃ a b c d, l = [a, b, c, d] := by match l, h with | [a, b, c, d], _ => exact ⟨a, b, c, d, rfl⟩
end
end Go.Proofs.YtkjabiabeemfhaaGreatDoor
end
section
namespace Go.Proofs.YtkjabiabeemfhaaGreatDoor
open Go.ChangeShapes Go.WideShapes Go.ChangeAt Go.RowKit
section
variable {H : Type} {enc : TypeId × Value → H} {W : World} {r : Reach} {base : Nat} {held : Bool}
theorem nodes_rd {fuel : Nat} {v : Value} {x : DataW H × List MemPlace} (h : DataW.trod enc Tryz.prog W 0 (fun _ => true) held fuel 22 [v] = some x) : ∃ ts, IsNodes W v ts ∧ ∀ y ∈ ts, y.ok :=
  rd_row (P := Tryz.prog) (e := 61) (sz := 5) (ok := Nd.ok) (f := fun (x : Nd) j => .int .i64 (x.cell j)) (by decide) Tryz.underlying22 (by kernel_rfl) (fun _ _ _ h' => node_of_trod h') h
theorem tolds_rd {fuel : Nat} {v : Value} {x : DataW H × List MemPlace} (h : DataW.trod enc Tryz.prog W 0 (fun _ => true) held fuel 23 [v] = some x) : ∃ ts, IsTolds W v ts ∧ ∀ y ∈ ts, y.ok :=
  rd_row (P := Tryz.prog) (e := 55) (sz := 6) (ok := Td.ok) (f := Td.cell) (by decide) Tryz.underlying23 (by kernel_rfl) (fun _ _ _ h' => told_of_trod h') h
set_option maxRecDepth 100000
theorem job_cells {n : Nat} {cs : List Value} {y : DataW H × List MemPlace} (h : DataW.trod enc Tryz.prog W 0 (fun _ => true) held n 25 cs = some y) :
    ∃ u1 a b u2 l1 l2, cs = [u1, .int .i64 a, .int .i64 b, u2] ∧ I64 a ∧ I64 b ∧ IsNodes W u1 l1 ∧ IsTolds W u2 l2 ∧ (∀ y ∈ l1, y.ok) ∧ ∀ y ∈ l2, y.ok := by
  obtain ⟨xs, m, _, _, hl, hlen, hf⟩ := DataW.trod_struct Tryz.underlying25 h
  have c0 : Tryz.prog.cellsOf 25 = 4 := by kernel_rfl
  have c1 : Tryz.prog.cellsOf 3 = 1 := by kernel_rfl
  have c2 : Tryz.prog.cellsOf 22 = 1 := by kernel_rfl
  have c3 : Tryz.prog.cellsOf 23 = 1 := by kernel_rfl
  have hlen : xs.length = 4 := hlen
  have f0 : DataW.trod enc Tryz.prog W 0 (fun _ => true) held m 22 ((cs.drop 0).take (Tryz.prog.cellsOf 22)) = xs[0]? := hf 0 _ rfl
  have f1 : DataW.trod enc Tryz.prog W 0 (fun _ => true) held m 3 ((cs.drop 1).take (Tryz.prog.cellsOf 3)) = xs[1]? := hf 1 _ rfl
  have f2 : DataW.trod enc Tryz.prog W 0 (fun _ => true) held m 3 ((cs.drop 2).take (Tryz.prog.cellsOf 3)) = xs[2]? := hf 2 _ rfl
  have f3 : DataW.trod enc Tryz.prog W 0 (fun _ => true) held m 23 ((cs.drop 3).take (Tryz.prog.cellsOf 23)) = xs[3]? := hf 3 _ rfl
  obtain ⟨y0, e0⟩ := rd_some (xs := xs) (i := 0) (by omega)
  obtain ⟨y1, e1⟩ := rd_some (xs := xs) (i := 1) (by omega)
  obtain ⟨y2, e2⟩ := rd_some (xs := xs) (i := 2) (by omega)
  obtain ⟨y3, e3⟩ := rd_some (xs := xs) (i := 3) (by omega)
  rw [c2, e0] at f0
  rw [c1, e1] at f1
  rw [c1, e2] at f2
  rw [c3, e3] at f3
  rw [c0] at hl
  obtain ⟨a, b, c, d, rfl⟩ := rd_4 hl
  clear hf hl h
  obtain ⟨p, hp, ip⟩ := rd_int Tryz.underlying3 f1
  obtain ⟨q, hq, iq⟩ := rd_int Tryz.underlying3 f2
  simp at hp hq
  subst hp hq
  obtain ⟨l1, g1, o1⟩ := nodes_rd (v := a) (by simpa using f0)
  obtain ⟨l2, g2, o2⟩ := tolds_rd (v := d) (by simpa using f3)
  exact ⟨a, p, q, d, l1, l2, rfl, ip, iq, g1, g2, o1, o2⟩
theorem job_of_trod {fuel : Nat} {v : Value} {x : DataW H × List MemPlace} (hk : Value.okWide Tryz.prog W r base 25 v) (h : DataW.trod enc Tryz.prog W 0 (fun _ => true) held fuel 25 v.cells.toList = some x) :
    ∃ u1 a b u2 l1 l2, v = .agg #[u1, .int .i64 a, .int .i64 b, u2] ∧ I64 a ∧ I64 b ∧ IsNodes W u1 l1 ∧ IsTolds W u2 l2 ∧ (∀ y ∈ l1, y.ok) ∧ ∀ y ∈ l2, y.ok := by
  obtain ⟨s, rfl, -, -⟩ : ∃ cs, v = .agg cs ∧ cs.size = Tryz.prog.cellsOf 25 ∧ Row.okWide Tryz.prog W r base 25 cs := by simpa only [Value.okWide, Tryz.underlying25] using hk
  obtain ⟨u1, a, b, u2, l1, l2, he, i1, i2, g1, g2, o1, o2⟩ := job_cells h
  refine ⟨u1, a, b, u2, l1, l2, ?_, i1, i2, g1, g2, o1, o2⟩
  cases s with
  | mk s => simp [Value.cells] at he; rw [he]
end
end Go.Proofs.YtkjabiabeemfhaaGreatDoor
end
