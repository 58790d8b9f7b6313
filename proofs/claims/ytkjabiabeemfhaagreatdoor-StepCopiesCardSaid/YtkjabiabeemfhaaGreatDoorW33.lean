/- an argument of operations of a run, opened -/
import Derived.Test.YtkjabiabeemfhaaGreatDoorW2
import Derived.Below
import Derived.ChangeSame
import Derived.ProofKit
import Derived.Carry
import Derived.Test.YtkjabiabeemfhaaGreatDoorW11
import Derived.ReadAgain
import Derived.Deep.Slices
import Derived.OpenShut
import Derived.LaidMore
import Derived.Test.YtkjabiabeemfhaaGreatDoorW4
import Derived.LaidByTextLater
import Derived.Deep.Strs
import Derived.Test.YtkjabiabeemfhaaGreatDoorW3
import Derived.Test.YtkjabiabeemfhaaGreatDoorW31
set_option linter.all false
set_option linter.all false
section
namespace Go.Proofs.YtkjabiabeemfhaaGreatDoor
open Go.RowKit Go.WideShapes Go.ChangeShapes
section
variable {H : Type} {enc : TypeId × Value → H} {P : Program}
theorem post_of_later {f : Func} {s : ChangeSpec} {apart fresh handsOn again : Bool} {W W' : World} {args : Array Value} {v : Value} {ds gs : List (DataW H)} {before pa pv : List MemPlace}
    (hW : DataW.Whole enc P f.params.toList s.vars apart W args.toList ds gs before)
    (hres : ∀ (b : Nat) (sp : Nat → Bool) (hd : Bool), DataW.TrodAll enc P W' b sp hd f.resultTypes.toList (v.resultList f.resultTypes.size) (s.fn H (ds ++ gs)).results [])
    (hargs : ∀ sp : Nat → Bool, (∀ p ∈ before, sp p.block = true) → DataW.TrodAll enc P W' 0 sp true f.params.toList args.toList (s.fn H (ds ++ gs)).args pa)
    (hvars : ∀ sp : Nat → Bool, (∀ p ∈ before, sp p.block = true) → DataW.TrodVars enc P W' sp s.vars (s.fn H (ds ++ gs)).vars pv)
    (hps : before = pa ++ pv) (hb : Later W W')
    (hok : ∀ (j : Nat) (t : TypeId) (r : Value), f.resultTypes[j]? = some t → (v.resultList f.resultTypes.size)[j]? = some r → Value.okWide P W' .any 0 t r) :
    s.post enc P f apart fresh handsOn again W args v W' := by
  have lt : ∀ p ∈ before, p.block < W.heap.size := fun p hp => hW.lt p hp
  have old : ∀ p ∈ before, (fun b => decide (b < W.heap.size)) p.block = true := fun p hp => by simpa using lt p hp
  have kept := Below.frame hb (· ∈ before)
  refine ⟨ds, gs, before, [], pa, pv, hW, hres _ _ _, hargs _ old, hvars _ old, World.keptBut_mono (fun p hp => ⟨hp, ?_⟩) kept, fun _ => ?_⟩
  · rw [hps, List.mem_append] at hp
    exact .inr hp
  · obtain ⟨_, _, _, _, _, hz, hn⟩ := hW
    refine ⟨hok, _, _, ([] ++ pa) ++ pv, ⟨[] ++ pa, pv, trodAll_append (hargs _ (fun _ _ => rfl)) (hres _ _ _), hvars _ (fun _ _ => rfl), rfl, ?_, ?_⟩, ?_⟩
    · intro b off hp
      have mem : MemPlace.cell b off ∈ before := by rw [hps]; simpa using hp
      rw [Below.frozen hb (lt _ mem)]
      exact hz b off mem
    · intro ha
      have := hn ha
      rw [hps] at this
      simpa using this
    · intro p hp _
      rw [hps]
      simpa using hp
end
theorem wf_i64 {x : Int} (h : (Lit.int .i64 x).wf = true) : -9223372036854775808 ≤ x ∧ x ≤ 9223372036854775807 := by
  simp [Lit.wf, IntKind.min, IntKind.max, IntKind.signed, IntKind.bits] at h
  omega
end Go.Proofs.YtkjabiabeemfhaaGreatDoor
end
section
namespace Go.Proofs.YtkjabiabeemfhaaGreatDoor
open Go.ChangeShapes Go.WideShapes Go.ChangeAt Go.RowKit
set_option maxRecDepth 100000
section
variable {H : Type} {enc : TypeId × Value → H} {W : World} {r : Reach} {base : Nat} {sp : Nat → Bool} {held : Bool}
theorem int_of_trod {t : TypeId} {n : Nat} {cs : List Value} {y : DataW H × List MemPlace} (ht : Tryz.prog.underlying t = some (.int .i64)) (h : DataW.trod enc Tryz.prog W 0 sp held n t cs = some y) : ∃ a, cs = [.int .i64 a] ∧ I64 a := by
  obtain ⟨a, h1, _, h2⟩ := DataW.trod_int ht h
  exact ⟨a, h1, wf_i64 h2⟩
theorem len2 {α : Type} {l : List α} (h : l.length = 2) : ∃ a b, l = [a, b] := by match l, h with | [a, b], _ => exact ⟨a, b, rfl⟩
theorem len5 {α : Type} {l : List α} (h : l.length = 5) : ∃ a b c d e, l = [a, b, c, d, e] := by match l, h with | [a, b, c, d, e], _ => exact ⟨a, b, c, d, e, rfl⟩
theorem len6 {α : Type} {l : List α} (h : l.length = 6) : ∃ a b c d e g, l = [a, b, c, d, e, g] := by match l, h with | [a, b, c, d, e, g], _ => exact ⟨a, b, c, d, e, g, rfl⟩
theorem some_of_lt {α : Type} {xs : List α} {i : Nat} (h : i < xs.length) : ∃ y, xs[i]? = some y := ⟨_, List.getElem?_eq_getElem h⟩
theorem ratio_of_trod {n : Nat} {cs : List Value} {y : DataW H × List MemPlace} (h : DataW.trod enc Tryz.prog W 0 sp held n 53 cs = some y) : ∃ a b, cs = [.int .i64 a, .int .i64 b] ∧ I64 a ∧ I64 b := by
  obtain ⟨xs, m, _, _, hl, hlen, hf⟩ := DataW.trod_struct Tryz.underlying53 h
  have c0 : Tryz.prog.cellsOf 53 = 2 := by kernel_rfl
  have c1 : Tryz.prog.cellsOf 3 = 1 := by kernel_rfl
  have hlen : xs.length = 2 := hlen
  have f0 : DataW.trod enc Tryz.prog W 0 sp held m 3 ((cs.drop 0).take (Tryz.prog.cellsOf 3)) = xs[0]? := hf 0 _ rfl
  have f1 : DataW.trod enc Tryz.prog W 0 sp held m 3 ((cs.drop 1).take (Tryz.prog.cellsOf 3)) = xs[1]? := hf 1 _ rfl
  obtain ⟨y0, e0⟩ := some_of_lt (xs := xs) (i := 0) (by omega)
  obtain ⟨y1, e1⟩ := some_of_lt (xs := xs) (i := 1) (by omega)
  rw [c1, e0] at f0
  rw [c1, e1] at f1
  rw [c0] at hl
  obtain ⟨a, b, rfl⟩ := len2 hl
  clear hf hl h
  · skip
    obtain ⟨p, hp, ip⟩ := int_of_trod Tryz.underlying3 f0
    obtain ⟨q, hq, iq⟩ := int_of_trod Tryz.underlying3 f1
    simp at hp hq
    subst hp hq
    exact ⟨p, q, rfl, ip, iq⟩
theorem node_of_trod {n : Nat} {cs : List Value} {y : DataW H × List MemPlace} (h : DataW.trod enc Tryz.prog W 0 sp held n 61 cs = some y) : ∃ x : Nd, x.ok ∧ ∀ j, j < 5 → cs[j]? = some (.int .i64 (x.cell j)) := by
  obtain ⟨xs, m, _, _, hl, hlen, hf⟩ := DataW.trod_struct Tryz.underlying61 h
  have c0 : Tryz.prog.cellsOf 61 = 5 := by kernel_rfl
  have c1 : Tryz.prog.cellsOf 3 = 1 := by kernel_rfl
  have c2 : Tryz.prog.cellsOf 53 = 2 := by kernel_rfl
  have hlen : xs.length = 4 := hlen
  have f0 : DataW.trod enc Tryz.prog W 0 sp held m 3 ((cs.drop 0).take (Tryz.prog.cellsOf 3)) = xs[0]? := hf 0 _ rfl
  have f1 : DataW.trod enc Tryz.prog W 0 sp held m 3 ((cs.drop 1).take (Tryz.prog.cellsOf 3)) = xs[1]? := hf 1 _ rfl
  have f2 : DataW.trod enc Tryz.prog W 0 sp held m 3 ((cs.drop 2).take (Tryz.prog.cellsOf 3)) = xs[2]? := hf 2 _ rfl
  have f3 : DataW.trod enc Tryz.prog W 0 sp held m 53 ((cs.drop 3).take (Tryz.prog.cellsOf 53)) = xs[3]? := hf 3 _ rfl
  obtain ⟨y0, e0⟩ := some_of_lt (xs := xs) (i := 0) (by omega)
  obtain ⟨y1, e1⟩ := some_of_lt (xs := xs) (i := 1) (by omega)
  obtain ⟨y2, e2⟩ := some_of_lt (xs := xs) (i := 2) (by omega)
  obtain ⟨y3, e3⟩ := some_of_lt (xs := xs) (i := 3) (by omega)
  rw [c1, e0] at f0
  rw [c1, e1] at f1
  rw [c1, e2] at f2
  rw [c2, e3] at f3
  rw [c0] at hl
  obtain ⟨a, b, c, d, e, rfl⟩ := len5 hl
  clear hf hl h
  · skip
    obtain ⟨p, hp, ip⟩ := int_of_trod Tryz.underlying3 f0
    obtain ⟨q, hq, iq⟩ := int_of_trod Tryz.underlying3 f1
    obtain ⟨r, hr, ir⟩ := int_of_trod Tryz.underlying3 f2
    obtain ⟨s, t, hs, is, it⟩ := ratio_of_trod f3
    simp at hp hq hr hs
    obtain ⟨hs, ht⟩ := hs
    subst hp hq hr hs ht
    refine ⟨⟨p, q, r, s, t⟩, ⟨ip, iq, ir, is, it⟩, fun j hj => ?_⟩
    rcases j with _ | _ | _ | _ | _ | j
    all_goals first | rfl | omega
theorem told_of_trod {n : Nat} {cs : List Value} {y : DataW H × List MemPlace} (h : DataW.trod enc Tryz.prog W 0 sp held n 55 cs = some y) : ∃ x : Td, x.ok ∧ ∀ j, j < 6 → cs[j]? = some (x.cell j) := by
  obtain ⟨xs, m, _, _, hl, hlen, hf⟩ := DataW.trod_struct Tryz.underlying55 h
  have c0 : Tryz.prog.cellsOf 55 = 6 := by kernel_rfl
  have c1 : Tryz.prog.cellsOf 3 = 1 := by kernel_rfl
  have c2 : Tryz.prog.cellsOf 53 = 2 := by kernel_rfl
  have c4 : Tryz.prog.cellsOf 4 = 1 := by kernel_rfl
  have hlen : xs.length = 5 := hlen
  have f0 : DataW.trod enc Tryz.prog W 0 sp held m 4 ((cs.drop 0).take (Tryz.prog.cellsOf 4)) = xs[0]? := hf 0 _ rfl
  have f1 : DataW.trod enc Tryz.prog W 0 sp held m 3 ((cs.drop 1).take (Tryz.prog.cellsOf 3)) = xs[1]? := hf 1 _ rfl
  have f2 : DataW.trod enc Tryz.prog W 0 sp held m 3 ((cs.drop 2).take (Tryz.prog.cellsOf 3)) = xs[2]? := hf 2 _ rfl
  have f3 : DataW.trod enc Tryz.prog W 0 sp held m 53 ((cs.drop 3).take (Tryz.prog.cellsOf 53)) = xs[3]? := hf 3 _ rfl
  have f4 : DataW.trod enc Tryz.prog W 0 sp held m 3 ((cs.drop 5).take (Tryz.prog.cellsOf 3)) = xs[4]? := hf 4 _ rfl
  obtain ⟨y0, e0⟩ := some_of_lt (xs := xs) (i := 0) (by omega)
  obtain ⟨y1, e1⟩ := some_of_lt (xs := xs) (i := 1) (by omega)
  obtain ⟨y2, e2⟩ := some_of_lt (xs := xs) (i := 2) (by omega)
  obtain ⟨y3, e3⟩ := some_of_lt (xs := xs) (i := 3) (by omega)
  obtain ⟨y4, e4⟩ := some_of_lt (xs := xs) (i := 4) (by omega)
  rw [c4, e0] at f0
  rw [c1, e1] at f1
  rw [c1, e2] at f2
  rw [c2, e3] at f3
  rw [c1, e4] at f4
  rw [c0] at hl
  obtain ⟨a, b, c, d, e, g, rfl⟩ := len6 hl
  clear hf hl h
  · skip
    obtain ⟨p, hp, _⟩ := DataW.trod_bool Tryz.underlying4 f0
    obtain ⟨q, hq, iq⟩ := int_of_trod Tryz.underlying3 f1
    obtain ⟨r, hr, ir⟩ := int_of_trod Tryz.underlying3 f2
    obtain ⟨s, t, hs, is, it⟩ := ratio_of_trod f3
    obtain ⟨u, hu, iu⟩ := int_of_trod Tryz.underlying3 f4
    simp at hp hq hr hs hu
    obtain ⟨hs, ht⟩ := hs
    subst hp hq hr hs ht hu
    refine ⟨⟨p, q, r, s, t, u⟩, ⟨iq, ir, is, it, iu⟩, fun j hj => ?_⟩
    rcases j with _ | _ | _ | _ | _ | _ | j
    all_goals first | rfl | omega
theorem kidsAll : Kids Tryz.prog (· < Tryz.prog.types.size) := kids_rows (by kernel_rfl) (by kernel_rfl)
theorem slicesFull : ∀ t e, t < Tryz.prog.types.size → Tryz.prog.underlying t = some (.slice e) → 0 < Tryz.prog.cellsOf e := slices_full_of Tryz.prog (by kernel_rfl)
theorem same_later {W W' : World} (hb : Later W W') {p : MemPlace} (h : p.block < W.heap.size) : W.sameAt W' p := by
  cases p with
  | cell b o => exact (bcell hb).1 b o h
  | map b => exact hb.block b h
theorem carryAll {P : Program} {W W' : World} : ∀ {ts : List TypeId} {vs : List Value} {ds : List (DataW H)} {ps : List MemPlace}, DataW.TrodAll enc P W base sp held ts vs ds ps → (∀ p ∈ ps, W.sameAt W' p) → DataW.TrodAll enc P W' base sp held ts vs ds ps
  | [], [], [], _, h, _ => h
  | _ :: _, _ :: _, _ :: _, _, ⟨p, q, ⟨n, h1⟩, h2, e⟩, hs => ⟨p, q, ⟨n, DataW.trod_carry _ _ _ _ h1 (fun x hx => hs x (by rw [e]; exact List.mem_append_left _ hx))⟩, carryAll h2 (fun x hx => hs x (by rw [e]; exact List.mem_append_right _ hx)), e⟩
theorem args_stay {W W' : World} {ts : List TypeId} {vs : List Value} {ds : List (DataW H)} {ps : List MemPlace} {sp : Nat → Bool} (ht : ∀ t ∈ ts, t < Tryz.prog.types.size) (h : DataW.TrodAll enc Tryz.prog W 0 (fun _ => true) true ts vs ds ps)
    (lt : ∀ p ∈ ps, p.block < W.heap.size) (hb : Later W W') (hs : ∀ p ∈ ps, sp p.block = true) : DataW.TrodAll enc Tryz.prog W' 0 sp true ts vs ds ps :=
  (carryAll h (fun p hp => same_later hb (lt p hp))).respare kidsAll slicesFull ht hs
end
end Go.Proofs.YtkjabiabeemfhaaGreatDoor
end
section
namespace Go.Proofs.YtkjabiabeemfhaaGreatDoor
open Go.ChangeShapes Go.WideShapes Go.ChangeAt Go.RowKit
abbrev laidT : List (String × DataW Unit) := Rows.denoteUpToRow.laid
def nameT : String := ((Rows.denoteUpToRow.laid.head?).map (·.1)).getD ""
def shpD (op : Int) : DataW Unit := .agg [.lit (.int .i64 (shp op 0)), .lit (.int .i64 (shp op 1)), .agg [.lit (.int .i64 (shp op 2)), .lit (.int .i64 (shp op 3)), .lit (.int .i64 (shp op 4)), .lit (.int .i64 (shp op 5))]]
theorem laid_shapes : Rows.laid_chattel_term_shapes (H := Unit) = .agg ((List.range 18).map fun i => shpD (i : Nat)) := by rfl
set_option maxRecDepth 100000
section
variable {enc : TypeId × Value → Unit} {W : World} {sp : Nat → Bool} {held : Bool}
theorem len4 {α : Type} {l : List α} (h : l.length = 4) : ∃ a b c d, l = [a, b, c, d] := by match l, h with | [a, b, c, d], _ => exact ⟨a, b, c, d, rfl⟩
theorem four_of_trod {n : Nat} {cs : List Value} {y : DataW Unit × List MemPlace} {p q r s : Int} (h : DataW.trod enc Tryz.prog W 0 sp held n 212 cs = some y) (hy : y.1 = .agg [.lit (.int .i64 p), .lit (.int .i64 q), .lit (.int .i64 r), .lit (.int .i64 s)]) :
    cs = [.int .i64 p, .int .i64 q, .int .i64 r, .int .i64 s] := by
  obtain ⟨xs, m, _, hx, hl, hlen, hf⟩ := DataW.trod_array Tryz.underlying212 h
  have c0 : Tryz.prog.cellsOf 212 = 4 := by kernel_rfl
  have c1 : Tryz.prog.cellsOf 3 = 1 := by kernel_rfl
  have f0 : DataW.trod enc Tryz.prog W 0 sp held m 3 ((cs.drop (0 * Tryz.prog.cellsOf 3)).take (Tryz.prog.cellsOf 3)) = xs[0]? := hf 0 (by omega)
  have f1 : DataW.trod enc Tryz.prog W 0 sp held m 3 ((cs.drop (1 * Tryz.prog.cellsOf 3)).take (Tryz.prog.cellsOf 3)) = xs[1]? := hf 1 (by omega)
  have f2 : DataW.trod enc Tryz.prog W 0 sp held m 3 ((cs.drop (2 * Tryz.prog.cellsOf 3)).take (Tryz.prog.cellsOf 3)) = xs[2]? := hf 2 (by omega)
  have f3 : DataW.trod enc Tryz.prog W 0 sp held m 3 ((cs.drop (3 * Tryz.prog.cellsOf 3)).take (Tryz.prog.cellsOf 3)) = xs[3]? := hf 3 (by omega)
  clear hf h
  rw [c1] at f0 f1 f2 f3
  rw [c0] at hl
  obtain ⟨a, b, c, d, rfl⟩ := len4 hl
  obtain ⟨y0, y1, y2, y3, rfl⟩ := len4 hlen
  subst hx
  simp only [List.map_cons, List.map_nil, DataW.agg.injEq, List.cons.injEq, and_true] at hy
  obtain ⟨h0, h1, h2, h3⟩ := hy
  obtain ⟨z0, a0, b0, _⟩ := DataW.trod_int Tryz.underlying3 (x := y0) f0
  obtain ⟨z1, a1, b1, _⟩ := DataW.trod_int Tryz.underlying3 (x := y1) f1
  obtain ⟨z2, a2, b2, _⟩ := DataW.trod_int Tryz.underlying3 (x := y2) f2
  obtain ⟨z3, a3, b3, _⟩ := DataW.trod_int Tryz.underlying3 (x := y3) f3
  subst b0 b1 b2 b3
  simp at a0 a1 a2 a3 h0 h1 h2 h3
  subst a0 a1 a2 a3 h0 h1 h2 h3
  rfl
theorem shape_of_trod {n : Nat} {cs : List Value} {y : DataW Unit × List MemPlace} {op : Int} (h : DataW.trod enc Tryz.prog W 0 sp held n 214 cs = some y) (hy : y.1 = shpD op) (j : Nat) (hj : j < 6) :
    cs[j]? = some (.int .i64 (shp op j)) := by
  obtain ⟨xs, m, _, hx, hl, hlen, hf⟩ := DataW.trod_struct Tryz.underlying214 h
  have c0 : Tryz.prog.cellsOf 214 = 6 := by kernel_rfl
  have c1 : Tryz.prog.cellsOf 3 = 1 := by kernel_rfl
  have c4 : Tryz.prog.cellsOf 212 = 4 := by kernel_rfl
  have hlen : xs.length = 3 := hlen
  have f0 : DataW.trod enc Tryz.prog W 0 sp held m 3 ((cs.drop 0).take (Tryz.prog.cellsOf 3)) = xs[0]? := hf 0 _ rfl
  have f1 : DataW.trod enc Tryz.prog W 0 sp held m 3 ((cs.drop 1).take (Tryz.prog.cellsOf 3)) = xs[1]? := hf 1 _ rfl
  have f2 : DataW.trod enc Tryz.prog W 0 sp held m 212 ((cs.drop 2).take (Tryz.prog.cellsOf 212)) = xs[2]? := hf 2 _ rfl
  clear hf h
  rw [c1] at f0 f1
  rw [c4] at f2
  rw [c0] at hl
  obtain ⟨a, b, c, d, e, g, rfl⟩ := len6 hl
  obtain ⟨y0, y1, y2, rfl⟩ : ∃ a b c, xs = [a, b, c] := by match xs, hlen with | [a, b, c], _ => exact ⟨a, b, c, rfl⟩
  subst hx
  unfold shpD at hy
  simp only [List.map_cons, List.map_nil, DataW.agg.injEq, List.cons.injEq, and_true] at hy
  obtain ⟨h0, h1, h2⟩ := hy
  obtain ⟨z0, a0, b0, _⟩ := DataW.trod_int Tryz.underlying3 (x := y0) f0
  obtain ⟨z1, a1, b1, _⟩ := DataW.trod_int Tryz.underlying3 (x := y1) f1
  have h4 := four_of_trod (y := y2) f2 h2
  subst b0 b1
  simp at a0 a1 h0 h1 h4
  obtain ⟨e1, e2, e3, e4⟩ := h4
  subst a0 a1 h0 h1 e1 e2 e3 e4
  rcases j with _ | _ | _ | _ | _ | _ | j
  all_goals first | rfl | omega
end
theorem shapes_of_laid {W : World} (h : laidMetH Tryz.prog laidT W) : Shapes W := by
  rw [MakeChecks.laidMetH_plain _ _ _ (by kernel_rfl)] at h
  obtain ⟨ps, ⟨g, t, cs, fuel, p, q, hg, ht, hv, hd, _, _⟩, _, _⟩ := h
  obtain rfl := Option.some.inj ((show Tryz.prog.globalNamed nameT = some 0 by kernel_rfl).symm.trans hg)
  obtain rfl := Option.some.inj ((show (Tryz.prog.globals[0]?).map (·.type) = some 255 by kernel_rfl).symm.trans ht)
  have c1 : Tryz.prog.cellsOf 214 = 6 := by kernel_rfl
  obtain ⟨xs, m, _, ex, hlen, hl, hel⟩ := DataW.trod_array Tryz.underlying255 hd
  rw [laid_shapes] at ex
  have e1 : (List.range 18).map (fun i => shpD (i : Nat)) = xs.map (·.1) := DataW.agg.inj (Prod.mk.inj ex).1
  have key : ∀ op : Nat, op < 18 → ∀ j, j < 6 → W.cell? ⟨0, op * 6 + j, none⟩ = some (.int .i64 (shp op j)) := by
    intro op ho j hj
    rw [World.var?_cell hg hv]
    obtain ⟨y, hy⟩ := some_of_lt (xs := xs) (i := op) (by omega)
    have h1 := hel op ho
    rw [hy, c1] at h1
    have h2 : y.1 = shpD (op : Nat) := by
      have := congrArg (fun l => l[op]?) e1
      simp only [List.getElem?_map, hy, Option.map_some] at this
      rw [List.getElem?_range ho] at this
      simpa using this.symm
    have h3 := shape_of_trod h1 h2 j hj
    rw [List.getElem?_take_of_lt hj, List.getElem?_drop] at h3
    rw [← Array.getElem?_toList]
    exact h3
  exact ⟨by have := World.block_lt_of_cell? _ _ (key 0 (by omega) 0 (by omega)); omega, key⟩
end Go.Proofs.YtkjabiabeemfhaaGreatDoor
end
section
namespace Go.Proofs.YtkjabiabeemfhaaGreatDoor
open Go.ChangeShapes Go.WideShapes Go.ChangeAt Go.RowKit
section
variable {H : Type} {enc : TypeId × Value → H} {W : World} {r : Reach} {base : Nat} {sp : Nat → Bool} {held : Bool}
theorem rd_row {P : Program} {α : Type} {sz : Nat} {f : α → Nat → Value} {ok : α → Prop} {t e : TypeId} {fuel : Nat} {v : Value} {x : DataW H × List MemPlace} (hsz : 0 < sz) (ht : P.underlying t = some (.slice e)) (hc : P.cellsOf e = sz)
    (hel : ∀ n cs d, DataW.trod enc P W 0 (fun _ => true) held n e cs = some d → ∃ y : α, ok y ∧ ∀ j, j < sz → cs[j]? = some (f y j))
    (h : DataW.trod enc P W 0 (fun _ => true) held fuel t [v] = some x) : ∃ xs, IsRow sz f W v xs ∧ ∀ y ∈ xs, ok y := by
  rcases Deep.open_slice ht h with ⟨h0, _⟩ | ⟨a, len, cap, m, n, D, Pl, h0, hb, hl, hm, hmm, _, hx⟩
  · simp only [List.cons.injEq, and_true] at h0
    exact ⟨[], .inl ⟨⟨none, h0⟩, rfl⟩, by simp⟩
  · simp only [List.cons.injEq, and_true] at h0
    subst h0
    rw [if_pos rfl] at hmm
    subst hmm
    rcases Nat.eq_zero_or_pos m with hm0 | hm0
    · subst hm0
      have : len = 0 := by omega
      subst this
      exact ⟨[], .inl ⟨⟨some a, rfl⟩, rfl⟩, by simp⟩
    · have h00 : W.cell? a = none ∨ ∃ u, W.cell? a = some u := by cases W.cell? a with | none => exact .inl rfl | some u => exact .inr ⟨u, rfl⟩
      obtain ⟨u, hu⟩ : ∃ u, W.cell? a = some u := by
        obtain ⟨cs, h1, h2⟩ := hx 0 hm0
        obtain ⟨y, _, h4⟩ := hel _ _ _ h2
        rw [hc, Nat.zero_mul] at h1
        obtain ⟨_, h5, h6⟩ := World.cells?_some h1
        have h7 := h6 0 hsz
        rw [h4 0 hsz] at h7
        have e : (a.add 0).add 0 = a := by obtain ⟨b, o, s⟩ := a; cases s <;> simp [Addr.add]
        rw [e] at h7
        exact ⟨_, h7⟩
      have hs := World.cell?_spot hu
      have hlt := World.block_lt_of_cell? _ _ hu
      obtain ⟨b, o, s⟩ := a
      simp only at hs hlt
      subst hs
      have key : ∀ i : Fin len, ∃ y : α, ok y ∧ ∀ j, j < sz → W.cell? ⟨b, o + i.1 * sz + j, none⟩ = some (f y j) := by
        intro i
        obtain ⟨cs, h1, h2⟩ := hx i.1 (Nat.lt_of_lt_of_le i.2 hl)
        obtain ⟨y, h3, h4⟩ := hel _ _ _ h2
        refine ⟨y, h3, fun j hj => ?_⟩
        rw [hc, add_plain] at h1
        obtain ⟨_, h5, h6⟩ := World.cells?_some h1
        have := h6 j hj
        rw [add_plain] at this
        rw [this]
        exact h4 j hj
      obtain ⟨g, hg⟩ := Classical.axiomOfChoice key
      refine ⟨List.ofFn g, .inr ⟨b, o, m, by rw [List.length_ofFn], hlt, by rw [List.length_ofFn]; exact hl, hm, fun i hi j hj => ?_⟩, fun y hy => ?_⟩
      · rw [List.getElem_ofFn]
        exact (hg ⟨i, by simpa using hi⟩).2 j hj
      · obtain ⟨i, rfl⟩ := List.mem_ofFn.1 hy
        exact (hg i).1
theorem rd_int {t : TypeId} {n : Nat} {cs : List Value} {y : DataW H × List MemPlace} (ht : Tryz.prog.underlying t = some (.int .i64)) (h : DataW.trod enc Tryz.prog W 0 sp held n t cs = some y) : ∃ a, cs = [.int .i64 a] ∧ I64 a := by
  obtain ⟨a, h1, _, h2⟩ := DataW.trod_int ht h
  exact ⟨a, h1, wf_i64 h2⟩
theorem rd_some {α : Type} {xs : List α} {i : Nat} (h : i < xs.length) : ∃ y, xs[i]? = some y := ⟨_, List.getElem?_eq_getElem h⟩
end
end Go.Proofs.YtkjabiabeemfhaaGreatDoor
end
section
namespace Go.Proofs.YtkjabiabeemfhaaGreatDoor
open Go.ChangeShapes Go.WideShapes Go.ChangeAt Go.RowKit
section
variable {H : Type} {enc : TypeId × Value → H} {W : World} {r : Reach} {base : Nat} {held : Bool}
theorem nodes_rd {fuel : Nat} {v : Value} {x : DataW H × List MemPlace} (h : DataW.trod enc Tryz.prog W 0 (fun _ => true) held fuel 22 [v] = some x) : ∃ ts, IsNodes W v ts ∧ ∀ y ∈ ts, y.ok :=
  rd_row (P := Tryz.prog) (e := 61) (sz := 5) (ok := Nd.ok) (f := fun (x : Nd) j => .int .i64 (x.cell j)) (by decide) Tryz.underlying22 (by kernel_rfl) (fun _ _ _ h' => node_of_trod h') h
set_option maxRecDepth 100000
end
end Go.Proofs.YtkjabiabeemfhaaGreatDoor
end
section
namespace Go.Proofs.YtkjabiabeemfhaaGreatDoor
open Go.ChangeShapes Go.WideShapes Go.ChangeAt Go.RowKit
section
variable {H : Type} {enc : TypeId × Value → H} {W : World} {held : Bool}
theorem rd_8 {α : Type} {l : List α} (h : l.length = 8) : ∃ a b c d e f g i, l = [a, b, c, d, e, f, g, i] := by match l, h with | [a, b, c, d, e, f, g, i], _ => exact ⟨a, b, c, d, e, f, g, i, rfl⟩
theorem op_of_trod {n : Nat} {cs : List Value} {y : DataW H × List MemPlace} (h : DataW.trod enc Tryz.prog W 0 (fun _ => true) held n 86 cs = some y) : ∃ x : Ops, x.ok ∧ ∀ j, j < 8 → cs[j]? = some (x.cell j) := by
  obtain ⟨xs, m, _, _, hl, hlen, hf⟩ := DataW.trod_struct Tryz.underlying86 h
  have c0 : Tryz.prog.cellsOf 86 = 8 := by kernel_rfl
  have c1 : Tryz.prog.cellsOf 3 = 1 := by kernel_rfl
  have c2 : Tryz.prog.cellsOf 55 = 6 := by kernel_rfl
  have c4 : Tryz.prog.cellsOf 4 = 1 := by kernel_rfl
  have hlen : xs.length = 3 := hlen
  have f0 : DataW.trod enc Tryz.prog W 0 (fun _ => true) held m 4 ((cs.drop 0).take (Tryz.prog.cellsOf 4)) = xs[0]? := hf 0 _ rfl
  have f1 : DataW.trod enc Tryz.prog W 0 (fun _ => true) held m 3 ((cs.drop 1).take (Tryz.prog.cellsOf 3)) = xs[1]? := hf 1 _ rfl
  have f2 : DataW.trod enc Tryz.prog W 0 (fun _ => true) held m 55 ((cs.drop 2).take (Tryz.prog.cellsOf 55)) = xs[2]? := hf 2 _ rfl
  obtain ⟨y0, e0⟩ := rd_some (xs := xs) (i := 0) (by omega)
  obtain ⟨y1, e1⟩ := rd_some (xs := xs) (i := 1) (by omega)
  obtain ⟨y2, e2⟩ := rd_some (xs := xs) (i := 2) (by omega)
  rw [c4, e0] at f0
  rw [c1, e1] at f1
  rw [c2, e2] at f2
  rw [c0] at hl
  obtain ⟨a, b, c, d, e, f, g, i, rfl⟩ := rd_8 hl
  clear hf hl h
  obtain ⟨p, hp, _⟩ := DataW.trod_bool Tryz.underlying4 f0
  obtain ⟨q, hq, iq⟩ := rd_int Tryz.underlying3 f1
  obtain ⟨x, hx, gx⟩ := told_of_trod f2
  simp at hp hq
  subst hp hq
  refine ⟨⟨p, q, x⟩, ⟨iq, hx⟩, fun j hj => ?_⟩
  have g0 := gx 0 (by decide)
  have g1 := gx 1 (by decide)
  have g2 := gx 2 (by decide)
  have g3 := gx 3 (by decide)
  have g4 := gx 4 (by decide)
  have g5 := gx 5 (by decide)
  rcases j with _ | _ | _ | _ | _ | _ | _ | _ | j
  · rfl
  · rfl
  · exact g0
  · exact g1
  · exact g2
  · exact g3
  · exact g4
  · exact g5
  · omega
theorem ops_rd {fuel : Nat} {v : Value} {x : DataW H × List MemPlace} (h : DataW.trod enc Tryz.prog W 0 (fun _ => true) held fuel 76 [v] = some x) : ∃ ls, IsOps W v ls ∧ ∀ y ∈ ls, y.ok :=
  rd_row (P := Tryz.prog) (e := 86) (sz := 8) (ok := Ops.ok) (f := Ops.cell) (by decide) Tryz.underlying76 (by kernel_rfl) (fun _ _ _ h' => op_of_trod h') h
end
end Go.Proofs.YtkjabiabeemfhaaGreatDoor
end
