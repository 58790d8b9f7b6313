/- what the cash rows list, laid: the table of currencies, the table of powers of ten, the library's two errors -/
import Derived.Test.YtckeaibamgkegaaDoorCashA
import Derived.Deep.Strs
import Derived.Test.YtckeaibamgkegaaDoorRows
import Derived.Test.YtckeaibamgkegaaDoorPost
import Derived.ProofKit
import Derived.LaidMore
import Derived.OpenShut
import Derived.HandedShaped
import Derived.LaidByTextLater
import Derived.Lib.LaidTab
import Derived.Stop.LaidErr
import Derived.Shelf.Vars
import Derived.Lay
import Derived.ChangeMaps5
set_option linter.all false
namespace Go.Proofs.YtckeaibamgkegaaDoor
open Go.ChangeShapes Go.WideShapes Go.ChangeAt Go.RowKit
set_option maxRecDepth 100000

abbrev laidR : List (String × DataW Unit) := Rows.cashPrintsRow.laid
def nameR (k : Nat) : String := ((Rows.cashPrintsRow.laid.drop k).head?.map (·.1)).getD ""
def plainR : List (String × DataW Unit) := Rows.cashPrintsRow.laid.filter fun x => x.2.handleName?.isNone
theorem plain_of_laidR {W : World} (h : laidMetH Tryd.prog laidR W) : laidMet Tryd.prog plainR W := by
  unfold laidMetH at h
  split at h
  · exact h
  · exact h.1
theorem drop_of_laid {W : World} : ∀ (k : Nat) (l : List (String × DataW Unit)), laidMet Tryd.prog l W → laidMet Tryd.prog (l.drop k) W
  | 0, _, h => h
  | k + 1, [], h => h
  | k + 1, _ :: r, h => drop_of_laid k r h.tail
theorem star_R : "*" ++ "errors.errorString" = "*errors.errorString" := by decide
theorem err_rowR (u : TypeId) (h : Tryd.prog.typeName? 3 u = some "*errors.errorString") : u = 178 :=
  typeName_ptr_named (nm := "errors.errorString") (by rw [star_R]; kernel_rfl) (by kernel_rfl) (by decide) u (by rw [star_R]; exact h)
theorem pow_of_laidR {W : World} (h : laidMetH Tryd.prog laidR W) : PowTab W := by
  have h2 := drop_of_laid 2 _ (plain_of_laidR h)
  exact Lib.tabIs_of_head (zs := Lib.pow10Tab) (k := .u64) (t := 173) (e := 89) (n := 20) (g := 6) (by kernel_rfl) (by kernel_rfl) Tryd.underlying173 Tryd.underlying89 (by kernel_rfl) (by kernel_rfl) h2
theorem rng_of_laidR {W : World} (h : laidMetH Tryd.prog laidR W) : ∃ t p, W.var? Tryd.prog "strconv.ErrRange" = some #[.iface t p] := by
  have h2 : laidMet Tryd.prog (("strconv.ErrRange", .iface "*errors.errorString" (.ptr (.agg [.lit (.string [118, 97, 108, 117, 101, 32, 111, 117, 116, 32, 111, 102, 32, 114, 97, 110, 103, 101])]))) :: plainR.drop 5) W := drop_of_laid 4 _ (plain_of_laidR h)
  obtain ⟨a, s, hv, -⟩ := laid_sentinel (g := 3) (ti := 67) h2 (by kernel_rfl) (by kernel_rfl) Tryd.underlying67 err_rowR Tryd.underlying178 Tryd.underlying180 rfl rfl Tryd.underlying9 (by kernel_rfl) (by kernel_rfl)
  exact ⟨_, _, hv⟩
theorem syn_of_laidR {W : World} (h : laidMetH Tryd.prog laidR W) : ∃ t p, W.var? Tryd.prog "strconv.ErrSyntax" = some #[.iface t p] := by
  have h2 : laidMet Tryd.prog (("strconv.ErrSyntax", .iface "*errors.errorString" (.ptr (.agg [.lit (.string [105, 110, 118, 97, 108, 105, 100, 32, 115, 121, 110, 116, 97, 120])]))) :: plainR.drop 6) W := drop_of_laid 5 _ (plain_of_laidR h)
  obtain ⟨a, s, hv, -⟩ := laid_sentinel (g := 2) (ti := 67) h2 (by kernel_rfl) (by kernel_rfl) Tryd.underlying67 err_rowR Tryd.underlying178 Tryd.underlying180 rfl rfl Tryd.underlying9 (by kernel_rfl) (by kernel_rfl)
  exact ⟨_, _, hv⟩
theorem max_of_shapeR {W : World} (h : W.ShapedOpen Tryd.prog) : ∃ m, W.cell? ⟨1, 0, none⟩ = some (.int .i64 m) :=
  cell_of_shapedOpen_int (t := 3) (zero := #[.int .i64 0]) h (of_decide_eq_true (by kernel_rfl)) (by kernel_rfl) rfl (by kernel_rfl) (by kernel_rfl) Tryd.underlying3
theorem lib_of_laidR {W : World} (h : laidMetH Tryd.prog laidR W) (hs : W.ShapedOpen Tryd.prog) : LibAt W := ⟨pow_of_laidR h, max_of_shapeR hs, syn_of_laidR h, rng_of_laidR h⟩

/-- A row's claim from a contract that is handed what is laid, and the world's shape. -/
theorem returns_laidR {H : Type} {enc : TypeId × Value → H} {a : Assume} {os : Os} {f : FuncId} {fn : Func} {s : ChangeSpec} {conds : List PathCond} {apart fresh handsOn again : Bool} {X : World → Array Value → Prop}
    (hX : ∀ (w w' : World) (args : Array Value), w.heap = w'.heap → X w args → X w' args)
    (own : ownKnob Tryd.checked.prog.godebug = none) (started : os.Started) (noInit : Tryd.checked.prog.inits.idxOf? f = none) (hfn : Tryd.checked.prog.funcs[f]? = some fn)
    (witness : ∃ (w : World) (tape : Tape) (i : Input), w.os = os ∧ (w.forCall tape i).Shaped Tryd.checked.prog ∧ i.vars = [] ∧ Input.okWide Tryd.checked.prog (w.forCall tape i) .any w.heap.size f i ∧
      ((s.pre enc Tryd.checked.prog fn conds apart (w.forCall tape i).memory i.args ∧ X (w.forCall tape i).memory i.args) ∧ sizedMet enc Tryd.checked.prog fn (OpenSpec.ofChange s) apart (w.forCall tape i).memory i.args) ∧ a.holds Tryd.checked.prog (lone (Frame.enter Tryd.checked.prog f i.args .normal) [] (w.forCall tape i)))
    (contract : ∀ (W : World) (base : Nat) (args : Array Value) (ds gs : List (DataW H)) (before : List MemPlace),
      (∀ (j : Nat) t v, fn.params[j]? = some t → args[j]? = some v → Value.okWide Tryd.checked.prog W .any base t v) →
      DataW.Whole enc Tryd.checked.prog fn.params.toList s.vars apart W args.toList ds gs before → X W args → W.ShapedOpen Tryd.checked.prog →
      Calls Tryd.checked.prog f args W fun e W' => ∃ v, e = .returned v ∧ s.post enc Tryd.checked.prog fn apart fresh handsOn again W args v W') :
    ReturnsInHanded a Tryd.checked os f .any (fun w args => (s.pre enc Tryd.checked.prog fn conds apart w args ∧ X w args) ∧ sizedMet enc Tryd.checked.prog fn (OpenSpec.ofChange s) apart w args) (s.post enc Tryd.checked.prog fn apart fresh handsOn again) := by
  refine returnsInHanded_of_calls own started noInit witness (fun w tape i _ hsh _ hok hpre _ => ?_)
  obtain ⟨-, -, -, g, hg, -, -, -, -, hval⟩ := hok
  cases (hg.symm.trans hfn)
  obtain ⟨⟨⟨ds, gs, before, hw, -⟩, hx⟩, -⟩ := hpre
  refine (contract (w.forCall tape i) w.heap.size i.args ds gs before hval (DataW.Whole.of_heap (w' := w.forCall tape i) (by rfl) hw) (hX _ _ _ (by rfl) hx) hsh).mono ?_
  rintro e W' ⟨v, rfl, hp⟩
  exact ChangeSpec.post_blind hp
theorem some_of_lt2 {α : Type} {xs : List α} {i : Nat} (h : i < xs.length) : ∃ y, xs[i]? = some y := ⟨_, List.getElem?_eq_getElem h⟩
def curD (c : Nat) : DataW Unit := .agg [.lit (.string (nmL c)), .lit (.int .i64 (dgN c))]
theorem laid_cur : Rows.laid_chattel_cash_currencies (H := Unit) = .agg ((List.range 8).map curD) := by rfl
theorem cur_of_trod {enc : TypeId × Value → Unit} {W : World} {sp : Nat → Bool} {held : Bool} {n : Nat} {cs : List Value} {y : DataW Unit × List MemPlace} {c : Nat} (h : DataW.trod enc Tryd.prog W 0 sp held n 74 cs = some y) (hy : y.1 = curD c) :
    cs = [.string (nmB c), .int .i64 (dgN c)] := by
  obtain ⟨xs, m, _, hx, hl, hlen, hf⟩ := DataW.trod_struct Tryd.underlying74 h
  have c0 : Tryd.prog.cellsOf 74 = 2 := by kernel_rfl
  have c1 : Tryd.prog.cellsOf 9 = 1 := by kernel_rfl
  have c2 : Tryd.prog.cellsOf 3 = 1 := by kernel_rfl
  have hlen : xs.length = 2 := hlen
  have f0 : DataW.trod enc Tryd.prog W 0 sp held m 9 ((cs.drop 0).take (Tryd.prog.cellsOf 9)) = xs[0]? := hf 0 _ rfl
  have f1 : DataW.trod enc Tryd.prog W 0 sp held m 3 ((cs.drop 1).take (Tryd.prog.cellsOf 3)) = xs[1]? := hf 1 _ rfl
  clear hf h
  rw [c1] at f0
  rw [c2] at f1
  rw [c0] at hl
  obtain ⟨a, d, rfl⟩ : ∃ a b, cs = [a, b] := by match cs, hl with | [a, b], _ => exact ⟨a, b, rfl⟩
  obtain ⟨y0, y1, rfl⟩ : ∃ a b, xs = [a, b] := by match xs, hlen with | [a, b], _ => exact ⟨a, b, rfl⟩
  subst hx
  unfold curD at hy
  simp only [List.map_cons, List.map_nil, DataW.agg.injEq, List.cons.injEq, and_true] at hy
  obtain ⟨h0, h1⟩ := hy
  obtain ⟨z0, a0, b0, _⟩ := DataW.trod_string Tryd.underlying9 (x := y0) f0
  obtain ⟨z1, a1, b1, _⟩ := DataW.trod_int Tryd.underlying3 (x := y1) f1
  subst b0 b1
  simp at a0 a1 h0 h1
  subst a0 a1 h1
  have : z0 = nmB c := by unfold nmB; rw [← h0]
  rw [this]
theorem cur_of_laidR {W : World} (h : laidMetH Tryd.prog laidR W) : CurAt W := by
  have h2 : laidMet Tryd.prog ((nameR 6, Rows.laid_chattel_cash_currencies) :: plainR.drop 7) W := drop_of_laid 6 _ (plain_of_laidR h)
  obtain ⟨ps, ⟨g, t, cs, fuel, p, q, hg, ht, hv, hd, _, _⟩, _, _⟩ := h2
  obtain rfl := Option.some.inj ((show Tryd.prog.globalNamed (nameR 6) = some 0 by kernel_rfl).symm.trans hg)
  obtain rfl := Option.some.inj ((show (Tryd.prog.globals[0]?).map (·.type) = some 75 by kernel_rfl).symm.trans ht)
  have c1 : Tryd.prog.cellsOf 74 = 2 := by kernel_rfl
  obtain ⟨xs, m, _, ex, hlen, hl, hel⟩ := DataW.trod_array Tryd.underlying75 hd
  rw [laid_cur] at ex
  have e1 : (List.range 8).map curD = xs.map (·.1) := DataW.agg.inj (Prod.mk.inj ex).1
  intro c hc
  obtain ⟨y, hy⟩ := some_of_lt2 (xs := xs) (i := c) (by omega)
  have h1 := hel c hc
  rw [hy, c1] at h1
  have h2 : y.1 = curD c := by
    have := congrArg (fun l => l[c]?) e1
    simp only [List.getElem?_map, hy, Option.map_some] at this
    rw [List.getElem?_range hc] at this
    simpa using this.symm
  have h3 := cur_of_trod h1 h2
  have k0 : cs[c * 2]? = some (.string (nmB c)) := by
    have := congrArg (fun l => l[0]?) h3
    simp only [List.getElem?_cons_zero] at this
    rw [List.getElem?_take_of_lt (by omega), List.getElem?_drop] at this
    rw [← Array.getElem?_toList]
    exact this
  have k1 : cs[c * 2 + 1]? = some (.int .i64 (dgN c)) := by
    have := congrArg (fun l => l[1]?) h3
    simp only [List.getElem?_cons_succ, List.getElem?_cons_zero] at this
    rw [List.getElem?_take_of_lt (by omega), List.getElem?_drop] at this
    rw [← Array.getElem?_toList]
    exact this
  exact ⟨(World.var?_cell hg hv (c * 2)).trans k0, (World.var?_cell hg hv (c * 2 + 1)).trans k1⟩
theorem door_R (os : Os) (args : Array Value) : laidMetH Tryd.prog laidR ((World.laidAll Tryd.prog os laidR).forCall (fun _ _ => 0) ⟨#[], args, []⟩).memory := by
  rw [MakeChecks.laidMetH_plain _ _ _ (by kernel_rfl)]
  exact laidMet_laidAll _ (by kernel_rfl) (by kernel_rfl)
theorem shaped_R (os : Os) : (World.laidAll Tryd.prog os laidR).Shaped Tryd.prog := World.shaped_of_ZipB (by kernel_rfl) (by kernel_rfl)
end Go.Proofs.YtckeaibamgkegaaDoor
