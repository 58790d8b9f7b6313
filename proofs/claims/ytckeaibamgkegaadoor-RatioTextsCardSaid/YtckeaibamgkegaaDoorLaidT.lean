/- what the row lists, laid: the table of powers of ten, the library's two errors -/
import Derived.Test.YtckeaibamgkegaaDoorLib
import Derived.Test.YtckeaibamgkegaaDoorRows
import Derived.Test.YtckeaibamgkegaaDoorPost
import Derived.ProofKit
import Derived.LaidMore
import Derived.OpenShut
import Derived.HandedShaped
import Derived.LaidByTextLater
import Derived.Lib.LaidTab
import Derived.Stop.LaidErr
import Derived.Shelf.Vars
set_option linter.all false
namespace Go.Proofs.YtckeaibamgkegaaDoor
open Go.ChangeShapes Go.WideShapes Go.ChangeAt Go.RowKit
set_option maxRecDepth 100000

abbrev laidR : List (String × DataW Unit) := Rows.ratioTextsRow.laid
def nameR (k : Nat) : String := ((Rows.ratioTextsRow.laid.drop k).head?.map (·.1)).getD ""
def plainR : List (String × DataW Unit) := Rows.ratioTextsRow.laid.filter fun x => x.2.handleName?.isNone
theorem plain_of_laidR {W : World} (h : laidMetH Tryd.prog laidR W) : laidMet Tryd.prog plainR W := by
  unfold laidMetH at h
  split at h
  · exact h
  · exact h.1
theorem drop_of_laid {W : World} : ∀ (k : Nat) (l : List (String × DataW Unit)), laidMet Tryd.prog l W → laidMet Tryd.prog (l.drop k) W
  | 0, _, h => h
  | k + 1, [], h => h
  | k + 1, _ :: r, h => drop_of_laid k r h.tail
theorem star_R : "*" ++ "errors.errorString" = "*errors.errorString" := by decide
theorem err_rowR (u : TypeId) (h : Tryd.prog.typeName? 3 u = some "*errors.errorString") : u = 178 :=
  typeName_ptr_named (nm := "errors.errorString") (by rw [star_R]; kernel_rfl) (by kernel_rfl) (by decide) u (by rw [star_R]; exact h)
theorem pow_of_laidR {W : World} (h : laidMetH Tryd.prog laidR W) : PowTab W := by
  have h2 := drop_of_laid 2 _ (plain_of_laidR h)
  exact Lib.tabIs_of_head (zs := Lib.pow10Tab) (k := .u64) (t := 173) (e := 89) (n := 20) (g := 6) (by kernel_rfl) (by kernel_rfl) Tryd.underlying173 Tryd.underlying89 (by kernel_rfl) (by kernel_rfl) h2
theorem rng_of_laidR {W : World} (h : laidMetH Tryd.prog laidR W) : ∃ t p, W.var? Tryd.prog "strconv.ErrRange" = some #[.iface t p] := by
  have h2 : laidMet Tryd.prog (("strconv.ErrRange", .iface "*errors.errorString" (.ptr (.agg [.lit (.string [118, 97, 108, 117, 101, 32, 111, 117, 116, 32, 111, 102, 32, 114, 97, 110, 103, 101])]))) :: plainR.drop 4) W := drop_of_laid 3 _ (plain_of_laidR h)
  obtain ⟨a, s, hv, -⟩ := laid_sentinel (g := 3) (ti := 67) h2 (by kernel_rfl) (by kernel_rfl) Tryd.underlying67 err_rowR Tryd.underlying178 Tryd.underlying180 rfl rfl Tryd.underlying9 (by kernel_rfl) (by kernel_rfl)
  exact ⟨_, _, hv⟩
theorem syn_of_laidR {W : World} (h : laidMetH Tryd.prog laidR W) : ∃ t p, W.var? Tryd.prog "strconv.ErrSyntax" = some #[.iface t p] := by
  have h2 : laidMet Tryd.prog (("strconv.ErrSyntax", .iface "*errors.errorString" (.ptr (.agg [.lit (.string [105, 110, 118, 97, 108, 105, 100, 32, 115, 121, 110, 116, 97, 120])]))) :: plainR.drop 5) W := drop_of_laid 4 _ (plain_of_laidR h)
  obtain ⟨a, s, hv, -⟩ := laid_sentinel (g := 2) (ti := 67) h2 (by kernel_rfl) (by kernel_rfl) Tryd.underlying67 err_rowR Tryd.underlying178 Tryd.underlying180 rfl rfl Tryd.underlying9 (by kernel_rfl) (by kernel_rfl)
  exact ⟨_, _, hv⟩
theorem max_of_shapeR {W : World} (h : W.ShapedOpen Tryd.prog) : ∃ m, W.cell? ⟨1, 0, none⟩ = some (.int .i64 m) :=
  cell_of_shapedOpen_int (t := 3) (zero := #[.int .i64 0]) h (of_decide_eq_true (by kernel_rfl)) (by kernel_rfl) rfl (by kernel_rfl) (by kernel_rfl) Tryd.underlying3
theorem lib_of_laidR {W : World} (h : laidMetH Tryd.prog laidR W) (hs : W.ShapedOpen Tryd.prog) : LibAt W := ⟨pow_of_laidR h, max_of_shapeR hs, syn_of_laidR h, rng_of_laidR h⟩

/-- A row's claim from a contract that is handed what is laid, and the world's shape. -/
theorem returns_laidR {H : Type} {enc : TypeId × Value → H} {a : Assume} {os : Os} {f : FuncId} {fn : Func} {s : ChangeSpec} {conds : List PathCond} {apart fresh handsOn again : Bool} {X : World → Array Value → Prop}
    (hX : ∀ (w w' : World) (args : Array Value), w.heap = w'.heap → X w args → X w' args)
    (own : ownKnob Tryd.checked.prog.godebug = none) (started : os.Started) (noInit : Tryd.checked.prog.inits.idxOf? f = none) (hfn : Tryd.checked.prog.funcs[f]? = some fn)
    (witness : ∃ (w : World) (tape : Tape) (i : Input), w.os = os ∧ (w.forCall tape i).Shaped Tryd.checked.prog ∧ i.vars = [] ∧ Input.okWide Tryd.checked.prog (w.forCall tape i) .any w.heap.size f i ∧
      ((s.pre enc Tryd.checked.prog fn conds apart (w.forCall tape i).memory i.args ∧ X (w.forCall tape i).memory i.args) ∧ sizedMet enc Tryd.checked.prog fn (OpenSpec.ofChange s) apart (w.forCall tape i).memory i.args) ∧ a.holds Tryd.checked.prog (lone (Frame.enter Tryd.checked.prog f i.args .normal) [] (w.forCall tape i)))
    (contract : ∀ (W : World) (base : Nat) (args : Array Value) (ds gs : List (DataW H)) (before : List MemPlace),
      (∀ (j : Nat) t v, fn.params[j]? = some t → args[j]? = some v → Value.okWide Tryd.checked.prog W .any base t v) →
      DataW.Whole enc Tryd.checked.prog fn.params.toList s.vars apart W args.toList ds gs before → X W args → W.ShapedOpen Tryd.checked.prog →
      Calls Tryd.checked.prog f args W fun e W' => ∃ v, e = .returned v ∧ s.post enc Tryd.checked.prog fn apart fresh handsOn again W args v W') :
    ReturnsInHanded a Tryd.checked os f .any (fun w args => (s.pre enc Tryd.checked.prog fn conds apart w args ∧ X w args) ∧ sizedMet enc Tryd.checked.prog fn (OpenSpec.ofChange s) apart w args) (s.post enc Tryd.checked.prog fn apart fresh handsOn again) := by
  refine returnsInHanded_of_calls own started noInit witness (fun w tape i _ hsh _ hok hpre _ => ?_)
  obtain ⟨-, -, -, g, hg, -, -, -, -, hval⟩ := hok
  cases (hg.symm.trans hfn)
  obtain ⟨⟨⟨ds, gs, before, hw, -⟩, hx⟩, -⟩ := hpre
  refine (contract (w.forCall tape i) w.heap.size i.args ds gs before hval (DataW.Whole.of_heap (w' := w.forCall tape i) (by rfl) hw) (hX _ _ _ (by rfl) hx) hsh).mono ?_
  rintro e W' ⟨v, rfl, hp⟩
  exact ChangeSpec.post_blind hp
end Go.Proofs.YtckeaibamgkegaaDoor
