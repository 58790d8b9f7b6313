/- arguments opened: an array of two slices -/
import Derived.Test.YtkpadahpepeaoaaDoorJu
set_option linter.all false
namespace Go.Proofs.YtkpadahpepeaoaaDoor
open Go.ChangeShapes Go.WideShapes Go.ChangeAt Go.RowKit

section
variable {H : Type} {enc : TypeId × Value → H} {W : World} {r : Reach} {base : Nat} {sp : Nat → Bool} {held : Bool}
theorem pair_of_trod {P : Program} {t e : TypeId} {fuel : Nat} {v : Value} {x : DataW H × List MemPlace} (ht : P.underlying t = some (.array 2 e)) (ce : P.cellsOf e = 1) (ct : P.cellsOf t = 2) (hct : P.cellTypes P.depth t = some [e, e])
    (hk : Value.okWide P W r base t v) (h : DataW.trod enc P W 0 sp held fuel t v.cells.toList = some x) :
    ∃ u1 u2 n y1 y2, v = .agg #[u1, u2] ∧ Cell.okWide P W r base e u1 ∧ Cell.okWide P W r base e u2 ∧ DataW.trod enc P W 0 sp held n e [u1] = some y1 ∧ DataW.trod enc P W 0 sp held n e [u2] = some y2 := by
  simp only [Value.okWide, ht] at hk
  obtain ⟨cs, rfl, hsz, ts, hts, _, hall⟩ := hk
  rw [hct] at hts
  obtain rfl := Option.some.inj hts
  obtain ⟨l⟩ := cs
  rw [ct] at hsz
  obtain ⟨u1, u2, rfl⟩ := len2 (l := l) hsz
  obtain ⟨_, a1, b1⟩ := hall 0 u1 rfl
  obtain ⟨_, a2, b2⟩ := hall 1 u2 rfl
  simp at a1 a2
  subst a1 a2
  obtain ⟨xs, m, _, _, hl, hlen, hf⟩ := DataW.trod_array ht h
  have f0 := hf 0 (by omega)
  have f1 := hf 1 (by omega)
  obtain ⟨y0, e0⟩ := some_of_lt (xs := xs) (i := 0) (by omega)
  obtain ⟨y1, e1⟩ := some_of_lt (xs := xs) (i := 1) (by omega)
  rw [ce, e0] at f0
  rw [ce, e1] at f1
  exact ⟨u1, u2, m, y0, y1, rfl, b1, b2, by simpa [Value.cells] using f0, by simpa [Value.cells] using f1⟩
set_option maxRecDepth 100000
theorem tolds2_of_trod {fuel : Nat} {v : Value} {x : DataW H × List MemPlace} (hk : Value.okWide Tryd.prog W r base 42 v) (h : DataW.trod enc Tryd.prog W 0 sp held fuel 42 v.cells.toList = some x) :
    ∃ u1 u2 l1 l2, v = .agg #[u1, u2] ∧ IsTolds W u1 l1 ∧ IsTolds W u2 l2 ∧ (∀ y ∈ l1, y.ok) ∧ ∀ y ∈ l2, y.ok := by
  obtain ⟨u1, u2, n, y1, y2, rfl, a1, a2, b1, b2⟩ := pair_of_trod (P := Tryd.prog) (e := 23) Tryd.underlying42 (by kernel_rfl) (by kernel_rfl) (by kernel_rfl) hk h
  obtain ⟨l1, c1, d1⟩ := tolds_of_trod a1 b1
  obtain ⟨l2, c2, d2⟩ := tolds_of_trod a2 b2
  exact ⟨u1, u2, l1, l2, rfl, c1, c2, d1, d2⟩
theorem nodes2_of_trod {fuel : Nat} {v : Value} {x : DataW H × List MemPlace} (hk : Value.okWide Tryd.prog W r base 49 v) (h : DataW.trod enc Tryd.prog W 0 sp held fuel 49 v.cells.toList = some x) :
    ∃ u1 u2 l1 l2, v = .agg #[u1, u2] ∧ IsNodes W u1 l1 ∧ IsNodes W u2 l2 ∧ (∀ y ∈ l1, y.ok) ∧ ∀ y ∈ l2, y.ok := by
  obtain ⟨u1, u2, n, y1, y2, rfl, a1, a2, b1, b2⟩ := pair_of_trod (P := Tryd.prog) (e := 22) Tryd.underlying49 (by kernel_rfl) (by kernel_rfl) (by kernel_rfl) hk h
  obtain ⟨l1, c1, d1⟩ := nodes_of_trod a1 b1
  obtain ⟨l2, c2, d2⟩ := nodes_of_trod a2 b2
  exact ⟨u1, u2, l1, l2, rfl, c1, c2, d1, d2⟩
end
end Go.Proofs.YtkpadahpepeaoaaDoor
