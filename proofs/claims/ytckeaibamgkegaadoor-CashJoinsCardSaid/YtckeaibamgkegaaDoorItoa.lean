/- decimals: strconv.Itoa over any later world -/
import Derived.Test.YtckeaibamgkegaaDoorShelf
import Derived.Test.YtckeaibamgkegaaDoorRowS
import Derived.Lib.ItoaLen
set_option linter.all false
namespace Go.Proofs.YtckeaibamgkegaaDoor
open Go.RowKit
set_option maxRecDepth 100000

/-- The table of powers of ten. -/
def PowTab (w : World) : Prop := Lib.TabIs Tryd.prog w "internal/strconv.uint64pow10" .u64 Lib.pow10Tab
theorem tab_later {n : String} {k : IntKind} {zs : List Int} {w w' : World} (h : Lib.TabIs Tryd.prog w n k zs) (hb : Later w w') : Lib.TabIs Tryd.prog w' n k zs := by
  unfold Lib.TabIs World.var? at h ⊢
  cases hg : Tryd.prog.globalNamed n with
  | none => rw [hg] at h; cases h
  | some g =>
    rw [hg] at h
    simp only [Option.bind_some] at h ⊢
    have hlt : g < w.heap.size := by
      rcases Nat.lt_or_ge g w.heap.size with h' | h'
      · exact h'
      · rw [Array.getElem?_eq_none h'] at h; cases h
    rw [hb.block g hlt]
    exact h
theorem PowTab.later {w w' : World} (h : PowTab w) (hb : Later w w') : PowTab w' := tab_later h hb
theorem later_grow {w : World} (k : Nat) (os : Array Obj) : Later w (Sort.grow (w.drewN k) os) := by
  refine Below.trans ((Later.refl w).drewN k) ⟨rfl, rfl, rfl, by simp [Sort.grow], fun i hi => ?_⟩
  try simp only [World.heap_drewN] at hi
  simp [Sort.grow, Array.getElem?_append_left hi]
theorem itoa_any (n : Int) (h : I64 n) (w : World) (ht : PowTab w) : Calls Tryd.prog 30 #[.int .i64 n] w fun e w' => e = .returned (.string ⟨(Lib.itoa n).toArray⟩) ∧ Later w w' := by
  refine (Tryd.strconv_Itoa n h.1 h.2 w ht).mono ?_
  rintro e w' ⟨rfl, k, os, rfl⟩
  exact ⟨rfl, later_grow k os⟩
end Go.Proofs.YtckeaibamgkegaaDoor
