/- blocks that stay: words -/
import Derived.Test.YtpblfheeeifjcaaDoorLedD
set_option linter.all false
namespace Go.Proofs.YtpblfheeeifjcaaDoor
open Go.RowKit
set_option maxRecDepth 100000

theorem Mine.tag {w0 w : World} {e sz n : Nat} {v : Value} {xs : List Value} (h : Mine w0 e sz w v n xs) : ∀ g, v.ownBlock = some g → ∃ cs fr, w.heap[g]? = some (.cells cs e fr) := by
  intro g hg
  rcases h.1.2 with ⟨h1, h2⟩ | ⟨g', cap, cur, h1, h2, h3, h4⟩
  · rw [h1] at hg; cases hg
  · rw [h1] at hg; cases hg; exact ⟨_, _, h3⟩
theorem block_kept {w0 w w' : World} {e sz n : Nat} {v : Value} {xs : List Value} (hM : Mine w0 e sz w v n xs) (hg : w.grownBy w' v.ownBlock) {b : Nat} {cs : Array Value} {t : TypeId} {fr : Nat × Nat} (hb : w.heap[b]? = some (.cells cs t fr)) (hne : t ≠ e) : w'.heap[b]? = some (.cells cs t fr) :=
  (hg.block b (Array.getElem?_eq_some_iff.1 hb).1 (fun h => by
    obtain ⟨cs', fr', h2⟩ := hM.tag b h.symm
    rw [hb] at h2; cases h2; exact hne rfl)).trans hb
theorem own_of_block {w : World} {b : Nat} {A : Array Value} {t : TypeId} (h : w.heap[b]? = some (.cells A t (0, 0))) : Own w [(b, A)] :=
  Own.cons (Array.getElem?_eq_some_iff.1 h).1 (fun i => by simp [World.cell?, h]) (fun i _ => frozen_of_row w b i A t h) trivial
theorem block_later {w w' : World} {b : Nat} {o : Obj} (h : w.heap[b]? = some o) (hb : Later w w') : w'.heap[b]? = some o := (hb.block b (Array.getElem?_eq_some_iff.1 h).1).trans h

end Go.Proofs.YtpblfheeeifjcaaDoor
