/- walks: chattelref01: Near -/
import Derived.Test.YtckeaibamgkegaaDoorRefJ
set_option linter.all false
namespace Go.Proofs.YtckeaibamgkegaaDoor
open Go.RowKit
set_option maxRecDepth 100000

/-- The nearest whole number of a through b, an even one of two. -/
def nearN (a b : Nat) : Nat := if b < 2 * (a % b) ∨ (2 * (a % b) = b ∧ a / b % 2 = 1) then a / b + 1 else a / b
theorem cmpN_self (n : Nat) : cmpN n n = 0 := by simp [cmpN]
theorem cmpN_gt {n m : Nat} (h : m < n) : cmpN n m = 1 := by unfold cmpN; rw [if_neg (by omega), if_neg (by omega)]
theorem own_split {w : World} {p q : Nat × Array Value} {l : List (Nat × Array Value)} (h : Own w (p :: q :: l)) : Own w [p] ∧ Own w (q :: l) := by
  obtain ⟨b, A⟩ := p
  exact ⟨⟨h.1, trivial⟩, h.2⟩
theorem rof_one (w : World) : Calls Tryd.prog 56 #[.int .i64 1] w fun e w' => ∃ r, e = .returned r ∧ IsZ w' r 1 ∧ Later w w' := rof_any 1 w (by omega) (by omega)

theorem isZ_nat {w : World} {x : Value} {n : Nat} (h : IsBig w x false n) : IsZ w x (n : Int) := by
  unfold IsZ
  rw [show decide ((n : Int) < 0) = false by simp, Int.natAbs_natCast]; exact h
theorem isBig_nat {w : World} {x : Value} {n : Nat} (h : IsZ w x (n : Int)) : IsBig w x false n := by
  unfold IsZ at h
  rw [show decide ((n : Int) < 0) = false by simp, Int.natAbs_natCast] at h; exact h
theorem at_zero (v : Value) (n L : Nat) (w : World) (h : Row w v n L) (hL : L ≤ 100000) :
    Calls Tryd.prog 112 #[v, .int .i64 0] w fun e w' => e = .returned (.int .i64 (bit n 0)) ∧ w = w' := at_any v n L 0 w h hL (by omega)

end Go.Proofs.YtckeaibamgkegaaDoor
