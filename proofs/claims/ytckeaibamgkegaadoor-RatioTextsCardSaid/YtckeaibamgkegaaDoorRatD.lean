/- walks: the nearest number -/
import Derived.Test.YtckeaibamgkegaaDoorRatC
set_option linter.all false
namespace Go.Proofs.YtckeaibamgkegaaDoor
open Go.RowKit
set_option maxRecDepth 100000

set_option maxHeartbeats 1000000 in
theorem muldiv_core (n d q r Q : Int) (s : Bool) (w : World) (n1 : -9223372036854775808 < n) (n2 : n ≤ 9223372036854775807) (d1 : 0 < d) (d2 : d ≤ 9223372036854775807)
    (hs : decide (n < 0) = s) (HP : Hid (∀ m w, m = 1 → Calls Tryd.prog 83 #[.int .u64 n.natAbs, .int .u64 m, .int .u64 d] w fun e w' => e = .returned (.tuple #[.int .u64 q, .int .u64 r, .bool true]) ∧ Later w w'))
    (q0 : 0 ≤ q) (q1 : q ≤ 9223372036854775807) (r0 : 0 ≤ r) (r1 : r < d) (Q0 : 0 ≤ Q) (Q1 : Q ≤ 9223372036854775807) (ha : bits BinOp.and IntKind.u64 q 1 = q % 2)
    (hQ : Q = if d - r < r ∨ (d - r = r ∧ q % 2 = 1) then q + 1 else q) :
    Calls Tryd.prog 52 #[.int .i64 n, .int .i64 1, .int .i64 d] w fun e w' => e = .returned (.tuple #[.int .i64 (signI s Q), .int .i64 0]) ∧ Later w w' := by
  have hdn : (d.natAbs : Int) = d := by omega
  by_cases c1 : d - r < r
  · have hQ' : Q = q + 1 := by rw [hQ, if_pos (.inl c1)]
    subst hQ'
    clear hQ
    have t0 : (q + 1 == 0) = false := by simp; omega
    go_enter Tryd.func52, Tryd.ntmps52
    go_wp2_with (first | (go_at_call 82; refine (amount_abs _ _ (by omega) (by omega)).mono ?_; rintro e w' ⟨rfl, rfl⟩) | (go_at_call 83; refine (HP.out _ _ (by decide)).mono ?_; rintro e w' ⟨rfl, hb⟩) | (go_at_call 84; refine (signed_fits _ _ _ (by omega) (by omega)).mono ?_; rintro e w' ⟨rfl, hb2⟩))
    go_ret2
    exact ⟨by simp [show decide (d < 0) = false by simp; omega], by repeat (first | with_reducible exact Later.refl _ | with_reducible assumption | with_reducible refine Later.ofdrew ?_ | with_reducible refine Later.ofdrewN ?_ | with_reducible refine Later.setCell ?_ ?_ _ | with_reducible refine Later.alloc ?_ _ | with_reducible refine Later.drewN ?_ _ | with_reducible refine Later.drew ?_ | (with_reducible refine Later.trans ?_ (by assumption)) | (simp only [World.size_setCell, World.size_alloc, World.heap_drewN]; omega) | (simp; done) | (simp; omega))⟩
  · have t1 : decide (d - r < r) = false := by simpa using c1
    by_cases c2 : d - r = r ∧ q % 2 = 1
    · have hQ' : Q = q + 1 := by rw [hQ, if_pos (.inr c2)]
      obtain ⟨c3, c4⟩ := c2
      subst hQ'
      clear hQ c1
      have t0 : (q + 1 == 0) = false := by simp; omega
      have t2 : (r == d - r) = true := by simp; omega
      have t3 : (q % 2 == 1) = true := by simp; omega
      clear c3 c4
      go_enter Tryd.func52, Tryd.ntmps52
      go_wp2_with (first | (go_at_call 82; refine (amount_abs _ _ (by omega) (by omega)).mono ?_; rintro e w' ⟨rfl, rfl⟩) | (go_at_call 83; refine (HP.out _ _ (by decide)).mono ?_; rintro e w' ⟨rfl, hb⟩) | (go_at_call 84; refine (signed_fits _ _ _ (by omega) (by omega)).mono ?_; rintro e w' ⟨rfl, hb2⟩))
      go_ret2
      exact ⟨by simp [show decide (d < 0) = false by simp; omega], by repeat (first | with_reducible exact Later.refl _ | with_reducible assumption | with_reducible refine Later.ofdrew ?_ | with_reducible refine Later.ofdrewN ?_ | with_reducible refine Later.setCell ?_ ?_ _ | with_reducible refine Later.alloc ?_ _ | with_reducible refine Later.drewN ?_ _ | with_reducible refine Later.drew ?_ | (with_reducible refine Later.trans ?_ (by assumption)) | (simp only [World.size_setCell, World.size_alloc, World.heap_drewN]; omega) | (simp; done) | (simp; omega))⟩
    · have hQ' : Q = q := by rw [hQ, if_neg (by intro h; exact h.elim c1 c2)]
      subst hQ'
      clear hQ c1
      by_cases c3 : d - r = r
      · have t2 : (r == d - r) = true := by simp; omega
        have t3 : (Q % 2 == 1) = false := by simp; omega
        clear c2 c3
        go_enter Tryd.func52, Tryd.ntmps52
        go_wp2_with (first | (go_at_call 82; refine (amount_abs _ _ (by omega) (by omega)).mono ?_; rintro e w' ⟨rfl, rfl⟩) | (go_at_call 83; refine (HP.out _ _ (by decide)).mono ?_; rintro e w' ⟨rfl, hb⟩) | (go_at_call 84; refine (signed_fits _ _ _ (by omega) (by omega)).mono ?_; rintro e w' ⟨rfl, hb2⟩))
        go_ret2
        exact ⟨by simp [show decide (d < 0) = false by simp; omega], by repeat (first | with_reducible exact Later.refl _ | with_reducible assumption | with_reducible refine Later.ofdrew ?_ | with_reducible refine Later.ofdrewN ?_ | with_reducible refine Later.setCell ?_ ?_ _ | with_reducible refine Later.alloc ?_ _ | with_reducible refine Later.drewN ?_ _ | with_reducible refine Later.drew ?_ | (with_reducible refine Later.trans ?_ (by assumption)) | (simp only [World.size_setCell, World.size_alloc, World.heap_drewN]; omega) | (simp; done) | (simp; omega))⟩
      · have t2 : (r == d - r) = false := by simp; omega
        clear c2 c3
        go_enter Tryd.func52, Tryd.ntmps52
        go_wp2_with (first | (go_at_call 82; refine (amount_abs _ _ (by omega) (by omega)).mono ?_; rintro e w' ⟨rfl, rfl⟩) | (go_at_call 83; refine (HP.out _ _ (by decide)).mono ?_; rintro e w' ⟨rfl, hb⟩) | (go_at_call 84; refine (signed_fits _ _ _ (by omega) (by omega)).mono ?_; rintro e w' ⟨rfl, hb2⟩))
        go_ret2
        exact ⟨by simp [show decide (d < 0) = false by simp; omega], by repeat (first | with_reducible exact Later.refl _ | with_reducible assumption | with_reducible refine Later.ofdrew ?_ | with_reducible refine Later.ofdrewN ?_ | with_reducible refine Later.setCell ?_ ?_ _ | with_reducible refine Later.alloc ?_ _ | with_reducible refine Later.drewN ?_ _ | with_reducible refine Later.drew ?_ | (with_reducible refine Later.trans ?_ (by assumption)) | (simp only [World.size_setCell, World.size_alloc, World.heap_drewN]; omega) | (simp; done) | (simp; omega))⟩

theorem muldiv_one (n d : Int) (w : World) (n1 : -9223372036854775808 < n) (n2 : n ≤ 9223372036854775807) (d1 : 0 < d) (d2 : d ≤ 9223372036854775807) :
    Calls Tryd.prog 52 #[.int .i64 n, .int .i64 1, .int .i64 d] w fun e w' => e = .returned (.tuple #[.int .i64 (roundI n d), .int .i64 0]) ∧ Later w w' := by
  obtain ⟨b0, b1, b2, b3⟩ := near_bd n.natAbs d (by omega) (by omega) d1
  have hR : roundI n d = signI (decide (n < 0)) (nearQ n.natAbs d) := by unfold roundI signI; by_cases h : n < 0 <;> simp [h]
  rw [hR]
  exact muldiv_core n d (n.natAbs / d) (n.natAbs % d) _ _ w n1 n2 d1 d2 rfl (Lib.hid fun m w hm => parts_one n.natAbs m d w hm (by omega) (by omega) d1 d2) b0 b1
    (Int.emod_nonneg _ (by omega)) (Int.emod_lt_of_pos _ d1) b2 b3 (and_one_u64 _ b0 (by omega)) rfl
end Go.Proofs.YtckeaibamgkegaaDoor
