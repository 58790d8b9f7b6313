/- walks: what may be, the nearest number, the first error of two -/
import Derived.Test.YtckeaibamgkegaaDoorRatP
set_option linter.all false
namespace Go.Proofs.YtckeaibamgkegaaDoor
open Go.RowKit
set_option maxRecDepth 100000

/-- What is wrong with a ratio. -/
def chkE (n d : Int) : Int := if d = 0 then 12 else if d < 0 ∨ n = -9223372036854775808 ∨ gcdI n.natAbs d.natAbs ≠ 1 then 13 else 0

set_option maxHeartbeats 1000000 in
theorem check_any (n d : Int) (w : World) (n1 : -9223372036854775808 ≤ n) (n2 : n ≤ 9223372036854775807) (d1 : -9223372036854775808 ≤ d) (d2 : d ≤ 9223372036854775807) :
    Calls Tryd.prog 29 #[.agg #[.int .i64 n, .int .i64 d]] w fun e w' => e = .returned (.int .i64 (chkE n d)) ∧ Later w w' := by
  by_cases hd : d = 0
  · subst hd
    have hE : chkE n 0 = 12 := by simp [chkE]
    rw [hE]
    go_enter Tryd.func29, Tryd.ntmps29
    go_wp2
    go_ret
    exact ⟨rfl, by repeat (first | with_reducible exact Later.refl _ | with_reducible assumption | with_reducible refine Later.ofdrew ?_ | with_reducible refine Later.ofdrewN ?_ | with_reducible refine Later.setCell ?_ ?_ _ | with_reducible refine Later.alloc ?_ _ | with_reducible refine Later.drewN ?_ _ | with_reducible refine Later.drew ?_ | (with_reducible refine Later.trans ?_ (by assumption)) | (simp only [World.size_setCell, World.size_alloc, World.heap_drewN]; omega) | (simp; done) | (simp; omega))⟩
  · have hd0 : (d == 0) = false := by simpa using hd
    by_cases hneg : d < 0
    · have hE : chkE n d = 13 := by simp [chkE, hd, hneg]
      rw [hE]
      have t1 : decide (d < 0) = true := by simpa using hneg
      clear hE hd
      go_enter Tryd.func29, Tryd.ntmps29
      go_wp2_with fail
      refine wp_opaque (fun w0 hb0 => ?_)
      obtain ⟨c0, f0, z1⟩ := own1 hb0
      refine wp_region_plan 19 (.one [0, 1, 2, 3, 4, 5, 6, 7, 8, 9, 10, 12, 13] 11 (.one [] 14 (.one [] 15 (.done [16, 17, 18])))) (by kernel_rfl) (by kernel_rfl) (fun _ _ d _ _ h => by cases d <;> exact h) ?_
      repeat' (first
        | (refine plan_done (fun K hK => ?_); (first | (simp only [pick_cons, pick_nil, toList_some_append, List.getElem?_toArray, List.getElem?_cons_zero, List.getElem?_cons_succ]; repeat (go_big_quiet_step (fail))) | simp only [pick_nil]); refine wpQuiet_nil (hK _ ?_); clear hK K)
        | (refine plan_one (by rfl) (fun K hK => ?_); (first | (simp only [pick_cons, pick_nil, toList_some_append, List.getElem?_toArray, List.getElem?_cons_zero, List.getElem?_cons_succ]; repeat (go_big_quiet_step (fail))) | simp only [pick_nil]); refine wpQuiet_nil (hK _ ?_); clear hK K)
        | ((with_reducible refine at_list ?_); go_wp2_with (fail); first | refine behind_store (t := 19) (by decide) ?_ | refine behind (by repeat (first | with_reducible exact Later.refl _ | with_reducible assumption | with_reducible refine Later.ofdrew ?_ | with_reducible refine Later.ofdrewN ?_ | with_reducible refine Later.alloc ?_ _ | with_reducible refine Later.drewN ?_ _ | with_reducible refine Later.drew ?_ | (with_reducible refine Later.trans ?_ (by assumption)))) ?_))
      go_wp2
      go_ret
      exact ⟨rfl, by repeat (first | with_reducible exact Later.refl _ | with_reducible assumption | with_reducible refine Later.ofdrew ?_ | with_reducible refine Later.ofdrewN ?_ | with_reducible refine Later.setCell ?_ ?_ _ | with_reducible refine Later.alloc ?_ _ | with_reducible refine Later.drewN ?_ _ | with_reducible refine Later.drew ?_ | (with_reducible refine Later.trans ?_ (by assumption)) | (simp only [World.size_setCell, World.size_alloc, World.heap_drewN]; omega) | (simp; done) | (simp; omega))⟩
    · have t1 : decide (d < 0) = false := by simpa using hneg
      by_cases hl : n = -9223372036854775808
      · have hE : chkE n d = 13 := by simp [chkE, hd, hl]
        rw [hE]
        subst hl
        clear hE hd
        go_enter Tryd.func29, Tryd.ntmps29
        go_wp2_with fail
        refine wp_opaque (fun w0 hb0 => ?_)
        obtain ⟨c0, f0, z1⟩ := own1 hb0
        refine wp_region_plan 19 (.one [0, 1, 2, 3, 4, 5, 6, 7, 8, 9, 10, 12, 13] 11 (.one [] 14 (.one [] 15 (.done [16, 17, 18])))) (by kernel_rfl) (by kernel_rfl) (fun _ _ d _ _ h => by cases d <;> exact h) ?_
        repeat' (first
          | (refine plan_done (fun K hK => ?_); (first | (simp only [pick_cons, pick_nil, toList_some_append, List.getElem?_toArray, List.getElem?_cons_zero, List.getElem?_cons_succ]; repeat (go_big_quiet_step (fail))) | simp only [pick_nil]); refine wpQuiet_nil (hK _ ?_); clear hK K)
          | (refine plan_one (by rfl) (fun K hK => ?_); (first | (simp only [pick_cons, pick_nil, toList_some_append, List.getElem?_toArray, List.getElem?_cons_zero, List.getElem?_cons_succ]; repeat (go_big_quiet_step (fail))) | simp only [pick_nil]); refine wpQuiet_nil (hK _ ?_); clear hK K)
          | ((with_reducible refine at_list ?_); go_wp2_with (fail); first | refine behind_store (t := 19) (by decide) ?_ | refine behind (by repeat (first | with_reducible exact Later.refl _ | with_reducible assumption | with_reducible refine Later.ofdrew ?_ | with_reducible refine Later.ofdrewN ?_ | with_reducible refine Later.alloc ?_ _ | with_reducible refine Later.drewN ?_ _ | with_reducible refine Later.drew ?_ | (with_reducible refine Later.trans ?_ (by assumption)))) ?_))
        go_wp2
        go_ret
        exact ⟨rfl, by repeat (first | with_reducible exact Later.refl _ | with_reducible assumption | with_reducible refine Later.ofdrew ?_ | with_reducible refine Later.ofdrewN ?_ | with_reducible refine Later.setCell ?_ ?_ _ | with_reducible refine Later.alloc ?_ _ | with_reducible refine Later.drewN ?_ _ | with_reducible refine Later.drew ?_ | (with_reducible refine Later.trans ?_ (by assumption)) | (simp only [World.size_setCell, World.size_alloc, World.heap_drewN]; omega) | (simp; done) | (simp; omega))⟩
      · have t2 : (n == -9223372036854775808) = false := by simpa using hl
        have hE : chkE n d = if gcdI n.natAbs d.natAbs != 1 then 13 else 0 := by simp [chkE, hd, hneg, hl]
        have g1 := gcd_bd n.natAbs d.natAbs
        generalize hG : gcdI n.natAbs d.natAbs = G at *
        have HG := Lib.hid hG
        clear hG
        by_cases hg : G = 1
        · subst hg
          simp at hE
          rw [hE]
          clear hE hd hl
          go_enter Tryd.func29, Tryd.ntmps29
          go_wp2_with fail
          refine wp_opaque (fun w0 hb0 => ?_)
          obtain ⟨c0, f0, z1⟩ := own1 hb0
          refine wp_region_plan 19 (.one [0, 1, 2, 3, 4, 5, 6, 7, 8, 9, 10, 12, 13] 11 (.one [] 14 (.one [] 15 (.done [16, 17, 18])))) (by kernel_rfl) (by kernel_rfl) (fun _ _ d _ _ h => by cases d <;> exact h) ?_
          repeat' (first
            | (refine plan_done (fun K hK => ?_); (first | (simp only [pick_cons, pick_nil, toList_some_append, List.getElem?_toArray, List.getElem?_cons_zero, List.getElem?_cons_succ]; repeat (go_big_quiet_step (fail))) | simp only [pick_nil]); refine wpQuiet_nil (hK _ ?_); clear hK K)
            | (refine plan_one (by rfl) (fun K hK => ?_); (first | (simp only [pick_cons, pick_nil, toList_some_append, List.getElem?_toArray, List.getElem?_cons_zero, List.getElem?_cons_succ]; repeat (go_big_quiet_step (fail))) | simp only [pick_nil]); refine wpQuiet_nil (hK _ ?_); clear hK K)
            | ((with_reducible refine at_list ?_); go_wp2_with (first | (go_at_call 48; refine (abs_any _ _ (by omega) (by omega)).mono ?_; rintro e w' ⟨rfl, rfl⟩) | (go_at_call 47; refine (common_any _ _ _ (by omega) (by omega) (by omega) (by omega)).mono ?_; rw [HG.out]; rintro e w1 ⟨rfl, hb1⟩; obtain ⟨hc, hf⟩ := bcell hb1; have hz := Later.size hb1; (try simp only [World.size_alloc, World.size_drew, World.heap_drewN, World.size_setCell] at hz))); first | refine behind_store (t := 19) (by decide) ?_ | refine behind (by repeat (first | with_reducible exact Later.refl _ | with_reducible assumption | with_reducible refine Later.ofdrew ?_ | with_reducible refine Later.ofdrewN ?_ | with_reducible refine Later.alloc ?_ _ | with_reducible refine Later.drewN ?_ _ | with_reducible refine Later.drew ?_ | (with_reducible refine Later.trans ?_ (by assumption)))) ?_))
          go_wp2
          go_ret
          exact ⟨rfl, by repeat (first | with_reducible exact Later.refl _ | with_reducible assumption | with_reducible refine Later.ofdrew ?_ | with_reducible refine Later.ofdrewN ?_ | with_reducible refine Later.setCell ?_ ?_ _ | with_reducible refine Later.alloc ?_ _ | with_reducible refine Later.drewN ?_ _ | with_reducible refine Later.drew ?_ | (with_reducible refine Later.trans ?_ (by assumption)) | (simp only [World.size_setCell, World.size_alloc, World.heap_drewN]; omega) | (simp; done) | (simp; omega))⟩
        · have t3 : (G != 1) = true := by simpa using hg
          simp only [t3, if_true] at hE
          rw [hE]
          clear hE hd hg hl
          go_enter Tryd.func29, Tryd.ntmps29
          go_wp2_with fail
          refine wp_opaque (fun w0 hb0 => ?_)
          obtain ⟨c0, f0, z1⟩ := own1 hb0
          refine wp_region_plan 19 (.one [0, 1, 2, 3, 4, 5, 6, 7, 8, 9, 10, 12, 13] 11 (.one [] 14 (.one [] 15 (.done [16, 17, 18])))) (by kernel_rfl) (by kernel_rfl) (fun _ _ d _ _ h => by cases d <;> exact h) ?_
          repeat' (first
            | (refine plan_done (fun K hK => ?_); (first | (simp only [pick_cons, pick_nil, toList_some_append, List.getElem?_toArray, List.getElem?_cons_zero, List.getElem?_cons_succ]; repeat (go_big_quiet_step (fail))) | simp only [pick_nil]); refine wpQuiet_nil (hK _ ?_); clear hK K)
            | (refine plan_one (by rfl) (fun K hK => ?_); (first | (simp only [pick_cons, pick_nil, toList_some_append, List.getElem?_toArray, List.getElem?_cons_zero, List.getElem?_cons_succ]; repeat (go_big_quiet_step (fail))) | simp only [pick_nil]); refine wpQuiet_nil (hK _ ?_); clear hK K)
            | ((with_reducible refine at_list ?_); go_wp2_with (first | (go_at_call 48; refine (abs_any _ _ (by omega) (by omega)).mono ?_; rintro e w' ⟨rfl, rfl⟩) | (go_at_call 47; refine (common_any _ _ _ (by omega) (by omega) (by omega) (by omega)).mono ?_; rw [HG.out]; rintro e w1 ⟨rfl, hb1⟩; obtain ⟨hc, hf⟩ := bcell hb1; have hz := Later.size hb1; (try simp only [World.size_alloc, World.size_drew, World.heap_drewN, World.size_setCell] at hz))); first | refine behind_store (t := 19) (by decide) ?_ | refine behind (by repeat (first | with_reducible exact Later.refl _ | with_reducible assumption | with_reducible refine Later.ofdrew ?_ | with_reducible refine Later.ofdrewN ?_ | with_reducible refine Later.alloc ?_ _ | with_reducible refine Later.drewN ?_ _ | with_reducible refine Later.drew ?_ | (with_reducible refine Later.trans ?_ (by assumption)))) ?_))
          go_wp2
          go_ret
          exact ⟨rfl, by repeat (first | with_reducible exact Later.refl _ | with_reducible assumption | with_reducible refine Later.ofdrew ?_ | with_reducible refine Later.ofdrewN ?_ | with_reducible refine Later.setCell ?_ ?_ _ | with_reducible refine Later.alloc ?_ _ | with_reducible refine Later.drewN ?_ _ | with_reducible refine Later.drew ?_ | (with_reducible refine Later.trans ?_ (by assumption)) | (simp only [World.size_setCell, World.size_alloc, World.heap_drewN]; omega) | (simp; done) | (simp; omega))⟩

/-- The nearest whole number, an even one of two. -/
def nearQ (n d : Int) : Int := if d - n % d < n % d ∨ (d - n % d = n % d ∧ n / d % 2 = 1) then n / d + 1 else n / d
def roundI (n d : Int) : Int := if n < 0 then -nearQ n.natAbs d else nearQ n.natAbs d

theorem near_bd (n d : Int) (n0 : 0 ≤ n) (n1 : n ≤ 9223372036854775807) (d1 : 0 < d) : 0 ≤ n / d ∧ n / d ≤ 9223372036854775807 ∧ 0 ≤ nearQ n d ∧ nearQ n d ≤ 9223372036854775807 := by
  have h1 := Int.ediv_nonneg n0 (show 0 ≤ d by omega)
  have h2 := Int.ediv_le_self d n0
  refine ⟨h1, by omega, ?_, ?_⟩
  · unfold nearQ; split <;> omega
  · unfold nearQ
    split
    · rename_i h
      have h3 := Int.emod_nonneg n (show d ≠ 0 by omega)
      have h4 := Int.emod_lt_of_pos n d1
      have h5 := Int.emod_add_mul_ediv n d
      have h6 : d ≠ 1 := by intro e; subst e; omega
      have h7 : 2 * (n / d) ≤ d * (n / d) := Int.mul_le_mul_of_nonneg_right (by omega) h1
      omega
    · omega

set_option maxHeartbeats 1000000 in
theorem parts_one (n m d : Int) (w : World) (hm : m = 1) (n0 : 0 ≤ n) (n1 : n ≤ 9223372036854775807) (d1 : 0 < d) (d2 : d ≤ 9223372036854775807) :
    Calls Tryd.prog 83 #[.int .u64 n, .int .u64 m, .int .u64 d] w fun e w' => e = .returned (.tuple #[.int .u64 (n / d), .int .u64 (n % d), .bool true]) ∧ Later w w' := by
  subst hm
  have e1 : hi64 (n * 1) = 0 := by unfold hi64; omega
  have e2 : lo64 (n * 1) = n := by unfold lo64; omega
  have e3 : two64 0 n = n := by unfold two64; omega
  have H3 := Lib.hid e3
  clear e3
  go_enter Tryd.func83, Tryd.ntmps83
  go_wp2_with (first | (go_at_call 96; refine (mul64 _ _ _ (by omega) (by omega) (by omega) (by omega)).mono ?_; rw [e1, e2]; rintro e w' ⟨rfl, rfl⟩) | (go_at_call 107; refine (div64 _ _ _ _ (by omega) (by omega) (by omega) (by omega) (by omega)).mono ?_; rw [H3.out]; rintro e w' ⟨rfl, hb⟩))
  go_ret3
  exact ⟨rfl, by repeat (first | with_reducible exact Later.refl _ | with_reducible assumption | with_reducible refine Later.ofdrew ?_ | with_reducible refine Later.ofdrewN ?_ | with_reducible refine Later.setCell ?_ ?_ _ | with_reducible refine Later.alloc ?_ _ | with_reducible refine Later.drewN ?_ _ | with_reducible refine Later.drew ?_ | (with_reducible refine Later.trans ?_ (by assumption)) | (simp only [World.size_setCell, World.size_alloc, World.heap_drewN]; omega) | (simp; done) | (simp; omega))⟩

set_option maxHeartbeats 1000000 in
theorem signed_fits (s : Bool) (n : Int) (w : World) (n0 : 0 ≤ n) (n1 : n ≤ 9223372036854775807) :
    Calls Tryd.prog 84 #[.bool s, .int .u64 n] w fun e w' => e = .returned (.tuple #[.int .i64 (signI s n), .int .i64 0]) ∧ Later w w' := by
  have t1 : decide (n ≤ 9223372036854775808) = true := by simp; omega
  have t2 : decide (n < 9223372036854775808) = true := by simp; omega
  cases s
  · go_enter Tryd.func84, Tryd.ntmps84
    go_wp2
    go_ret2
    exact ⟨rfl, by repeat (first | with_reducible exact Later.refl _ | with_reducible assumption | with_reducible refine Later.ofdrew ?_ | with_reducible refine Later.ofdrewN ?_ | with_reducible refine Later.setCell ?_ ?_ _ | with_reducible refine Later.alloc ?_ _ | with_reducible refine Later.drewN ?_ _ | with_reducible refine Later.drew ?_ | (with_reducible refine Later.trans ?_ (by assumption)) | (simp only [World.size_setCell, World.size_alloc, World.heap_drewN]; omega) | (simp; done) | (simp; omega))⟩
  · have e1 : IntKind.i64.wrap (IntKind.u64.wrap (-n)) = -n := by simp only [wrap_u64, IntKind.wrap_i64]; omega
    go_enter Tryd.func84, Tryd.ntmps84
    go_wp2
    go_ret2
    exact ⟨rfl, by repeat (first | with_reducible exact Later.refl _ | with_reducible assumption | with_reducible refine Later.ofdrew ?_ | with_reducible refine Later.ofdrewN ?_ | with_reducible refine Later.setCell ?_ ?_ _ | with_reducible refine Later.alloc ?_ _ | with_reducible refine Later.drewN ?_ _ | with_reducible refine Later.drew ?_ | (with_reducible refine Later.trans ?_ (by assumption)) | (simp only [World.size_setCell, World.size_alloc, World.heap_drewN]; omega) | (simp; done) | (simp; omega))⟩

end Go.Proofs.YtckeaibamgkegaaDoor
