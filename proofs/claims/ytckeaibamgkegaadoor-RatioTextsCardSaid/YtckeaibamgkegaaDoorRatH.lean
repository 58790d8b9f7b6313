/- Of, Neg, Round, Compare, by their walks -/
import Derived.Test.YtckeaibamgkegaaDoorRatG
import Derived.Test.YtckeaibamgkegaaDoorRatD
set_option linter.all false
namespace Go.Proofs.YtckeaibamgkegaaDoor
open Go.RowKit
set_option maxRecDepth 100000

set_option maxHeartbeats 1000000 in
theorem of_walk (num den g A D n d e : Int) (w : World) (h1 : -9223372036854775808 ≤ num) (h2 : num ≤ 9223372036854775807) (h3 : -9223372036854775808 ≤ den) (h4 : den ≤ 9223372036854775807) (hd : (den == 0) = false)
    (Hg : Hid (gcdI num.natAbs den.natAbs = g)) (g1 : 1 ≤ g) (g2 : g ≤ 9223372036854775808) (eA : (num.natAbs : Int) / g = A) (eD : (den.natAbs : Int) / g = D) (A0 : 0 ≤ A) (A1 : A ≤ 9223372036854775808) (D0 : 0 ≤ D) (D1 : D ≤ 9223372036854775808)
    (HM : Hid (∀ w, Calls Tryd.prog 49 #[.agg #[.int .u64 0, .int .u64 A, .bool (sgn num den)], .agg #[.int .u64 0, .int .u64 D]] w fun e' w' => e' = .returned (.tuple #[.agg #[.int .i64 n, .int .i64 d], .int .i64 e]) ∧ Later w w')) :
    Calls Tryd.prog 26 #[.int .i64 num, .int .i64 den] w fun e' w' => e' = .returned (.tuple #[.agg #[.int .i64 n, .int .i64 d], .int .i64 e]) ∧ Later w w' := by
  go_enter Tryd.func26, Tryd.ntmps26
  go_upto_region 4 with (first
    | (go_at_call_of 48 (Value.int .i64 num); refine (abs_any _ _ (by omega) (by omega)).mono ?_; rintro e w' ⟨rfl, rfl⟩)
    | (go_at_call_of 48 (Value.int .i64 den); refine (abs_any _ _ (by omega) (by omega)).mono ?_; rintro e w' ⟨rfl, rfl⟩)
    | (go_at_call 47; refine (common_any _ _ _ (by omega) (by omega) (by omega) (by omega)).mono ?_; rw [Hg.out]; rintro e w1 ⟨rfl, hb1⟩; obtain ⟨c0, f0, z0⟩ := own1 hb1))
  refine wp_region_plan 19 (.one [0, 2, 5, 6, 7, 8, 9, 11, 13] 1 (.one [3, 4, 10] 12 (.one [14, 15] 16 (.one [17, 18] 19 (.done [20]))))) (by kernel_rfl) (by kernel_rfl) (fun _ _ d _ _ h => by cases d <;> exact h) ?_
  repeat' (first
    | (refine plan_done (fun K hK => ?_); (first | (simp only [pick_cons, pick_nil, toList_some_append, List.getElem?_toArray, List.getElem?_cons_zero, List.getElem?_cons_succ]; repeat (go_big_quiet_step (fail))) | simp only [pick_nil]); refine wpQuiet_nil (hK _ ?_); clear hK K)
    | (refine plan_one (by rfl) (fun K hK => ?_); (first | (simp only [pick_cons, pick_nil, toList_some_append, List.getElem?_toArray, List.getElem?_cons_zero, List.getElem?_cons_succ]; repeat (go_big_quiet_step (fail))) | simp only [pick_nil]); refine wpQuiet_nil (hK _ ?_); clear hK K)
    | ((with_reducible refine at_list ?_); go_wp2_with (first | (go_at_call 48; refine (abs_any _ _ (by omega) (by omega)).mono ?_; rintro e w' ⟨rfl, rfl⟩) | (go_at_call 49; refine (HM.out _).mono ?_; rintro e w2 ⟨rfl, hb2⟩; obtain ⟨hc, hf⟩ := bcell hb2; have hz := Later.size hb2; (try simp only [World.size_alloc, World.size_drew, World.heap_drewN, World.size_setCell] at hz); (repeat (first | (with_reducible refine use_of (Later.undrew hb2) ?_; intro hb2) | (with_reducible refine use_of (Later.undrewN hb2) ?_; intro hb2) | (with_reducible refine use_of (Later.unalloc hb2) ?_; intro hb2))); obtain ⟨hc, hf⟩ := bcell hb2; (try (refine use_of (fun i => (hc _ i (by omega)).trans (c0 i)) ?_; clear c0; intro c0)); (try (refine use_of (fun i hi => (hf _ i (by omega)).trans (f0 i hi)) ?_; clear f0; intro f0)))); first | refine behind_store (t := 19) (by decide) ?_ | refine behind (by repeat (first | with_reducible exact Later.refl _ | with_reducible assumption | with_reducible refine Later.ofdrew ?_ | with_reducible refine Later.ofdrewN ?_ | with_reducible refine Later.alloc ?_ _ | with_reducible refine Later.drewN ?_ _ | with_reducible refine Later.drew ?_ | (with_reducible refine Later.trans ?_ (by assumption)))) ?_))
  go_wp2
  exact bodyPost_ret (v := .tuple #[.agg #[.int .i64 n, .int .i64 d], .int .i64 e]) (by simp [results, Tryd.results26, go_sem, c0]) rfl ⟨rfl, by repeat (first | with_reducible exact Later.refl _ | with_reducible assumption | with_reducible refine Later.ofdrew ?_ | with_reducible refine Later.ofdrewN ?_ | with_reducible refine Later.setCell ?_ ?_ _ | with_reducible refine Later.alloc ?_ _ | with_reducible refine Later.drewN ?_ _ | with_reducible refine Later.drew ?_ | (with_reducible refine Later.trans ?_ (by assumption)) | (simp only [World.size_setCell, World.size_alloc, World.heap_drewN]; omega) | (simp; done) | (simp; omega))⟩

theorem of_zero (num : Int) (w : World) : Calls Tryd.prog 26 #[.int .i64 num, .int .i64 0] w fun e' w' => e' = .returned (.tuple #[.agg #[.int .i64 0, .int .i64 0], .int .i64 12]) ∧ Later w w' := by
  go_enter Tryd.func26, Tryd.ntmps26
  go_wp2
  exact bodyPost_ret (v := .tuple #[.agg #[.int .i64 0, .int .i64 0], .int .i64 12]) (by simp [results, Tryd.results26, go_sem]) rfl ⟨rfl, by repeat (first | with_reducible exact Later.refl _ | with_reducible assumption | with_reducible refine Later.ofdrew ?_ | with_reducible refine Later.ofdrewN ?_ | with_reducible refine Later.setCell ?_ ?_ _ | with_reducible refine Later.alloc ?_ _ | with_reducible refine Later.drewN ?_ _ | with_reducible refine Later.drew ?_ | (with_reducible refine Later.trans ?_ (by assumption)) | (simp only [World.size_setCell, World.size_alloc, World.heap_drewN]; omega) | (simp; done) | (simp; omega))⟩

theorem of_red (num den : Int) (hd : den ≠ 0) (g A D : Int) (hg : gcdI num.natAbs den.natAbs = g) (eA : (num.natAbs : Int) / g = A) (eD : (den.natAbs : Int) / g = D) :
    0 < g ∧ 0 ≤ A ∧ A ≤ num.natAbs ∧ 0 < D ∧ D ≤ den.natAbs ∧
    (A < 9223372036854775808 → D < 9223372036854775808 → rN num den = signI (sgn num den) A ∧ rD num den = D ∧ rE num den = 0) ∧ (¬ (A < 9223372036854775808 ∧ D < 9223372036854775808) → rN num den = 0 ∧ rD num den = 0 ∧ rE num den = 11) := by
  have gd := gcdI_dvd num.natAbs den.natAbs
  have g0 : 0 < g := by
    have := Int.gcd_pos_of_ne_zero_right num.natAbs (show (den.natAbs : Int) ≠ 0 by omega)
    rw [← hg]; unfold gcdI; omega
  have hgn : Nat.gcd num.natAbs den.natAbs = g.natAbs := by have := hg; unfold gcdI Int.gcd at this; simp at this; omega
  rw [hg] at gd
  have fA : (num.natAbs : Int) = g * A := by rw [← eA]; exact (Int.mul_ediv_cancel' gd.1).symm
  have fD : (den.natAbs : Int) = g * D := by rw [← eD]; exact (Int.mul_ediv_cancel' gd.2).symm
  have A0 : 0 ≤ A := by rw [← eA]; exact Int.ediv_nonneg (by omega) (by omega)
  have A1 : A ≤ num.natAbs := by rw [← eA]; exact Int.ediv_le_self _ (by omega)
  have rd := ediv_range (show (0 : Int) < den.natAbs by omega) gd.2 g0
  rw [eD] at rd
  have nA : num.natAbs = g.natAbs * A.natAbs := by rw [← Int.natAbs_mul, ← fA]; rfl
  have nD : den.natAbs = g.natAbs * D.natAbs := by rw [← Int.natAbs_mul, ← fD]; rfl
  have cAD : Nat.Coprime A.natAbs D.natAbs := by
    have := hgn; rw [nA, nD, Nat.gcd_mul_left] at this
    exact Nat.eq_of_mul_eq_mul_left (show 0 < g.natAbs by omega) (by omega)
  have co : ∀ s, Nat.Coprime (signI s A).natAbs D.natAbs := fun s => by rw [signI_abs]; exact cAD
  refine ⟨g0, A0, A1, by omega, rd.2, ?_⟩
  have key : ∀ n d : Int, n.natAbs = num.natAbs → d.natAbs = den.natAbs → 0 < d → (A < 9223372036854775808 → D < 9223372036854775808 → rN n d = signI (decide (n < 0)) A ∧ rD n d = D ∧ rE n d = 0) ∧ (¬ (A < 9223372036854775808 ∧ D < 9223372036854775808) → rN n d = 0 ∧ rD n d = 0 ∧ rE n d = 11) := by
    intro n d hn hdd hp
    have E1 : n = g * signI (decide (n < 0)) A := by
      unfold signI
      by_cases h : n < 0
      · simp only [h, decide_true, if_true]; rw [Int.mul_neg, ← fA]; omega
      · simp only [h, decide_false]; rw [if_neg (by decide), ← fA]; omega
    have R := r_of g0 (show 0 < D by omega) E1 (show d = g * D by rw [← fD]; omega) (co _)
    refine ⟨fun a b => R.1 (by rw [signI_abs]; omega) b, fun h => R.2 (fun hx => h ⟨by have := hx.1; rw [signI_abs] at this; omega, hx.2⟩)⟩
  by_cases hp : 0 < den
  · have := key num den rfl rfl hp
    rwa [show sgn num den = decide (num < 0) by unfold sgn; simp [show ¬ den < 0 by omega]]
  · have := key (-num) (-den) (by omega) (by omega) (by omega)
    have R := r_neg num den
    rw [R.1, R.2.1, R.2.2] at this
    by_cases hz : num = 0
    · subst hz
      have hA0 : A = 0 := by rw [← eA]; simp
      subst hA0
      have s0 : ∀ s, signI s 0 = 0 := fun s => by unfold signI; split <;> rfl
      simp only [s0] at this ⊢
      exact this
    · rwa [show sgn num den = decide (-num < 0) by unfold sgn; rw [show decide (den < 0) = true by simp; omega]; by_cases h : num < 0 <;> simp [h] <;> omega]

theorem of_any (num den : Int) (w : World) (h1 : -9223372036854775808 ≤ num) (h2 : num ≤ 9223372036854775807) (h3 : -9223372036854775808 ≤ den) (h4 : den ≤ 9223372036854775807) :
    Calls Tryd.prog 26 #[.int .i64 num, .int .i64 den] w fun e' w' => e' = .returned (.tuple #[.agg #[.int .i64 (rN num den), .int .i64 (rD num den)], .int .i64 (rE num den)]) ∧ Later w w' := by
  by_cases hd : den = 0
  · subst hd
    have R := r_zero num
    rw [R.1, R.2.1, R.2.2]
    exact of_zero num w
  · obtain ⟨g0, A0, A1, D0, D1, R1, R2⟩ := of_red num den hd _ _ _ rfl rfl rfl
    have g2 : gcdI num.natAbs den.natAbs ≤ den.natAbs := Int.le_of_dvd (by omega) (gcdI_dvd _ _).2
    refine of_walk num den _ _ _ _ _ _ w h1 h2 h3 h4 (by simpa using hd) (Lib.hid rfl) (by omega) (by omega) rfl rfl A0 (by omega) (by omega) (by omega) (Lib.hid fun w => ?_)
    by_cases hf : (num.natAbs : Int) / gcdI num.natAbs den.natAbs < 9223372036854775808 ∧ (den.natAbs : Int) / gcdI num.natAbs den.natAbs < 9223372036854775808
    · have R := R1 hf.1 hf.2
      rw [R.1, R.2.1, R.2.2]
      exact made_fits _ _ _ w A0 hf.1 (by omega) hf.2
    · have R := R2 hf
      rw [R.1, R.2.1, R.2.2]
      exact made_over _ _ _ _ _ w (by omega) (by omega) A0 (by omega) (by omega) (by omega) (by omega) (by omega) (fun h => hf ⟨h.2.2.1, h.2.2.2⟩)

set_option maxHeartbeats 1000000 in
theorem round_bad (n d E : Int) (w : World) (n1 : -9223372036854775808 ≤ n) (n2 : n ≤ 9223372036854775807) (d1 : -9223372036854775808 ≤ d) (d2 : d ≤ 9223372036854775807) (HE : Hid (chkE n d = E)) (he : (E != 0) = true) :
    Calls Tryd.prog 28 #[.agg #[.int .i64 n, .int .i64 d]] w fun e w' => e = .returned (.tuple #[.int .i64 0, .int .i64 E]) ∧ Later w w' := by
  go_enter Tryd.func28, Tryd.ntmps28
  go_wp2_with (go_at_call 29; refine (check_any _ _ _ n1 n2 d1 d2).mono ?_; rw [HE.out]; rintro e w1 ⟨rfl, hb1⟩; obtain ⟨c0, f0, z1⟩ := own1 hb1)
  go_ret2
  exact ⟨rfl, by repeat (first | with_reducible exact Later.refl _ | with_reducible assumption | with_reducible refine Later.ofdrew ?_ | with_reducible refine Later.ofdrewN ?_ | with_reducible refine Later.setCell ?_ ?_ _ | with_reducible refine Later.alloc ?_ _ | with_reducible refine Later.drewN ?_ _ | with_reducible refine Later.drew ?_ | (with_reducible refine Later.trans ?_ (by assumption)) | (simp only [World.size_setCell, World.size_alloc, World.heap_drewN]; omega) | (simp; done) | (simp; omega))⟩

set_option maxHeartbeats 1000000 in
theorem round_good (n d : Int) (w : World) (hV : Valid n d) :
    Calls Tryd.prog 28 #[.agg #[.int .i64 n, .int .i64 d]] w fun e w' => e = .returned (.tuple #[.int .i64 (roundI n d), .int .i64 0]) ∧ Later w w' := by
  have n0 := hV.n0; have n1 := hV.n1; have d0 := hV.d0; have d1 := hV.d1
  have HE := Lib.hid ((chk_valid (by omega) n1 d1).2 hV)
  go_enter Tryd.func28, Tryd.ntmps28
  go_wp2_with (first | (go_at_call 29; refine (check_any _ _ _ (by omega) n1 (by omega) d1).mono ?_; rw [HE.out]; rintro e w1 ⟨rfl, hb1⟩; obtain ⟨c0, f0, z1⟩ := own1 hb1) | (go_at_call 52; refine (muldiv_one _ _ _ n0 n1 d0 d1).mono ?_; rintro e w2 ⟨rfl, hb2⟩))
  go_ret2
  exact ⟨rfl, by repeat (first | with_reducible exact Later.refl _ | with_reducible assumption | with_reducible refine Later.ofdrew ?_ | with_reducible refine Later.ofdrewN ?_ | with_reducible refine Later.setCell ?_ ?_ _ | with_reducible refine Later.alloc ?_ _ | with_reducible refine Later.drewN ?_ _ | with_reducible refine Later.drew ?_ | (with_reducible refine Later.trans ?_ (by assumption)) | (simp only [World.size_setCell, World.size_alloc, World.heap_drewN]; omega) | (simp; done) | (simp; omega))⟩
end Go.Proofs.YtckeaibamgkegaaDoor
