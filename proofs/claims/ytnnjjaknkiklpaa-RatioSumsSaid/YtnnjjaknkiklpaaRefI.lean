/- walks: chattelref01: Order -/
import Derived.Test.YtnnjjaknkiklpaaRefH
import Derived.Deep.DeepCutAuto
namespace Go.Proofs.Ytnnjjaknkiklpaa
open Go.RowKit

theorem rneg_z (x : Value) (i : Int) (w : World) (h : IsZ w x i) (hL : nlen i.natAbs ≤ 90000) :
    Calls Try.prog 49 #[x] w fun e w' => ∃ r, e = .returned r ∧ IsZ w' r (-i) ∧ Later w w' := by
  refine (rneg_any x _ _ w h hL).mono fun e w' ⟨r, h1, h2, h3⟩ => ⟨r, h1, ?_, h3⟩
  unfold IsZ
  rw [Int.natAbs_neg, show decide (-i < 0) = (!decide (i < 0) && decide (0 < i.natAbs)) by
    rw [Bool.eq_iff_iff]; simp; omega]
  exact h2

/-- -1, 0 or 1: by the order of numbers. -/
def cmpZ (x y : Int) : Int := if x < y then -1 else if x = y then 0 else 1

theorem nlen_add (a b : Nat) : nlen (a + b) ≤ max (nlen a) (nlen b) + 1 := by
  refine nlen_le ?_
  have h1 := lt_nlen a
  have h2 := lt_nlen b
  have e1 : 2 ^ nlen a ≤ 2 ^ max (nlen a) (nlen b) := Nat.pow_le_pow_right (by omega) (by omega)
  have e2 : 2 ^ nlen b ≤ 2 ^ max (nlen a) (nlen b) := Nat.pow_le_pow_right (by omega) (by omega)
  rw [Nat.pow_succ]; omega
theorem nlen_mul (a b : Nat) : nlen (a * b) ≤ nlen a + nlen b := by
  refine nlen_le ?_
  rw [Nat.pow_add]
  have h1 := lt_nlen a
  have h2 := lt_nlen b
  exact Nat.lt_of_le_of_lt (Nat.mul_le_mul_left a (Nat.le_of_lt h2)) (Nat.mul_lt_mul_of_pos_right h1 (Nat.pow_pos (by omega)))
theorem nlen_i64 {z : Int} (h1 : -9223372036854775808 ≤ z) (h2 : z ≤ 9223372036854775807) : nlen z.natAbs ≤ 64 := nlen_le (by omega)

set_option maxHeartbeats 1600000 in
theorem rorder_any (x y : Value) (i j : Int) (w : World) (h : IsZ w x i) (g : IsZ w y j) (hL : nlen i.natAbs ≤ 90000) (hM : nlen j.natAbs ≤ 90000) :
    Calls Try.prog 45 #[x, y] w fun e w' => e = .returned (.int .i64 (cmpZ i j)) ∧ Later w w' := by
  obtain ⟨v, rfl, hv⟩ := h
  obtain ⟨u, rfl, hu⟩ := g
  obtain ⟨p, cp, rfl⟩ := Row.form hv
  obtain ⟨q, cq, rfl⟩ := Row.form hu
  have hx : IsZ w _ i := ⟨_, rfl, hv⟩
  have hy : IsZ w _ j := ⟨_, rfl, hu⟩
  clear hv hu
  generalize decide (i < 0) = s at *
  generalize decide (j < 0) = t at *
  go_enter Try.func45, Try.ntmps45
  go_upto_region 1 with fail
  refine wp_opaque (fun w0 hb0 => ?_)
  obtain ⟨⟨z0, c0, f0⟩, ⟨z1, c1, f1⟩, -⟩ := Own.two hb0
  have hw0 : Later w w0 := hb0.un1.un1
  have hs0 := Later.size hw0
  replace hx := hx.later hw0
  replace hy := hy.later hw0
  go_cut [5] (fun s5 wx => ∃ b v, s5 = .pointer (some ⟨b, 0, none⟩) ∧ Own wx [(b, #[.bool (decide (i + -j < 0)), v])] ∧ Num wx v (i + -j).natAbs ∧ Later w wx)
  case first =>
    clear hb0
    refine wp_region_plan 5 (.two [0, 1] 2 (.two [] 3 (.one [] 4 (.one [] 5 (.done []))) 4 (.one [] 3 (.one [] 5 (.done [])))) 4 (.one [] 2 (.one [] 3 (.one [] 5 (.done []))))) (by kernel_rfl) (by kernel_rfl) (fun _ _ d _ _ h => by cases d <;> exact h) ?_
    repeat' (first
      | (refine plan_done (fun K hK => ?_); (first | (simp only [pick_cons, pick_nil, toList_some_append, List.getElem?_toArray, List.getElem?_cons_zero, List.getElem?_cons_succ]; repeat (go_big_quiet_step (fail))) | simp only [pick_nil]); refine wpQuiet_nil (hK _ ?_); clear hK K)
      | (refine plan_one (by rfl) (fun K hK => ?_); (first | (simp only [pick_cons, pick_nil, toList_some_append, List.getElem?_toArray, List.getElem?_cons_zero, List.getElem?_cons_succ]; repeat (go_big_quiet_step (fail))) | simp only [pick_nil]); refine wpQuiet_nil (hK _ ?_); clear hK K)
      | (refine plan_two (by rfl) (by rfl) (fun K hK => ?_); (first | (simp only [pick_cons, pick_nil, toList_some_append, List.getElem?_toArray, List.getElem?_cons_zero, List.getElem?_cons_succ]; repeat (go_big_quiet_step (fail))) | simp only [pick_nil]); refine wpQuiet_nil (hK _ ?_); clear hK K; refine ⟨?_, ?_⟩)
      | ((with_reducible refine at_list ?_); go_wp2_with (first | (go_at_call 49; go_must (refine (rneg_z _ j _ (hy.later (by repeat (first | with_reducible exact Later.refl _ | with_reducible assumption | with_reducible refine Later.ofdrew ?_ | with_reducible refine Later.ofdrewN ?_ | with_reducible refine Later.setCell ?_ ?_ _ | with_reducible refine Later.alloc ?_ _ | with_reducible refine Later.drewN ?_ _ | with_reducible refine Later.drew ?_ | (with_reducible refine Later.trans ?_ (by assumption)) | (simp only [World.size_setCell, World.size_alloc, World.heap_drewN]; omega) | (simp; done) | (simp; omega)))) (by omega)).mono ?_; rintro e w1 ⟨r, rfl, hr, hb1⟩; (first | have hO5 := Own.one hb1 | have hO5 := own_one_d hb1 | skip); have hs1 := Later.size hb1; (try simp only [World.size_alloc, World.size_drew] at hs1))) | (go_at_call 44; go_must (refine (radd_any _ _ i (-j) _ (hx.later (by repeat (first | with_reducible exact Later.refl _ | with_reducible assumption | with_reducible refine Later.ofdrew ?_ | with_reducible refine Later.ofdrewN ?_ | with_reducible refine Later.setCell ?_ ?_ _ | with_reducible refine Later.alloc ?_ _ | with_reducible refine Later.drewN ?_ _ | with_reducible refine Later.drew ?_ | (with_reducible refine Later.trans ?_ (by assumption)) | (simp only [World.size_setCell, World.size_alloc, World.heap_drewN]; omega) | (simp; done) | (simp; omega)))) (hr.later (by repeat (first | with_reducible exact Later.refl _ | with_reducible assumption | with_reducible refine Later.ofdrew ?_ | with_reducible refine Later.ofdrewN ?_ | with_reducible refine Later.setCell ?_ ?_ _ | with_reducible refine Later.alloc ?_ _ | with_reducible refine Later.drewN ?_ _ | with_reducible refine Later.drew ?_ | (with_reducible refine Later.trans ?_ (by assumption)) | (simp only [World.size_setCell, World.size_alloc, World.heap_drewN]; omega) | (simp; done) | (simp; omega)))) (by omega) (by rw [Int.natAbs_neg]; omega)).mono ?_; rintro e w2 ⟨r2, rfl, hz2, hb2⟩; obtain ⟨p2, k2, e2, hr2⟩ := hz2.open; subst e2; (first | have hO5 := hO5.later hb2 | have hO5 := Own.one hb2 | have hO5 := own_one_d hb2 | skip); (first | have hx5 := own_get hO5 | skip); (first | have c5 := hx5.2.1 | skip); (first | have f5 := hx5.2.2 | skip); have hs2 := Later.size hb2; (try simp only [World.size_alloc, World.size_drew] at hs2)))); first | refine behind_store (t := 5) (by decide) ?_ | refine behind (by repeat (first | with_reducible exact Later.refl _ | with_reducible assumption | with_reducible refine Later.ofdrew ?_ | with_reducible refine Later.ofdrewN ?_ | with_reducible refine Later.alloc ?_ _ | with_reducible refine Later.drewN ?_ _ | with_reducible refine Later.drew ?_ | (with_reducible refine Later.trans ?_ (by assumption)))) ?_))
    all_goals
      go_wp2_with fail
      go_meet
      first
        | exact ⟨_, _, rfl, own_alloc _ _ _, hr2.later (by repeat (first | with_reducible exact Later.refl _ | with_reducible assumption | with_reducible refine Later.ofdrew ?_ | with_reducible refine Later.ofdrewN ?_ | with_reducible refine Later.setCell ?_ ?_ _ | with_reducible refine Later.alloc ?_ _ | with_reducible refine Later.drewN ?_ _ | with_reducible refine Later.drew ?_ | (with_reducible refine Later.trans ?_ (by assumption)) | (simp only [World.size_setCell, World.size_alloc, World.heap_drewN]; omega) | (simp; done) | (simp; omega))), by repeat (first | with_reducible exact Later.refl _ | with_reducible assumption | with_reducible refine Later.ofdrew ?_ | with_reducible refine Later.ofdrewN ?_ | with_reducible refine Later.setCell ?_ ?_ _ | with_reducible refine Later.alloc ?_ _ | with_reducible refine Later.drewN ?_ _ | with_reducible refine Later.drew ?_ | (with_reducible refine Later.trans ?_ (by assumption)) | (simp only [World.size_setCell, World.size_alloc, World.heap_drewN]; omega) | (simp; done) | (simp; omega))⟩
        | exact ⟨_, _, rfl, own_set2 hO5, hr2.set2 c5, by repeat (first | with_reducible exact Later.refl _ | with_reducible assumption | with_reducible refine Later.ofdrew ?_ | with_reducible refine Later.ofdrewN ?_ | with_reducible refine Later.setCell ?_ ?_ _ | with_reducible refine Later.alloc ?_ _ | with_reducible refine Later.drewN ?_ _ | with_reducible refine Later.drew ?_ | (with_reducible refine Later.trans ?_ (by assumption)) | (simp only [World.size_setCell, World.size_alloc, World.heap_drewN]; omega) | (simp; done) | (simp; omega))⟩
  case rest =>
    obtain ⟨b, v, rfl, hO, hN, hlat⟩ := hcut
    obtain ⟨p5, k5, rfl⟩ := Row.form hN
    obtain ⟨z5, c5, -⟩ := own_get hO
    have hp := nlen_pos (n := (i + -j).natAbs)
    clear hx hy hb0 hO hN c0 c1 f0 f1
    rcases Int.lt_trichotomy i j with hc | hc | hc
    · have h1 : decide (i + -j < 0) = true := by simp; omega
      have h2 : 0 < nlen (i + -j).natAbs := hp.2 (by omega)
      have h3 : cmpZ i j = -1 := by simp [cmpZ, hc]
      rw [h1] at c5; have H3 := Lib.hid h3
      generalize nlen (i + -j).natAbs = L at *
      clear h1 h3 hc hp hL hM
      go_wp2
      go_ret
      exact ⟨ret_int H3.out.symm, hlat⟩
    · have h1 : decide (i + -j < 0) = false := by simp; omega
      have h2 : nlen (i + -j).natAbs = 0 := by rw [show (i + -j).natAbs = 0 by omega]; rfl
      have h3 : cmpZ i j = 0 := by simp [cmpZ, hc]
      rw [h1, h2] at c5; have H3 := Lib.hid h3
      clear h1 h3 hc hp h2 hL hM
      go_wp2
      go_ret
      exact ⟨ret_int H3.out.symm, hlat⟩
    · have h1 : decide (i + -j < 0) = false := by simp; omega
      have h2 : 0 < nlen (i + -j).natAbs := hp.2 (by omega)
      have h3 : cmpZ i j = 1 := by unfold cmpZ; rw [if_neg (by omega), if_neg (by omega)]
      rw [h1] at c5; have H3 := Lib.hid h3
      generalize nlen (i + -j).natAbs = L at *
      clear h1 h3 hc hp hL hM
      go_wp2
      go_ret
      exact ⟨ret_int H3.out.symm, hlat⟩
end Go.Proofs.Ytnnjjaknkiklpaa
