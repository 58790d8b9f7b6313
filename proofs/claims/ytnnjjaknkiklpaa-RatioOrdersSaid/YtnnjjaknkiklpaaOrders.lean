/- RatioOrders: its walk -/
import Derived.Test.YtnnjjaknkiklpaaRefO
import Derived.Test.YtnnjjaknkiklpaaRatAwake
import Derived.Test.YtnnjjaknkiklpaaRatTotal
namespace Go.Proofs.Ytnnjjaknkiklpaa
open Go.RowKit

theorem near_ref (n d : Nat) (hd : 0 < d) : nearQ (n : Int) (d : Int) = (nearN n d : Nat) := by
  unfold nearQ nearN
  have h1 : (n : Int) % d = ((n % d : Nat) : Int) := by simp
  have h2 : (n : Int) / d = ((n / d : Nat) : Int) := by simp
  rw [h1, h2]
  have h3 := Nat.mod_lt n hd
  generalize n % d = r at *
  generalize n / d = q at *
  by_cases h : d < 2 * r ∨ (2 * r = d ∧ q % 2 = 1)
  · rw [if_pos h, if_pos (by omega)]; omega
  · rw [if_neg h, if_neg (by omega)]
theorem near_le (n d : Nat) (hd : 0 < d) : nearN n d ≤ n := by
  unfold nearN
  have h1 := Nat.div_add_mod n d
  have h3 := Nat.mod_lt n hd
  split
  · rename_i h
    have hr : 1 ≤ n % d := by omega
    have : n / d ≤ d * (n / d) := Nat.le_mul_of_pos_left _ hd
    omega
  · exact Nat.div_le_self n d
theorem round_ref (n d : Int) (h : Valid n d) : fitsB (xor (decide (n < 0)) (decide (d < 0)) && decide (0 < nearN n.natAbs d.natAbs)) (nearN n.natAbs d.natAbs) = true ∧
    intV (xor (decide (n < 0)) (decide (d < 0)) && decide (0 < nearN n.natAbs d.natAbs)) (nearN n.natAbs d.natAbs) = roundI n d := by
  have hd := h.d0
  have h0 := h.n0
  have h1 := h.n1
  have hle := near_le n.natAbs d.natAbs (by omega)
  have hq := near_ref n.natAbs d.natAbs (by omega)
  have hdd : ((d.natAbs : Nat) : Int) = d := by omega
  rw [hdd] at hq
  have hdn : decide (d < 0) = false := by simp; omega
  rw [hdn]
  generalize nearN n.natAbs d.natAbs = N at *
  have hf : ∀ s, fitsB s N = true := fun s => by unfold fitsB; simp; omega
  refine ⟨hf _, ?_⟩
  unfold intV roundI
  rw [hf, if_pos rfl, hq]
  by_cases hn : n < 0
  · rw [if_pos hn]
    by_cases hN : 0 < N
    · simp [hn, hN]
    · have : N = 0 := by omega
      subst this; simp
  · rw [if_neg hn]; simp [hn]

set_option maxHeartbeats 3200000 in
theorem orders_bad (an ad bn bd E : Int) (w : World)
    (HCmp : Hid (∀ W, Calls Try.prog 14 #[.agg #[.int .i64 an, .int .i64 ad], .agg #[.int .i64 bn, .int .i64 bd]] W fun e w' => e = .returned (.tuple #[.int .i64 0, .int .i64 E]) ∧ Later W w'))
    (HNeg : Hid (∀ W, Calls Try.prog 18 #[.agg #[.int .i64 an, .int .i64 ad]] W fun e w' => e = .returned (.tuple #[.agg #[.int .i64 0, .int .i64 0], .int .i64 E]) ∧ Later W w'))
    (HRnd : Hid (∀ W, Calls Try.prog 15 #[.agg #[.int .i64 an, .int .i64 ad]] W fun e w' => e = .returned (.tuple #[.int .i64 0, .int .i64 E]) ∧ Later W w'))
    (HChk : Hid (∀ W, Calls Try.prog 10 #[.agg #[.int .i64 an, .int .i64 ad]] W fun e w' => e = .returned (.int .i64 E) ∧ Later W w'))
    (he : (E != 0) = true) :
    Calls Try.prog 5 #[.agg #[.int .i64 an, .int .i64 ad], .agg #[.int .i64 bn, .int .i64 bd]] w fun e w' => e = .returned (.bool true) ∧ Later w w' := by
  have HA := Lib.hid awake_any
  go_enter Try.func5, Try.ntmps5
  go_upto_region 3 with (first
    | (go_at_call 14; go_must (refine (HCmp.out _).mono ?_; rintro e w1 ⟨rfl, hb1⟩; have hO := Own.two hb1; obtain ⟨⟨z2, c2, -⟩, ⟨z3, c3, -⟩, -⟩ := id hO))
    | (go_at_call 18; go_must (refine (HNeg.out _).mono ?_; rintro e w2 ⟨rfl, hb2⟩)))
  refine wp_opaque (fun w3 hb3 => ?_)
  have hO7 := Own.one hb3
  have h23 := hb3.un1
  have hlw : Later w w3 := (hb1.un1.un1.trans hb2).trans h23
  clear c2 z2 c3 z3
  have hO3 := hO.later (hb2.trans h23)
  obtain ⟨⟨z2, c2, -⟩, -⟩ := id hO3
  clear hb3 hb2 hb1 hO h23
  go_wp2_with (first
    | (go_at_call 15; go_must (refine (HRnd.out _).mono ?_; rintro e w4 ⟨rfl, hb4⟩; clear c2 z2; obtain ⟨⟨z2, c2, -⟩, -⟩ := hO3.later hb4))
    | (go_at_call 10; go_must (refine (HChk.out _).mono ?_; rintro e w5 ⟨rfl, hb5⟩; clear c2 z2; obtain ⟨z7, c7, -⟩ := own_get (hO7.later (hb4.trans hb5))))
    | (go_at_call 11; go_must (refine (HA.out _).mono ?_; rintro e w6 ⟨rfl, hb6⟩)))
  go_ret
  exact ⟨rfl, ((hlw.trans hb4).trans hb5).trans hb6⟩

set_option maxHeartbeats 3200000 in
theorem orders_good (an ad bn bd c e1 E R : Int) (w : World) (an1 : -9223372036854775808 < an) (an2 : an ≤ 9223372036854775807) (ad1 : 0 < ad) (ad2 : ad ≤ 9223372036854775807)
    (HCmp : Hid (∀ W, Calls Try.prog 14 #[.agg #[.int .i64 an, .int .i64 ad], .agg #[.int .i64 bn, .int .i64 bd]] W fun e w' => e = .returned (.tuple #[.int .i64 c, .int .i64 e1]) ∧ Later W w'))
    (HNeg : Hid (∀ W, Calls Try.prog 18 #[.agg #[.int .i64 an, .int .i64 ad]] W fun e w' => e = .returned (.tuple #[.agg #[.int .i64 (-an), .int .i64 ad], .int .i64 0]) ∧ Later W w'))
    (HRnd : Hid (∀ W, Calls Try.prog 15 #[.agg #[.int .i64 an, .int .i64 ad]] W fun e w' => e = .returned (.tuple #[.int .i64 R, .int .i64 0]) ∧ Later W w'))
    (HChk : Hid (∀ W, Calls Try.prog 10 #[.agg #[.int .i64 an, .int .i64 ad]] W fun e w' => e = .returned (.int .i64 0) ∧ Later W w'))
    (HChk2 : Hid (∀ W, Calls Try.prog 10 #[.agg #[.int .i64 bn, .int .i64 bd]] W fun e w' => e = .returned (.int .i64 E) ∧ Later W w'))
    (HInt : Hid (∀ W x, IsBig W x (xor (decide (an < 0)) (decide (ad < 0)) && decide (0 < nearN an.natAbs ad.natAbs)) (nearN an.natAbs ad.natAbs) → Calls Try.prog 19 #[x] W fun e w' => e = .returned (.tuple #[.int .i64 R, .bool true]) ∧ Later W w'))
    (HOrd : Hid (E = 0 → e1 = 0 ∧ ∀ W x y, IsQ W x an ad → IsQ W y bn bd → Calls Try.prog 22 #[x, y] W fun e w' => e = .returned (.int .i64 c) ∧ Later W w'))
    (HBad : Hid (E ≠ 0 → c = 0 ∧ e1 = E)) (bn1 : -9223372036854775808 ≤ bn ∧ bn ≤ 9223372036854775807) (bd1 : -9223372036854775808 ≤ bd ∧ bd ≤ 9223372036854775807) :
    Calls Try.prog 5 #[.agg #[.int .i64 an, .int .i64 ad], .agg #[.int .i64 bn, .int .i64 bd]] w fun e w' => e = .returned (.bool true) ∧ Later w w' := by
  have HA := Lib.hid awake_any
  have HOf1 := Lib.hid (fun W => rof_any an W (by omega) an2)
  have HOf2 := Lib.hid (fun W => rof_any ad W (by omega) ad2)
  have HQ1 := Lib.hid (fun W => qof_any an ad W (by omega) an2 (by omega) ad2)
  have HQ2 := Lib.hid (fun W => qof_any bn bd W bn1.1 bn1.2 bd1.1 bd1.2)
  have hNear := Lib.hid (fun W x y (hx : IsZ W x an) (hy : IsZ W y ad) => rnear_any x y _ _ an.natAbs ad.natAbs W hx hy (Nat.le_trans (nlen_i64 (by omega) an2) (by omega)) (Nat.le_trans (nlen_i64 (by omega) ad2) (by omega)) (by omega))
  clear bn1 bd1
  go_enter Try.func5, Try.ntmps5
  go_upto_region 3 with (first
    | (go_at_call 14; go_must (refine (HCmp.out _).mono ?_; rintro e w1 ⟨rfl, hb1⟩; have hO := Own.two hb1; obtain ⟨⟨z2, c2, -⟩, ⟨z3, c3, -⟩, -⟩ := id hO))
    | (go_at_call 18; go_must (refine (HNeg.out _).mono ?_; rintro e w2 ⟨rfl, hb2⟩)))
  refine wp_opaque (fun w3 hb3 => ?_)
  have hO7 := Own.one hb3
  have h23 := hb3.un1
  have hlw : Later w w3 := (hb1.un1.un1.trans hb2).trans h23
  clear c2 z2 c3 z3
  have hO3 := hO.later (hb2.trans h23)
  obtain ⟨⟨z2, c2, -⟩, -⟩ := id hO3
  clear hb3 hb2 hb1 hO h23
  go_upto_region 7 with (first
    | (go_at_call 15; go_must (refine (HRnd.out _).mono ?_; rintro e w4 ⟨rfl, hb4⟩; clear c2 z2; obtain ⟨⟨z2, c2, -⟩, -⟩ := hO3.later hb4))
    | (go_at_call 10; go_must (refine (HChk.out _).mono ?_; rintro e w5 ⟨rfl, hb5⟩; clear c2 z2; have hb35 := hb4.trans hb5; obtain ⟨⟨z2, c2, -⟩, ⟨z3, c3, -⟩, -⟩ := hO3.later hb35)))
  have hl5 := hlw.trans hb35
  clear hlw hb4 hb5
  have tok1 : True := trivial
  refine wp_region_plan 13 (.one [0, 1, 3, 4] 2 (.one [] 5 (.one [] 6 (.one [] 7 (.done [8, 9, 10, 11, 12]))))) (by kernel_rfl) (by kernel_rfl) (fun _ _ d _ _ h => by cases d <;> exact h) ?_
  repeat' (first
    | (refine plan_done (fun K hK => ?_); (first | (simp only [pick_cons, pick_nil, toList_some_append, List.getElem?_toArray, List.getElem?_cons_zero, List.getElem?_cons_succ]; repeat (go_big_quiet_step (fail))) | simp only [pick_nil]); refine wpQuiet_nil (hK _ ?_); clear hK K)
    | (refine plan_one (by rfl) (fun K hK => ?_); (first | (simp only [pick_cons, pick_nil, toList_some_append, List.getElem?_toArray, List.getElem?_cons_zero, List.getElem?_cons_succ]; repeat (go_big_quiet_step (fail))) | simp only [pick_nil]); refine wpQuiet_nil (hK _ ?_); clear hK K)
    | ((with_reducible refine at_list ?_); go_wp2_with (first | (go_at_call 21; clear tok1; go_must (refine (HOf1.out _).mono ?_; rintro e w6 ⟨r1, rfl, hr1, hb6⟩; replace hb6 := Later.undrew hb6; clear c2 z2; obtain ⟨⟨z2, c2, -⟩, -⟩ := hO3.later (hb35.trans hb6))) | (go_at_call 21; go_must (refine (HOf2.out _).mono ?_; rintro e w7 ⟨r2, rfl, hr2, hb7⟩)) | (go_at_call 20; go_must (refine (hNear.out _ _ _ (hr1.later hb7) hr2).mono ?_; rintro e w8 ⟨r3, rfl, hr3, hb8⟩)) | (go_at_call 19; go_must (refine (HInt.out _ _ hr3).mono ?_; rintro e w9 ⟨rfl, hb9⟩; have h59 := ((hb6.trans hb7).trans hb8).trans hb9; clear c2 z2 c3 z3; obtain ⟨⟨z2, c2, -⟩, ⟨z3, c3, -⟩, -⟩ := hO3.later (hb35.trans h59); obtain ⟨z7, c7, -⟩ := own_get (hO7.later (hb35.trans h59))))); first | refine behind_store (t := 13) (by decide) ?_ | refine behind (by repeat (first | with_reducible exact Later.refl _ | with_reducible assumption | with_reducible refine Later.ofdrew ?_ | with_reducible refine Later.ofdrewN ?_ | with_reducible refine Later.alloc ?_ _ | with_reducible refine Later.drewN ?_ _ | with_reducible refine Later.drew ?_ | (with_reducible refine Later.trans ?_ (by assumption)))) ?_))
  have hl9 := hl5.trans h59
  by_cases hE : E = 0
  · obtain ⟨h1, h2⟩ := HOrd.out hE
    have HO2 := Lib.hid h2
    subst h1
    subst hE
    clear h2
    go_upto_region 13 with (go_at_call 10; go_must (refine (HChk2.out _).mono ?_; rintro e wa ⟨rfl, hba⟩; clear c2 z2 c3 z3 c7 z7; obtain ⟨⟨z2, c2, -⟩, ⟨z3, c3, -⟩, -⟩ := hO3.later ((hb35.trans h59).trans hba)))
    have tok2 : True := trivial
    refine wp_region_plan 15 (.one [0, 1, 3] 2 (.one [] 4 (.one [] 5 (.one [6, 7, 8, 9, 10, 11] 12 (.done [13, 14]))))) (by kernel_rfl) (by kernel_rfl) (fun _ _ d _ _ h => by cases d <;> exact h) ?_
    repeat' (first
      | (refine plan_done (fun K hK => ?_); (first | (simp only [pick_cons, pick_nil, toList_some_append, List.getElem?_toArray, List.getElem?_cons_zero, List.getElem?_cons_succ]; repeat (go_big_quiet_step (fail))) | simp only [pick_nil]); refine wpQuiet_nil (hK _ ?_); clear hK K)
      | (refine plan_one (by rfl) (fun K hK => ?_); (first | (simp only [pick_cons, pick_nil, toList_some_append, List.getElem?_toArray, List.getElem?_cons_zero, List.getElem?_cons_succ]; repeat (go_big_quiet_step (fail))) | simp only [pick_nil]); refine wpQuiet_nil (hK _ ?_); clear hK K)
      | ((with_reducible refine at_list ?_); go_wp2_with (first | (go_at_call 13; clear tok2; go_must (refine (HQ1.out _).mono ?_; rintro e wb ⟨q1, rfl, hq1, hbb⟩; replace hbb := Later.undrew hbb; clear c3 z3; obtain ⟨-, ⟨z3, c3, -⟩, -⟩ := hO3.later (((hb35.trans h59).trans hba).trans hbb))) | (go_at_call 13; go_must (refine (HQ2.out _).mono ?_; rintro e wc ⟨q2, rfl, hq2, hbc⟩)) | (go_at_call 22; go_must (refine (HO2.out _ _ _ (hq1.later hbc) hq2).mono ?_; rintro e wd ⟨rfl, hbd⟩)) | (go_at_call 11; go_must (refine (HA.out _).mono ?_; rintro e we ⟨rfl, hbe⟩))); first | refine behind_store (t := 15) (by decide) ?_ | refine behind (by repeat (first | with_reducible exact Later.refl _ | with_reducible assumption | with_reducible refine Later.ofdrew ?_ | with_reducible refine Later.ofdrewN ?_ | with_reducible refine Later.alloc ?_ _ | with_reducible refine Later.drewN ?_ _ | with_reducible refine Later.drew ?_ | (with_reducible refine Later.trans ?_ (by assumption)))) ?_))
    go_wp2
    go_ret
    exact ⟨rfl, ((((hl9.trans hba).trans hbb).trans hbc).trans hbd).trans hbe⟩
  · obtain ⟨h1, h2⟩ := HBad.out hE
    subst h1
    subst h2
    have hE0 : (e1 != 0) = true := by simpa using hE
    clear hE
    go_wp2_with (first
      | (go_at_call 10; go_must (refine (HChk2.out _).mono ?_; rintro e wa ⟨rfl, hba⟩))
      | (go_at_call 11; go_must (refine (HA.out _).mono ?_; rintro e we ⟨rfl, hbe⟩)))
    go_ret
    exact ⟨rfl, (hl9.trans hba).trans hbe⟩
end Go.Proofs.Ytnnjjaknkiklpaa
