/- RatioMakes: its walk -/
import Derived.Test.YtnnjjaknkiklpaaRefO
import Derived.Test.YtnnjjaknkiklpaaRatAwake
namespace Go.Proofs.Ytnnjjaknkiklpaa
open Go.RowKit

set_option maxHeartbeats 3200000 in
theorem makes_any (rn rd num den : Int) (w : World) (rn1 : -9223372036854775808 ≤ rn ∧ rn ≤ 9223372036854775807) (rd1 : -9223372036854775808 ≤ rd ∧ rd ≤ 9223372036854775807)
    (n1 : -9223372036854775808 ≤ num ∧ num ≤ 9223372036854775807) (d1 : -9223372036854775808 ≤ den ∧ den ≤ 9223372036854775807) :
    Calls Try.prog 3 #[.agg #[.int .i64 rn, .int .i64 rd], .int .i64 num, .int .i64 den] w fun e w' => e = .returned (.bool true) ∧ Later w w' := by
  have HOf := Lib.hid (fun W => of_any num den W n1.1 n1.2 d1.1 d1.2)
  have HC1 := Lib.hid (fun W => check_any rn rd W rn1.1 rn1.2 rd1.1 rd1.2)
  have HC2 := Lib.hid (fun W => qcheck_any rn rd W rn1.1 rn1.2 rd1.1 rd1.2)
  have HA := Lib.hid awake_any
  by_cases hd : den = 0
  · subst hd
    have R := r_zero num
    rw [R.1, R.2.1, R.2.2] at HOf
    obtain ⟨k, hk⟩ : ∃ k, chkE rn rd = k := ⟨_, rfl⟩
    rw [hk] at HC1 HC2
    clear R hk rn1 rd1 d1
    go_enter Try.func3, Try.ntmps3
    go_upto_region 2 with (go_at_call 8; go_must (refine (HOf.out _).mono ?_; rintro e w1 ⟨rfl, hb1⟩))
    refine wp_opaque (fun w2 hb2 => ?_)
    have hO3 := (Own.one hb1).later hb2.un1
    have hO7 := Own.one hb2
    have hlw := (hb1.un1).trans hb2.un1
    obtain ⟨z3, c3, -⟩ := own_get hO3
    obtain ⟨z7, c7, -⟩ := own_get hO7
    clear hb1 hb2
    refine wp_region_plan 5 (.one [0, 2] 1 (.one [] 3 (.done [4]))) (by kernel_rfl) (by kernel_rfl) (fun _ _ d _ _ h => by cases d <;> exact h) ?_
    repeat' (first
      | (refine plan_done (fun K hK => ?_); (first | (simp only [pick_cons, pick_nil, toList_some_append, List.getElem?_toArray, List.getElem?_cons_zero, List.getElem?_cons_succ]; repeat (go_big_quiet_step (fail))) | simp only [pick_nil]); refine wpQuiet_nil (hK _ ?_); clear hK K)
      | (refine plan_one (by rfl) (fun K hK => ?_); (first | (simp only [pick_cons, pick_nil, toList_some_append, List.getElem?_toArray, List.getElem?_cons_zero, List.getElem?_cons_succ]; repeat (go_big_quiet_step (fail))) | simp only [pick_nil]); refine wpQuiet_nil (hK _ ?_); clear hK K)
      | ((with_reducible refine at_list ?_); go_wp2_with (first | (go_at_call 9; go_must (refine (HC1.out _).mono ?_; rintro e w3 ⟨rfl, hb3⟩; replace hb3 := Later.undrew hb3; clear c3 z3 c7 z7; obtain ⟨z3, c3, -⟩ := own_get (hO3.later hb3); obtain ⟨z7, c7, -⟩ := own_get (hO7.later hb3))) | (go_at_call 10; go_must (refine (HC2.out _).mono ?_; rintro e w4 ⟨rfl, hb4⟩; have hc4 := hb3.trans hb4; clear c3 z3 c7 z7; obtain ⟨z7, c7, -⟩ := own_get (hO7.later hc4)))); first | refine behind_store (t := 5) (by decide) ?_ | refine behind (by repeat (first | with_reducible exact Later.refl _ | with_reducible assumption | with_reducible refine Later.ofdrew ?_ | with_reducible refine Later.ofdrewN ?_ | with_reducible refine Later.alloc ?_ _ | with_reducible refine Later.drewN ?_ _ | with_reducible refine Later.drew ?_ | (with_reducible refine Later.trans ?_ (by assumption)))) ?_))
    go_wp2_with (go_at_call 11; go_must (refine (HA.out _).mono ?_; rintro e w5 ⟨rfl, hb5⟩))
    go_ret
    exact ⟨rfl, (hlw.trans hc4).trans hb5⟩
  · have HQ := Lib.hid (fun x W (hx : IsQ W x num den) => qratio_any x num den W hx (Nat.le_trans (nlen_i64 n1.1 n1.2) (by omega)) (Nat.le_trans (nlen_i64 d1.1 d1.2) (by omega)) hd)
    have HQ0 := Lib.hid (fun W => qof_any num den W n1.1 n1.2 d1.1 d1.2)
    obtain ⟨k, hk⟩ : ∃ k, chkE rn rd = k := ⟨_, rfl⟩
    rw [hk] at HC1 HC2
    obtain ⟨x, hx⟩ : ∃ x, rN num den = x := ⟨_, rfl⟩
    obtain ⟨y, hy⟩ : ∃ y, rD num den = y := ⟨_, rfl⟩
    obtain ⟨z, hz⟩ : ∃ z, rE num den = z := ⟨_, rfl⟩
    rw [hx, hy, hz] at HOf HQ
    have hd0 : (den == 0) = false := by simpa using hd
    clear hk hx hy hz rn1 rd1 d1 hd
    go_enter Try.func3, Try.ntmps3
    go_upto_region 2 with (go_at_call 8; go_must (refine (HOf.out _).mono ?_; rintro e w1 ⟨rfl, hb1⟩))
    refine wp_opaque (fun w2 hb2 => ?_)
    have hO3 := (Own.one hb1).later hb2.un1
    have hO7 := Own.one hb2
    have hlw := (hb1.un1).trans hb2.un1
    obtain ⟨z3, c3, -⟩ := own_get hO3
    obtain ⟨z7, c7, -⟩ := own_get hO7
    clear hb1 hb2
    refine wp_region_plan 5 (.one [0, 2] 1 (.one [] 3 (.done [4]))) (by kernel_rfl) (by kernel_rfl) (fun _ _ d _ _ h => by cases d <;> exact h) ?_
    repeat' (first
      | (refine plan_done (fun K hK => ?_); (first | (simp only [pick_cons, pick_nil, toList_some_append, List.getElem?_toArray, List.getElem?_cons_zero, List.getElem?_cons_succ]; repeat (go_big_quiet_step (fail))) | simp only [pick_nil]); refine wpQuiet_nil (hK _ ?_); clear hK K)
      | (refine plan_one (by rfl) (fun K hK => ?_); (first | (simp only [pick_cons, pick_nil, toList_some_append, List.getElem?_toArray, List.getElem?_cons_zero, List.getElem?_cons_succ]; repeat (go_big_quiet_step (fail))) | simp only [pick_nil]); refine wpQuiet_nil (hK _ ?_); clear hK K)
      | ((with_reducible refine at_list ?_); go_wp2_with (first | (go_at_call 9; go_must (refine (HC1.out _).mono ?_; rintro e w3 ⟨rfl, hb3⟩; replace hb3 := Later.undrew hb3; clear c3 z3 c7 z7; obtain ⟨z3, c3, -⟩ := own_get (hO3.later hb3); obtain ⟨z7, c7, -⟩ := own_get (hO7.later hb3))) | (go_at_call 10; go_must (refine (HC2.out _).mono ?_; rintro e w4 ⟨rfl, hb4⟩; have hc4 := hb3.trans hb4; clear c3 z3 c7 z7; obtain ⟨z7, c7, -⟩ := own_get (hO7.later hc4)))); first | refine behind_store (t := 5) (by decide) ?_ | refine behind (by repeat (first | with_reducible exact Later.refl _ | with_reducible assumption | with_reducible refine Later.ofdrew ?_ | with_reducible refine Later.ofdrewN ?_ | with_reducible refine Later.alloc ?_ _ | with_reducible refine Later.drewN ?_ _ | with_reducible refine Later.drew ?_ | (with_reducible refine Later.trans ?_ (by assumption)))) ?_))
    go_wp2_with (first
      | (go_at_call 13; go_must (refine (HQ0.out _).mono ?_; rintro e w5 ⟨q, rfl, hq, hb5⟩))
      | (go_at_call 12; go_must (refine (HQ.out _ _ hq).mono ?_; rintro e w6 ⟨rfl, hb6⟩; replace hb6 := (hc4.trans hb5).trans hb6; clear c7 z7; obtain ⟨z7, c7, -⟩ := own_get (hO7.later hb6)))
      | (go_at_call 11; go_must (refine (HA.out _).mono ?_; rintro e w7 ⟨rfl, hb7⟩)))
    go_ret
    exact ⟨rfl, (hlw.trans hb6).trans hb7.un1⟩
end Go.Proofs.Ytnnjjaknkiklpaa
