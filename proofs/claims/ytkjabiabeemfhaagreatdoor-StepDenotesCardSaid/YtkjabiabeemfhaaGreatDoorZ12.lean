/- value: the walk of seen.at -/
import Derived.Test.YtkjabiabeemfhaaGreatDoorZ11
import Derived.WalkMore
set_option linter.all false
set_option linter.all false
section
namespace Go.Proofs.YtkjabiabeemfhaaGreatDoor
open Go.RowKit
set_option maxRecDepth 100000
theorem pickQ_least (a b : Q2) : pickQ 1 a b = if b.1 * a.2 < a.1 * b.2 then b else a := by
 unfold pickQ cmpI
 by_cases h : a.1 * b.2 < b.1 * a.2
 ·rw [if_pos h, if_neg (by decide), if_neg (by omega)]
 ·rw [if_neg h]
  by_cases h2 : a.1 * b.2 = b.1 * a.2
  ·rw [if_pos h2, if_neg (by decide), if_neg (by omega)]
  ·rw [if_neg h2, if_pos (by decide), if_pos (by omega)]
theorem pickQ_most (a b : Q2) : pickQ (-1) a b = if a.1 * b.2 < b.1 * a.2 then b else a := by
 unfold pickQ cmpI
 by_cases h : a.1 * b.2 < b.1 * a.2
 ·rw [if_pos h, if_pos (by decide), if_pos h]
 ·rw [if_neg h, if_neg h]
  by_cases h2 : a.1 * b.2 = b.1 * a.2
  ·rw [if_pos h2, if_neg (by decide)]
  ·rw [if_neg h2, if_neg (by decide)]
set_option maxHeartbeats 1600000 in
theorem apply_one (a : Q2) (v : Value) (w : World) (hA : Valid a.1 a.2) (hN : IsRats w v [a]) :
  Calls Tryz.prog 201 #[.int .i64 3, v] w fun e w' => e = .returned (.tuple #[.agg #[.int .i64 (outN (applyV 3 [a])), .int .i64 (outD (applyV 3 [a]))], .int .i64 (applyV 3 [a]).1]) ∧ Later w w' := by
 have HC := Lib.hid (fun W => neg_good a.1 a.2 W hA)
 have hmf : ∀ (fn : Fn) (first cap : Array Value) (w : World), (Instr.makeFunc fn first cap).run Tryz.prog w = .ok (.func fn first cap) w := fun _ _ _ _ => rfl
 obtain ⟨b0, o, cp, rfl, hb, gg⟩ := hN.full (i := 0) (by simp)
 have g0 := gg 0 (by omega)
 have g1 := gg 1 (by omega)
 obtain ⟨an, ad⟩ := a
 simp only [ratCell, List.getElem_cons_zero, Nat.zero_mul, Nat.add_zero, List.length_cons, List.length_nil, Nat.reduceAdd] at g0 g1 HC ⊢
 show Calls _ _ _ _ fun e w' => e = .returned (.tuple #[.agg #[.int .i64 (-an), .int .i64 ad], .int .i64 0]) ∧ Later w w'
 clear hN gg hA
 go_enter Tryz.func201, Tryz.ntmps201
 go_wp2_with (go_at_call 134; go_must (refine (HC.out _).mono ?_; rintro e w1 ⟨rfl, hb1⟩; obtain ⟨-, ⟨zo, co, fo⟩, -⟩ := Own.two hb1; have co0 := co 0; have co1 := co 1; have fo0 := fo 0 (by simp); have fo1 := fo 1 (by simp); simp only [List.getElem?_toArray, List.getElem?_cons_zero, List.getElem?_cons_succ] at co0 co1; have hl1 : Later w w1 := hb1.un1.un1; clear co fo))
 exact bodyPost_ret (v := .tuple #[.agg #[.int .i64 (-an), .int .i64 ad], .int .i64 0]) (by simp [results, Tryz.results201, go_sem, co0, co1]) rfl ⟨rfl, by repeat (first | with_reducible (first | exact zq1 _ | assumption | refine zq2 ?_ | refine zq4 ?_ ?_ _ | refine zq5 ?_ _ | refine zq6 ?_ _ | refine zq7 ?_ | refine zq8 ?_ (by assumption)) | (simp only [zq10]; omega) | (simp; done) | (simp; omega))⟩
set_option maxHeartbeats 1600000 in
theorem apply_plus (a b : Q2) (v : Value) (w : World) (hA : Valid a.1 a.2) (hB : Valid b.1 b.2) (hN : IsRats w v [a, b]) :
  Calls Tryz.prog 201 #[.int .i64 4, v] w fun e w' => e = .returned (.tuple #[.agg #[.int .i64 (outN (applyV 4 [a, b])), .int .i64 (outD (applyV 4 [a, b]))], .int .i64 (applyV 4 [a, b]).1]) ∧ Later w w' := by
 have HC := Lib.hid (fun W => Add_good a.1 a.2 b.1 b.2 W hA hB)
 have hmf : ∀ (fn : Fn) (first cap : Array Value) (w : World), (Instr.makeFunc fn first cap).run Tryz.prog w = .ok (.func fn first cap) w := fun _ _ _ _ => rfl
 obtain ⟨b0, o, cp, rfl, hb, gg⟩ := hN.full (i := 0) (by simp)
 obtain ⟨_, _, _, hv, _, gg1⟩ := hN.full (i := 1) (by simp)
 cases hv
 have g0 := gg 0 (by omega)
 have g1 := gg 1 (by omega)
 have g2 := gg1 0 (by omega)
 have g3 := gg1 1 (by omega)
 have hap : applyV 4 [a, b] = fitQ (a.1 * b.2 + b.1 * a.2) (a.2 * b.2) := rfl
 rw [hap, (fitQ_out _ _).1, (fitQ_out _ _).2, show (fitQ (a.1 * b.2 + b.1 * a.2) (a.2 * b.2)).1 = rE (a.1 * b.2 + b.1 * a.2) (a.2 * b.2) from rfl]
 obtain ⟨rn, hrn⟩ : ∃ r, rN (a.1 * b.2 + b.1 * a.2) (a.2 * b.2) = r := ⟨_, rfl⟩
 obtain ⟨rd, hrd⟩ : ∃ r, rD (a.1 * b.2 + b.1 * a.2) (a.2 * b.2) = r := ⟨_, rfl⟩
 obtain ⟨re, hre⟩ : ∃ r, rE (a.1 * b.2 + b.1 * a.2) (a.2 * b.2) = r := ⟨_, rfl⟩
 rw [hrn, hrd, hre] at HC ⊢
 clear hrn hrd hre hap
 obtain ⟨an, ad⟩ := a
 obtain ⟨bn, bd⟩ := b
 simp only [ratCell, List.getElem_cons_zero, List.getElem_cons_succ, Nat.zero_mul, Nat.one_mul, Nat.add_zero, List.length_cons, List.length_nil, Nat.reduceAdd] at g0 g1 g2 g3 HC ⊢
 clear hN gg gg1 hA hB
 go_enter Tryz.func201, Tryz.ntmps201
 go_wp2
 refine wp_opaque (fun w0 hb0 => ?_)
 have hO := Own.two hb0
 obtain ⟨⟨zb, cb, -⟩, ⟨zr, cr, fr⟩, -⟩ := hO
 have hl0 : Later w w0 := hb0.un1.un1
 have hcb := cb 0
 have hcr0 := cr 0
 have hcr1 := cr 1
 have hfr0 := fr 0 (by simp)
 have hfr1 := fr 1 (by simp)
 simp only [List.getElem?_toArray, List.getElem?_cons_zero, List.getElem?_cons_succ] at hcb hcr0 hcr1
 have i0 := ((bcell hl0).1 _ _ hb).trans g0
 have i1 := ((bcell hl0).1 _ _ hb).trans g1
 have i2 := ((bcell hl0).1 _ _ hb).trans g2
 have i3 := ((bcell hl0).1 _ _ hb).trans g3
 clear cb cr fr hb0 g0 g1 g2 g3
 refine wp_region_plan 9 (.one [0, 1, 2, 3, 4, 5] 6 (.one [7, 8] 9 (.done [10]))) (by kernel_rfl) (by kernel_rfl) (fun _ _ d _ _ h => by cases d <;> exact h) ?_
 repeat' (first
  | ((first | refine plan_done (fun K hK => ?_) | refine plan_one (by rfl) (fun K hK => ?_)); (first | (simp only [zq9]; repeat (go_big_quiet_step (fail))) | simp only [pick_nil]); refine wpQuiet_nil (hK _ ?_); clear hK K)
  | ((with_reducible refine at_list ?_); go_wp2_with ((go_at_call 209; go_must (refine (HC.out _).mono ?_; rintro e w1 ⟨rfl, hb1⟩; replace hb1 := Later.undrew hb1; have co0 := ((bcell hb1).1 _ _ zr).trans hcr0; have co1 := ((bcell hb1).1 _ _ zr).trans hcr1; have fo0 := ((bcell hb1).2 _ _ zr).trans hfr0; have fo1 := ((bcell hb1).2 _ _ zr).trans hfr1; have hz1 := Later.size hb1))); first | refine behind_store (t := 9) (by decide) ?_ | refine behind (by with_reducible repeat (first | exact zq1 _ | assumption | refine zq2 ?_ | refine zq5 ?_ _ | refine zq6 ?_ _ | refine zq7 ?_ | refine zq8 ?_ (by assumption))) ?_))
 go_wp2
 exact bodyPost_ret (v := .tuple #[.agg #[.int .i64 rn, .int .i64 rd], .int .i64 re]) (by simp [results, Tryz.results201, go_sem, co0, co1]) rfl ⟨rfl, by repeat (first | with_reducible (first | exact zq1 _ | assumption | refine zq2 ?_ | refine zq4 ?_ ?_ _ | refine zq5 ?_ _ | refine zq6 ?_ _ | refine zq7 ?_ | refine zq8 ?_ (by assumption)) | (simp only [zq10]; omega) | (simp; done) | (simp; omega))⟩
set_option maxHeartbeats 1600000 in
theorem apply_minus (a b : Q2) (v : Value) (w : World) (hA : Valid a.1 a.2) (hB : Valid b.1 b.2) (hN : IsRats w v [a, b]) :
  Calls Tryz.prog 201 #[.int .i64 5, v] w fun e w' => e = .returned (.tuple #[.agg #[.int .i64 (outN (applyV 5 [a, b])), .int .i64 (outD (applyV 5 [a, b]))], .int .i64 (applyV 5 [a, b]).1]) ∧ Later w w' := by
 have HC := Lib.hid (fun W => Sub_good a.1 a.2 b.1 b.2 W hA hB)
 have hmf : ∀ (fn : Fn) (first cap : Array Value) (w : World), (Instr.makeFunc fn first cap).run Tryz.prog w = .ok (.func fn first cap) w := fun _ _ _ _ => rfl
 obtain ⟨b0, o, cp, rfl, hb, gg⟩ := hN.full (i := 0) (by simp)
 obtain ⟨_, _, _, hv, _, gg1⟩ := hN.full (i := 1) (by simp)
 cases hv
 have g0 := gg 0 (by omega)
 have g1 := gg 1 (by omega)
 have g2 := gg1 0 (by omega)
 have g3 := gg1 1 (by omega)
 have hap : applyV 5 [a, b] = fitQ (a.1 * b.2 + -b.1 * a.2) (a.2 * b.2) := rfl
 rw [hap, (fitQ_out _ _).1, (fitQ_out _ _).2, show (fitQ (a.1 * b.2 + -b.1 * a.2) (a.2 * b.2)).1 = rE (a.1 * b.2 + -b.1 * a.2) (a.2 * b.2) from rfl]
 obtain ⟨rn, hrn⟩ : ∃ r, rN (a.1 * b.2 + -b.1 * a.2) (a.2 * b.2) = r := ⟨_, rfl⟩
 obtain ⟨rd, hrd⟩ : ∃ r, rD (a.1 * b.2 + -b.1 * a.2) (a.2 * b.2) = r := ⟨_, rfl⟩
 obtain ⟨re, hre⟩ : ∃ r, rE (a.1 * b.2 + -b.1 * a.2) (a.2 * b.2) = r := ⟨_, rfl⟩
 rw [hrn, hrd, hre] at HC ⊢
 clear hrn hrd hre hap
 obtain ⟨an, ad⟩ := a
 obtain ⟨bn, bd⟩ := b
 simp only [ratCell, List.getElem_cons_zero, List.getElem_cons_succ, Nat.zero_mul, Nat.one_mul, Nat.add_zero, List.length_cons, List.length_nil, Nat.reduceAdd] at g0 g1 g2 g3 HC ⊢
 clear hN gg gg1 hA hB
 go_enter Tryz.func201, Tryz.ntmps201
 go_wp2
 refine wp_opaque (fun w0 hb0 => ?_)
 have hO := Own.two hb0
 obtain ⟨⟨zb, cb, -⟩, ⟨zr, cr, fr⟩, -⟩ := hO
 have hl0 : Later w w0 := hb0.un1.un1
 have hcb := cb 0
 have hcr0 := cr 0
 have hcr1 := cr 1
 have hfr0 := fr 0 (by simp)
 have hfr1 := fr 1 (by simp)
 simp only [List.getElem?_toArray, List.getElem?_cons_zero, List.getElem?_cons_succ] at hcb hcr0 hcr1
 have i0 := ((bcell hl0).1 _ _ hb).trans g0
 have i1 := ((bcell hl0).1 _ _ hb).trans g1
 have i2 := ((bcell hl0).1 _ _ hb).trans g2
 have i3 := ((bcell hl0).1 _ _ hb).trans g3
 clear cb cr fr hb0 g0 g1 g2 g3
 refine wp_region_plan 9 (.one [0, 1, 2, 3, 4, 5] 6 (.one [7, 8] 9 (.done [10]))) (by kernel_rfl) (by kernel_rfl) (fun _ _ d _ _ h => by cases d <;> exact h) ?_
 repeat' (first
  | ((first | refine plan_done (fun K hK => ?_) | refine plan_one (by rfl) (fun K hK => ?_)); (first | (simp only [zq9]; repeat (go_big_quiet_step (fail))) | simp only [pick_nil]); refine wpQuiet_nil (hK _ ?_); clear hK K)
  | ((with_reducible refine at_list ?_); go_wp2_with ((go_at_call 210; go_must (refine (HC.out _).mono ?_; rintro e w1 ⟨rfl, hb1⟩; replace hb1 := Later.undrew hb1; have co0 := ((bcell hb1).1 _ _ zr).trans hcr0; have co1 := ((bcell hb1).1 _ _ zr).trans hcr1; have fo0 := ((bcell hb1).2 _ _ zr).trans hfr0; have fo1 := ((bcell hb1).2 _ _ zr).trans hfr1; have hz1 := Later.size hb1))); first | refine behind_store (t := 9) (by decide) ?_ | refine behind (by with_reducible repeat (first | exact zq1 _ | assumption | refine zq2 ?_ | refine zq5 ?_ _ | refine zq6 ?_ _ | refine zq7 ?_ | refine zq8 ?_ (by assumption))) ?_))
 go_wp2
 exact bodyPost_ret (v := .tuple #[.agg #[.int .i64 rn, .int .i64 rd], .int .i64 re]) (by simp [results, Tryz.results201, go_sem, co0, co1]) rfl ⟨rfl, by repeat (first | with_reducible (first | exact zq1 _ | assumption | refine zq2 ?_ | refine zq4 ?_ ?_ _ | refine zq5 ?_ _ | refine zq6 ?_ _ | refine zq7 ?_ | refine zq8 ?_ (by assumption)) | (simp only [zq10]; omega) | (simp; done) | (simp; omega))⟩
set_option maxHeartbeats 1600000 in
theorem apply_times (a b : Q2) (v : Value) (w : World) (hA : Valid a.1 a.2) (hB : Valid b.1 b.2) (hN : IsRats w v [a, b]) :
  Calls Tryz.prog 201 #[.int .i64 6, v] w fun e w' => e = .returned (.tuple #[.agg #[.int .i64 (outN (applyV 6 [a, b])), .int .i64 (outD (applyV 6 [a, b]))], .int .i64 (applyV 6 [a, b]).1]) ∧ Later w w' := by
 have HC := Lib.hid (fun W => Mul_good a.1 a.2 b.1 b.2 W hA hB)
 have hmf : ∀ (fn : Fn) (first cap : Array Value) (w : World), (Instr.makeFunc fn first cap).run Tryz.prog w = .ok (.func fn first cap) w := fun _ _ _ _ => rfl
 obtain ⟨b0, o, cp, rfl, hb, gg⟩ := hN.full (i := 0) (by simp)
 obtain ⟨_, _, _, hv, _, gg1⟩ := hN.full (i := 1) (by simp)
 cases hv
 have g0 := gg 0 (by omega)
 have g1 := gg 1 (by omega)
 have g2 := gg1 0 (by omega)
 have g3 := gg1 1 (by omega)
 have hap : applyV 6 [a, b] = fitQ (a.1 * b.1) (a.2 * b.2) := rfl
 rw [hap, (fitQ_out _ _).1, (fitQ_out _ _).2, show (fitQ (a.1 * b.1) (a.2 * b.2)).1 = rE (a.1 * b.1) (a.2 * b.2) from rfl]
 obtain ⟨rn, hrn⟩ : ∃ r, rN (a.1 * b.1) (a.2 * b.2) = r := ⟨_, rfl⟩
 obtain ⟨rd, hrd⟩ : ∃ r, rD (a.1 * b.1) (a.2 * b.2) = r := ⟨_, rfl⟩
 obtain ⟨re, hre⟩ : ∃ r, rE (a.1 * b.1) (a.2 * b.2) = r := ⟨_, rfl⟩
 rw [hrn, hrd, hre] at HC ⊢
 clear hrn hrd hre hap
 obtain ⟨an, ad⟩ := a
 obtain ⟨bn, bd⟩ := b
 simp only [ratCell, List.getElem_cons_zero, List.getElem_cons_succ, Nat.zero_mul, Nat.one_mul, Nat.add_zero, List.length_cons, List.length_nil, Nat.reduceAdd] at g0 g1 g2 g3 HC ⊢
 clear hN gg gg1 hA hB
 go_enter Tryz.func201, Tryz.ntmps201
 go_wp2
 refine wp_opaque (fun w0 hb0 => ?_)
 have hO := Own.two hb0
 obtain ⟨⟨zb, cb, -⟩, ⟨zr, cr, fr⟩, -⟩ := hO
 have hl0 : Later w w0 := hb0.un1.un1
 have hcb := cb 0
 have hcr0 := cr 0
 have hcr1 := cr 1
 have hfr0 := fr 0 (by simp)
 have hfr1 := fr 1 (by simp)
 simp only [List.getElem?_toArray, List.getElem?_cons_zero, List.getElem?_cons_succ] at hcb hcr0 hcr1
 have i0 := ((bcell hl0).1 _ _ hb).trans g0
 have i1 := ((bcell hl0).1 _ _ hb).trans g1
 have i2 := ((bcell hl0).1 _ _ hb).trans g2
 have i3 := ((bcell hl0).1 _ _ hb).trans g3
 clear cb cr fr hb0 g0 g1 g2 g3
 refine wp_region_plan 9 (.one [0, 1, 2, 3, 4, 5] 6 (.one [7, 8] 9 (.done [10]))) (by kernel_rfl) (by kernel_rfl) (fun _ _ d _ _ h => by cases d <;> exact h) ?_
 repeat' (first
  | ((first | refine plan_done (fun K hK => ?_) | refine plan_one (by rfl) (fun K hK => ?_)); (first | (simp only [zq9]; repeat (go_big_quiet_step (fail))) | simp only [pick_nil]); refine wpQuiet_nil (hK _ ?_); clear hK K)
  | ((with_reducible refine at_list ?_); go_wp2_with ((go_at_call 136; go_must (refine (HC.out _).mono ?_; rintro e w1 ⟨rfl, hb1⟩; replace hb1 := Later.undrew hb1; have co0 := ((bcell hb1).1 _ _ zr).trans hcr0; have co1 := ((bcell hb1).1 _ _ zr).trans hcr1; have fo0 := ((bcell hb1).2 _ _ zr).trans hfr0; have fo1 := ((bcell hb1).2 _ _ zr).trans hfr1; have hz1 := Later.size hb1))); first | refine behind_store (t := 9) (by decide) ?_ | refine behind (by with_reducible repeat (first | exact zq1 _ | assumption | refine zq2 ?_ | refine zq5 ?_ _ | refine zq6 ?_ _ | refine zq7 ?_ | refine zq8 ?_ (by assumption))) ?_))
 go_wp2
 exact bodyPost_ret (v := .tuple #[.agg #[.int .i64 rn, .int .i64 rd], .int .i64 re]) (by simp [results, Tryz.results201, go_sem, co0, co1]) rfl ⟨rfl, by repeat (first | with_reducible (first | exact zq1 _ | assumption | refine zq2 ?_ | refine zq4 ?_ ?_ _ | refine zq5 ?_ _ | refine zq6 ?_ _ | refine zq7 ?_ | refine zq8 ?_ (by assumption)) | (simp only [zq10]; omega) | (simp; done) | (simp; omega))⟩
set_option maxHeartbeats 1600000 in
theorem apply_least (a b : Q2) (v : Value) (w : World) (hA : Valid a.1 a.2) (hB : Valid b.1 b.2) (hN : IsRats w v [a, b]) :
  Calls Tryz.prog 201 #[.int .i64 7, v] w fun e w' => e = .returned (.tuple #[.agg #[.int .i64 (outN (applyV 7 [a, b])), .int .i64 (outD (applyV 7 [a, b]))], .int .i64 (applyV 7 [a, b]).1]) ∧ Later w w' := by
 have hmf : ∀ (fn : Fn) (first cap : Array Value) (w : World), (Instr.makeFunc fn first cap).run Tryz.prog w = .ok (.func fn first cap) w := fun _ _ _ _ => rfl
 have hap : applyV 7 [a, b] = (0, some (pickQ 1 a b)) := by rw [pickQ_least]; rfl
 have HC := Lib.hid (fun W (hl : Later w W) B hc => pick_any a b 1 (by decide) v B W hA hB (hN.later hl) hc)
 obtain ⟨p, cp, rfl⟩ := hN.form
 rw [hap]
 show Calls _ _ _ _ fun e w' => e = .returned (.tuple #[.agg #[.int .i64 (pickQ 1 a b).1, .int .i64 (pickQ 1 a b).2], .int .i64 0]) ∧ Later w w'
 obtain ⟨q, hq⟩ : ∃ q, pickQ 1 a b = q := ⟨_, rfl⟩
 rw [hq] at HC ⊢
 obtain ⟨qn, qd⟩ := q
 simp only [List.length_cons, List.length_nil, Nat.reduceAdd] at HC ⊢
 have hO := Lib.hid (Own.two (Later.refl ((w.alloc (.cells #[.slice p 2 cp] 225)).alloc (.cells #[.int .i64 0, .int .i64 0] 53))))
 have hcB := hO.out.1.2.1 0
 simp only [List.getElem?_toArray, List.getElem?_cons_zero] at hcB
 have HCB := Lib.hid hcB
 clear hN hA hB hap hq hcB
 go_enter Tryz.func201, Tryz.ntmps201
 go_wp2_with (go_at_call 208; go_must (refine (HC.out _ (by repeat (first | with_reducible (first | exact zq1 _ | assumption | refine zq2 ?_ | refine zq4 ?_ ?_ _ | refine zq5 ?_ _ | refine zq6 ?_ _ | refine zq7 ?_ | refine zq8 ?_ (by assumption)) | (simp only [zq10]; omega) | (simp; done) | (simp; omega))) _ HCB.out).mono ?_; rintro e w1 ⟨rfl, hb1⟩; obtain ⟨-, ⟨zo, co, fo⟩, -⟩ := Own.two hb1; have co0 := co 0; have co1 := co 1; have fo0 := fo 0 (by simp); have fo1 := fo 1 (by simp); simp only [List.getElem?_toArray, List.getElem?_cons_zero, List.getElem?_cons_succ] at co0 co1; have hl1 : Later w w1 := hb1.un1.un1; clear co fo))
 exact bodyPost_ret (v := .tuple #[.agg #[.int .i64 qn, .int .i64 qd], .int .i64 0]) (by simp [results, Tryz.results201, go_sem, co0, co1]) rfl ⟨rfl, by repeat (first | with_reducible (first | exact zq1 _ | assumption | refine zq2 ?_ | refine zq4 ?_ ?_ _ | refine zq5 ?_ _ | refine zq6 ?_ _ | refine zq7 ?_ | refine zq8 ?_ (by assumption)) | (simp only [zq10]; omega) | (simp; done) | (simp; omega))⟩
set_option maxHeartbeats 1600000 in
theorem apply_most (a b : Q2) (v : Value) (w : World) (hA : Valid a.1 a.2) (hB : Valid b.1 b.2) (hN : IsRats w v [a, b]) :
  Calls Tryz.prog 201 #[.int .i64 8, v] w fun e w' => e = .returned (.tuple #[.agg #[.int .i64 (outN (applyV 8 [a, b])), .int .i64 (outD (applyV 8 [a, b]))], .int .i64 (applyV 8 [a, b]).1]) ∧ Later w w' := by
 have hmf : ∀ (fn : Fn) (first cap : Array Value) (w : World), (Instr.makeFunc fn first cap).run Tryz.prog w = .ok (.func fn first cap) w := fun _ _ _ _ => rfl
 have hap : applyV 8 [a, b] = (0, some (pickQ (-1) a b)) := by rw [pickQ_most]; rfl
 have HC := Lib.hid (fun W (hl : Later w W) B hc => pick_any a b (-1) (by decide) v B W hA hB (hN.later hl) hc)
 obtain ⟨p, cp, rfl⟩ := hN.form
 rw [hap]
 show Calls _ _ _ _ fun e w' => e = .returned (.tuple #[.agg #[.int .i64 (pickQ (-1) a b).1, .int .i64 (pickQ (-1) a b).2], .int .i64 0]) ∧ Later w w'
 obtain ⟨q, hq⟩ : ∃ q, pickQ (-1) a b = q := ⟨_, rfl⟩
 rw [hq] at HC ⊢
 obtain ⟨qn, qd⟩ := q
 simp only [List.length_cons, List.length_nil, Nat.reduceAdd] at HC ⊢
 have hO := Lib.hid (Own.two (Later.refl ((w.alloc (.cells #[.slice p 2 cp] 225)).alloc (.cells #[.int .i64 0, .int .i64 0] 53))))
 have hcB := hO.out.1.2.1 0
 simp only [List.getElem?_toArray, List.getElem?_cons_zero] at hcB
 have HCB := Lib.hid hcB
 clear hN hA hB hap hq hcB
 go_enter Tryz.func201, Tryz.ntmps201
 go_wp2_with (go_at_call 208; go_must (refine (HC.out _ (by repeat (first | with_reducible (first | exact zq1 _ | assumption | refine zq2 ?_ | refine zq4 ?_ ?_ _ | refine zq5 ?_ _ | refine zq6 ?_ _ | refine zq7 ?_ | refine zq8 ?_ (by assumption)) | (simp only [zq10]; omega) | (simp; done) | (simp; omega))) _ HCB.out).mono ?_; rintro e w1 ⟨rfl, hb1⟩; obtain ⟨-, ⟨zo, co, fo⟩, -⟩ := Own.two hb1; have co0 := co 0; have co1 := co 1; have fo0 := fo 0 (by simp); have fo1 := fo 1 (by simp); simp only [List.getElem?_toArray, List.getElem?_cons_zero, List.getElem?_cons_succ] at co0 co1; have hl1 : Later w w1 := hb1.un1.un1; clear co fo))
 exact bodyPost_ret (v := .tuple #[.agg #[.int .i64 qn, .int .i64 qd], .int .i64 0]) (by simp [results, Tryz.results201, go_sem, co0, co1]) rfl ⟨rfl, by repeat (first | with_reducible (first | exact zq1 _ | assumption | refine zq2 ?_ | refine zq4 ?_ ?_ _ | refine zq5 ?_ _ | refine zq6 ?_ _ | refine zq7 ?_ | refine zq8 ?_ (by assumption)) | (simp only [zq10]; omega) | (simp; done) | (simp; omega))⟩
theorem apply_any (op : Int) (vs : List Q2) (v : Value) (w : World) (h1 : 3 ≤ op) (h2 : op ≤ 8) (hm : vs.length = manyN op) (hV : ∀ x ∈ vs, Valid x.1 x.2) (hN : IsRats w v vs) :
  Calls Tryz.prog 201 #[.int .i64 op, v] w fun e w' => e = .returned (.tuple #[.agg #[.int .i64 (outN (applyV op vs)), .int .i64 (outD (applyV op vs))], .int .i64 (applyV op vs).1]) ∧ Later w w' := by
 have hop : op = 3 ∨ op = 4 ∨ op = 5 ∨ op = 6 ∨ op = 7 ∨ op = 8 := by omega
 have two : ∀ (vs : List Q2), vs.length = 2 → ∃ a b, vs = [a, b] := fun vs h => by
  match vs, h with
  | [a, b], _ => exact ⟨a, b, rfl⟩
 rcases hop with rfl | rfl | rfl | rfl | rfl | rfl
 ·have h : vs.length = 1 := hm
  match vs, h, hV, hN with
  | [a], _, hV, hN => exact apply_one a v w (hV a (by simp)) hN
 ·obtain ⟨a, b, rfl⟩ := two vs hm
  exact apply_plus a b v w (hV a (by simp)) (hV b (by simp)) hN
 ·obtain ⟨a, b, rfl⟩ := two vs hm
  exact apply_minus a b v w (hV a (by simp)) (hV b (by simp)) hN
 ·obtain ⟨a, b, rfl⟩ := two vs hm
  exact apply_times a b v w (hV a (by simp)) (hV b (by simp)) hN
 ·obtain ⟨a, b, rfl⟩ := two vs hm
  exact apply_least a b v w (hV a (by simp)) (hV b (by simp)) hN
 ·obtain ⟨a, b, rfl⟩ := two vs hm
  exact apply_most a b v w (hV a (by simp)) (hV b (by simp)) hN
def nodeV (get : Int → Option Q2) (x : Nd) (rs : List (Int × Option Q2)) : Int × Option Q2 :=
 if x.op = 1 then (0, some (x.n, x.d)) else if x.op = 2 then (0, get x.a) else
  match rs.find? (fun r => decide (r.1 ≠ 0)) with
  | some r => (r.1, none)
  | none => if rs.all (fun r => r.2.isSome) = true then applyV x.op (rs.map (fun r => (outN r, outD r))) else (0, none)
def valT (get : Int → Option Q2) : Tm → Int × Option Q2
 | .node x l => nodeV get x (valTs l)
where valTs : List Tm → List (Int × Option Q2)
 | [] => []
 | t :: r => valT get t :: valTs r
theorem valTs_eq (get : Int → Option Q2) (l : List Tm) : valT.valTs get l = l.map (valT get) := by
 induction l with
 | nil => rfl
 | cons t r ih => simp [valT.valTs, ih]
theorem valT_node (get : Int → Option Q2) (x : Nd) (l : List Tm) : valT get (.node x l) = nodeV get x (l.map (valT get)) := by
 unfold valT; rw [valTs_eq]
theorem find_first {rs : List (Int × Option Q2)} {i : Nat} (hi : i < rs.length) (h0 : ∀ q (hq : q < rs.length), q < i → (rs[q]).1 = 0) (h1 : (rs[i]).1 ≠ 0) : rs.find? (fun r => decide (r.1 ≠ 0)) = some rs[i] := by
 induction rs generalizing i with
 | nil => simp at hi
 | cons r t ih =>
  cases i with
  | zero =>
   have h2 : r.1 ≠ 0 := h1
   rw [List.find?_cons]
   simp [h2]
  | succ i =>
   have h2 : r.1 = 0 := h0 0 (by simp) (by omega)
   rw [List.find?_cons]
   simp only [h2, ne_eq, not_true_eq_false, decide_false]
   exact ih (by simpa using hi) (fun q hq hlt => h0 (q + 1) (by simpa using hq) (by omega)) h1
theorem find_none {rs : List (Int × Option Q2)} (h0 : ∀ r ∈ rs, r.1 = 0) : rs.find? (fun r => decide (r.1 ≠ 0)) = none := by
 rw [List.find?_eq_none]; intro r hr; simp [h0 r hr]
theorem nodeV_err {get : Int → Option Q2} {x : Nd} {rs : List (Int × Option Q2)} (h1 : x.op ≠ 1) (h2 : x.op ≠ 2) {r : Int × Option Q2} (h : rs.find? (fun r => decide (r.1 ≠ 0)) = some r) : nodeV get x rs = (r.1, none) := by
 unfold nodeV; rw [if_neg h1, if_neg h2, h]
theorem nodeV_none {get : Int → Option Q2} {x : Nd} {rs : List (Int × Option Q2)} (h1 : x.op ≠ 1) (h2 : x.op ≠ 2) (h : ∀ r ∈ rs, r.1 = 0) (hk : rs.all (fun r => r.2.isSome) = false) : nodeV get x rs = (0, none) := by
 unfold nodeV; rw [if_neg h1, if_neg h2, find_none h]; simp [hk]
theorem nodeV_some {get : Int → Option Q2} {x : Nd} {rs : List (Int × Option Q2)} (h1 : x.op ≠ 1) (h2 : x.op ≠ 2) (h : ∀ r ∈ rs, r.1 = 0) (hk : rs.all (fun r => r.2.isSome) = true) : nodeV get x rs = applyV x.op (rs.map (fun r => (outN r, outD r))) := by
 unfold nodeV; rw [if_neg h1, if_neg h2, find_none h]; simp only; rw [if_pos hk]
def NumT : Tm → Prop
 | .node x l => 1 ≤ x.op ∧ x.op ≤ 8 ∧ l.length = manyN x.op ∧ fieldsB x = true ∧ x.ok ∧ NumTs l
where NumTs : List Tm → Prop
 | [] => True
 | t :: r => NumT t ∧ NumTs r
theorem NumTs_iff (l : List Tm) : NumT.NumTs l ↔ ∀ t ∈ l, NumT t := by
 induction l with
 | nil => simp [NumT.NumTs]
 | cons t r ih => simp [NumT.NumTs, ih]
theorem makes_one {op : Int} (h : makesI op = 1) : 1 ≤ op ∧ op ≤ 8 := by
 unfold makesI at h
 split at h
 ·cases h
 ·split at h
  ·omega
  ·cases h
theorem numT_of {ts : List Nd} (hf : ∀ x ∈ ts, fieldsB x = true) (hok : ∀ x ∈ ts, x.ok) : ∀ {T : Tm} {k : Nat}, TmAt ts k T → T.sorted = true → makesI T.root.op = 1 → NumT T := by
 intro T
 induction T using Tm.ind with
 | h x l ih =>
  intro k h hs hm
  obtain ⟨h1, h2, h3, h4⟩ := h.root
  obtain ⟨o1, o2⟩ := makes_one hm
  have hx : x ∈ ts := List.mem_of_getElem? h1
  unfold Tm.sorted at hs
  simp only [Bool.and_eq_true] at hs
  obtain ⟨s1, s2⟩ := hs
  unfold Tm.top at s1
  simp only [decide_eq_true_eq] at s1
  have s2' := (Tm.sorteds_iff l).1 s2
  refine ⟨o1, o2, h4, hf x hx, hok x hx, (NumTs_iff l).2 fun t ht => ?_⟩
  obtain ⟨j, hj, rfl⟩ := List.getElem_of_mem ht
  refine ih l[j] (List.getElem_mem _) (placeN_at h hj) (s2' _ (List.getElem_mem _)) ?_
  rw [s1 j hj]
  unfold belI
  have hx8 : x.op ≤ 8 := o2
  rw [if_neg (by omega), if_pos hx8]
def GetOk (get : Int → Option Q2) : Prop := ∀ k v, get k = some v → Valid v.1 v.2
theorem valid_of_fields {x : Nd} (h : fieldsB x = true) (hx : x.ok) (h1 : x.op = 1) : Valid x.n x.d := by
 unfold fieldsB at h
 rw [if_pos h1] at h
 simp only [Bool.and_eq_true, beq_iff_eq] at h
 exact (chk_valid hx.2.2.2.1.1 hx.2.2.2.1.2 hx.2.2.2.2.2).1 h.2
theorem out_some {r : Int × Option Q2} {v : Q2} (h : r.2 = some v) : (outN r, outD r) = v := by unfold outN outD; rw [h]
theorem valT_valid {get : Int → Option Q2} (hg : GetOk get) : ∀ {T : Tm}, NumT T → ∀ v, (valT get T).2 = some v → Valid v.1 v.2 := by
 intro T
 induction T using Tm.ind with
 | h x l ih =>
  intro hT v hv
  obtain ⟨o1, o2, hl, hf, hx, hk⟩ := hT
  rw [valT_node] at hv
  unfold nodeV at hv
  split at hv
  ·rename_i h1; cases hv; exact valid_of_fields hf hx h1
  ·split at hv
   ·exact hg _ _ hv
   ·split at hv
    ·cases hv
    ·split at hv
     ·rename_i hall
      refine applyV_valid ?_ hv
      intro q hq
      obtain ⟨r, hr, rfl⟩ := List.mem_map.1 hq
      obtain ⟨t, ht, rfl⟩ := List.mem_map.1 hr
      have := (List.all_eq_true.1 hall) _ hr
      obtain ⟨u, hu⟩ := Option.isSome_iff_exists.1 this
      rw [out_some hu]
      exact ih t ht ((NumTs_iff l).1 hk t ht) u hu
     ·cases hv
def valR (r : Int × Option Q2) : Value := .agg #[.bool r.2.isSome, .int .i64 (outN r), .int .i64 (outD r)]
def ratCs (x : Q2) : List Value := [.int .i64 x.1, .int .i64 x.2]
theorem ratCs_len (x : Q2) : (ratCs x).length = 2 := rfl
theorem ratCs_get (x : Q2) (j : Nat) (hj : j < 2) : (ratCs x)[j]? = some (ratCell x j) := by
 rcases j with _ | _ | j
 ·rfl
 ·rfl
 ·omega
theorem ratInfo : (Tryz.prog.info? 53).map (fun i => (i.zero, i.size, i.bytes)) = some (some (.agg #[.int .i64 0, .int .i64 0]), 2, 16) := by kernel_rfl
theorem sliceRat : SliceOf Tryz.prog 225 53 2 16 := sliceOf_mk Tryz.underlying225 ratInfo rfl (by decide)
def getF (fx : FxL) (day k : Int) : Option Q2 := getA fx (k, day)
theorem gotF_eq (fx : FxL) (k day : Int) : (gotF fx k day).1 = outN (0, getF fx day k) ∧ (gotF fx k day).2.1 = outD (0, getF fx day k) ∧ (gotF fx k day).2.2 = (getF fx day k).isSome := by
 unfold gotF getF outN outD
 cases getA fx (k, day) <;> exact ⟨rfl, rfl, rfl⟩
def AtEnd (w : World) (k : Nat) (T : Tm) (r : Int × Option Q2) (e : Ending) (w' : World) : Prop :=
 (∃ nx : Int, e = .returned (.tuple #[valR r, .int .i64 nx, .int .i64 r.1]) ∧ (r.1 = 0 → nx = ((k + T.size : Nat) : Int))) ∧ Later w w'
set_option maxHeartbeats 1600000 in
theorem at_number (ts : List Nd) (k : Nat) (x : Nd) (l : List Tm) (get : Int → Option Q2) (v : Value) (p : Nat) (day : Int) (w : World) (hlen : ts.length ≤ 100000) (hT : TmAt ts k (.node x l)) (hm : l.length = manyN x.op) (hN : IsNodes w v ts) (h1 : x.op = 1) :
  Calls Tryz.prog 188 #[.agg #[v, .pointer (some ⟨p, 0, none⟩), .int .i64 day], .int .i64 k] w (AtEnd w k (.node x l) (valT get (.node x l))) := by
 have hv : valT get (.node x l) = (0, some (x.n, x.d)) := by rw [valT_node]; unfold nodeV; rw [if_pos h1]
 have hk : k < ts.length := by have := hT.le; have := (Tm.node x l).size_pos; omega
 have hsz : (Tm.node x l).size = 1 := by
  rw [h1] at hm
  have : l = [] := List.eq_nil_of_length_eq_zero hm
  subst this; rfl
 obtain ⟨b, o, cp, rfl, hb, hcap, g0, g1, g2, g3, g4⟩ := hN.full hk
 have hx0 : ts[k] = x := by have := hT.root.1; rw [List.getElem?_eq_getElem hk] at this; exact Option.some.inj this
 rw [hx0] at g0 g1 g2 g3 g4
 rw [hv]
 obtain ⟨op, a, b', n, d⟩ := x
 simp only at g0 g1 g2 g3 g4 h1
 subst h1
 refine Calls.mono (R := fun e w' => e = .returned (.tuple #[.agg #[.bool true, .int .i64 n, .int .i64 d], .int .i64 ((k : Int) + 1), .int .i64 0]) ∧ Later w w') ?_ (fun e w' h => ⟨⟨_, h.1, fun _ => by rw [hsz]; omega⟩, h.2⟩)
 clear hN hT hm hsz hx0 hv
 go_enter Tryz.func188, Tryz.ntmps188
 go_wp2
 go_step3
 go_wp2
 rw [Exit.noGoto_ret]
 exact bodyPost_ret (v := .tuple #[.agg #[.bool true, .int .i64 n, .int .i64 d], .int .i64 ((k : Int) + 1), .int .i64 0]) (by simp [results, Tryz.results188, go_sem]) rfl ⟨rfl, by repeat (first | with_reducible (first | exact zq1 _ | assumption | refine zq2 ?_ | refine zq4 ?_ ?_ _ | refine zq5 ?_ _ | refine zq6 ?_ _ | refine zq7 ?_ | refine zq8 ?_ (by assumption)) | (simp only [zq10]; omega) | (simp; done) | (simp; omega))⟩
set_option maxHeartbeats 1600000 in
theorem at_fixing (ts : List Nd) (k : Nat) (x : Nd) (l : List Tm) (fx : FxL) (ch : ChL) (v : Value) (p m1 m2 : Nat) (day : Int) (w : World) (hlen : ts.length ≤ 100000) (hT : TmAt ts k (.node x l)) (hm : l.length = manyN x.op) (hN : IsNodes w v ts) (hF : FactsAt w p m1 m2 fx ch) (hx : x.ok) (hd : I64 day) (h1 : x.op = 2) :
  Calls Tryz.prog 188 #[.agg #[v, .pointer (some ⟨p, 0, none⟩), .int .i64 day], .int .i64 k] w (AtEnd w k (.node x l) (valT (getF fx day) (.node x l))) := by
 have hv : valT (getF fx day) (.node x l) = (0, getF fx day x.a) := by rw [valT_node]; unfold nodeV; rw [if_neg (by omega), if_pos h1]
 have hk : k < ts.length := by have := hT.le; have := (Tm.node x l).size_pos; omega
 have hsz : (Tm.node x l).size = 1 := by
  rw [h1] at hm
  have : l = [] := List.eq_nil_of_length_eq_zero hm
  subst this; rfl
 have HC := Lib.hid (fun W (hl : Later w W) => fixing_any p m1 m2 fx ch x.a day W (hF.later hl) hx.2.1 hd)
 obtain ⟨q1, q2, q3⟩ := gotF_eq fx x.a day
 obtain ⟨b, o, cp, rfl, hb, hcap, g0, g1, g2, g3, g4⟩ := hN.full hk
 have hx0 : ts[k] = x := by have := hT.root.1; rw [List.getElem?_eq_getElem hk] at this; exact Option.some.inj this
 rw [hx0] at g0 g1 g2 g3 g4
 rw [hv]
 have hr : valR (0, getF fx day x.a) = .agg #[.bool (gotF fx x.a day).2.2, .int .i64 (gotF fx x.a day).1, .int .i64 (gotF fx x.a day).2.1] := by unfold valR; rw [q1, q2, q3]
 generalize gotF fx x.a day = gg at *
 obtain ⟨gn, gd, gi⟩ := gg
 obtain ⟨op, a, b', n, d⟩ := x
 simp only at g0 g1 g2 g3 g4 h1 HC hr
 subst h1
 refine Calls.mono (R := fun e w' => e = .returned (.tuple #[.agg #[.bool gi, .int .i64 gn, .int .i64 gd], .int .i64 ((k : Int) + 1), .int .i64 0]) ∧ Later w w') ?_ (fun e w' h => ⟨⟨_, h.1.trans (by rw [← hr]), fun _ => by rw [hsz]; omega⟩, h.2⟩)
 have hO := Lib.hid (Own.three (Later.refl (((w.alloc (.cells #[.slice (some ⟨b, o, none⟩) ts.length cp, .pointer (some ⟨p, 0, none⟩), .int .i64 day] 287)).alloc (.cells #[.bool false, .int .i64 0, .int .i64 0] 260)).alloc (.cells #[.int .i64 2, .int .i64 a, .int .i64 b', .int .i64 n, .int .i64 d] 61))))
 clear hN hT hm hsz hx0 hv hF hx hd q1 q2 q3 hr
 go_enter Tryz.func188, Tryz.ntmps188
 go_wp2
 go_step3
 go_wp2_with (go_at_call 24; go_must (refine (HC.out _ (by repeat (first | with_reducible (first | exact zq1 _ | assumption | refine zq2 ?_ | refine zq4 ?_ ?_ _ | refine zq5 ?_ _ | refine zq6 ?_ _ | refine zq7 ?_ | refine zq8 ?_ (by assumption)) | (simp only [zq10]; omega) | (simp; done) | (simp; omega)))).mono ?_; rintro e w1 ⟨rfl, hb1⟩; have hl1 : Later w w1 := hb1.un1.un1.un1; obtain ⟨⟨zs, -, -⟩, ⟨zr, cr, fr⟩, -⟩ := hO.out.later hb1; have hcr0 := cr 0; have hcr1 := cr 1; have hcr2 := cr 2; have hfr0 := fr 0 (by simp); have hfr1 := fr 1 (by simp); have hfr2 := fr 2 (by simp); simp only [List.getElem?_toArray, List.getElem?_cons_zero, List.getElem?_cons_succ] at hcr0 hcr1 hcr2; clear cr fr))
 rw [Exit.noGoto_ret]
 exact bodyPost_ret (v := .tuple #[.agg #[.bool gi, .int .i64 gn, .int .i64 gd], .int .i64 ((k : Int) + 1), .int .i64 0]) (by simp [results, Tryz.results188, go_sem, zr, hcr0, hcr1, hcr2]) rfl ⟨rfl, by repeat (first | with_reducible (first | exact zq1 _ | assumption | refine zq2 ?_ | refine zq4 ?_ ?_ _ | refine zq5 ?_ _ | refine zq6 ?_ _ | refine zq7 ?_ | refine zq8 ?_ (by assumption)) | (simp only [zq10]; omega) | (simp; done) | (simp; omega))⟩
end Go.Proofs.YtkjabiabeemfhaaGreatDoor
end
