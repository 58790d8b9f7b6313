/- term.Kids; fields of nodes -/
import Derived.Test.YtkjabiabeemfhaaGreatDoorQ8
import Derived.Deep.DeepCutAuto
import Derived.Test.YtkjabiabeemfhaaGreatDoorQ4
import Derived.Test.YtkjabiabeemfhaaGreatDoorQ3
set_option linter.all false
set_option linter.all false
section
/- the exported functions of ratio, by their walks -/
namespace Go.Proofs.YtkjabiabeemfhaaGreatDoor
open Go.RowKit
set_option maxRecDepth 100000

theorem first_zero {an ad bn bd : Int} (an1 : -9223372036854775808 ≤ an) (an2 : an ≤ 9223372036854775807) (ad2 : ad ≤ 9223372036854775807)
    (bn1 : -9223372036854775808 ≤ bn) (bn2 : bn ≤ 9223372036854775807) (bd2 : bd ≤ 9223372036854775807) : firstE an ad bn bd = 0 ↔ Valid an ad ∧ Valid bn bd := by
  rw [← chk_valid an1 an2 ad2, ← chk_valid bn1 bn2 bd2]
  unfold firstE
  constructor
  · intro h
    by_cases ha : chkE an ad = 0
    · rw [if_neg (by simpa using ha)] at h; exact ⟨ha, h⟩
    · rw [if_pos ha] at h; exact absurd h ha
  · rintro ⟨h1, h2⟩
    rw [if_neg (by simpa using h1)]; exact h2

theorem valid_neg {n d : Int} (h : Valid n d) : Valid (-n) d := ⟨h.d0, h.d1, by have := h.n1; omega, by have := h.n0; omega, by rw [Int.natAbs_neg]; exact h.co⟩
set_option maxHeartbeats 1000000 in
theorem sub1_any (an ad bn bd : Int) (w : World) (hA : Valid an ad) (hB : Valid bn bd) :
    Calls Tryz.prog 214 #[.agg #[.int .i64 an, .int .i64 ad], .agg #[.int .i64 bn, .int .i64 bd]] w fun e' w' =>
      e' = .returned (.tuple #[.agg #[.int .i64 (rN (an * bd + -bn * ad) (ad * bd)), .int .i64 (rD (an * bd + -bn * ad) (ad * bd))], .int .i64 (rE (an * bd + -bn * ad) (ad * bd))]) ∧ Later w w' := by
  have bn0 := hB.n0; have bn1 := hB.n1
  have HA := fun w => add_any an ad (-bn) bd w hA (valid_neg hB)
  generalize rN (an * bd + -bn * ad) (ad * bd) = N at *
  generalize rD (an * bd + -bn * ad) (ad * bd) = D at *
  generalize rE (an * bd + -bn * ad) (ad * bd) = E at *
  have HH := Lib.hid HA
  clear HA
  go_enter Tryz.func214, Tryz.ntmps214
  go_wp2_with fail
  refine (HH.out _).mono ?_
  rintro e w1 ⟨rfl, hb1⟩
  obtain ⟨c0, f0, c1, f1, c2, f2, z1⟩ := own3 hb1
  go_wp2_with fail
  exact bodyPost_ret (v := .tuple #[.agg #[.int .i64 N, .int .i64 D], .int .i64 E]) (by simp [results, Tryz.results214, go_sem, c2]) rfl ⟨rfl, by repeat (first | with_reducible exact Later.refl _ | with_reducible assumption | with_reducible refine Later.ofdrew ?_ | with_reducible refine Later.ofdrewN ?_ | with_reducible refine Later.setCell ?_ ?_ _ | with_reducible refine Later.alloc ?_ _ | with_reducible refine Later.drewN ?_ _ | with_reducible refine Later.drew ?_ | (with_reducible refine Later.trans ?_ (by assumption)) | (simp only [World.size_setCell, World.size_alloc, World.heap_drewN]; omega) | (simp; done) | (simp; omega))⟩

set_option maxHeartbeats 1000000 in
theorem Add_walk (an ad bn bd N D E : Int) (w : World) (HH : Hid (∀ w, Calls Tryz.prog 173 #[.agg #[.int .i64 an, .int .i64 ad], .agg #[.int .i64 bn, .int .i64 bd], .func (.func 213) #[] #[]] w fun e' w' => e' = .returned (.tuple #[.agg #[.int .i64 N, .int .i64 D], .int .i64 E]) ∧ Later w w')) :
    Calls Tryz.prog 209 #[.agg #[.int .i64 an, .int .i64 ad], .agg #[.int .i64 bn, .int .i64 bd]] w fun e' w' => e' = .returned (.tuple #[.agg #[.int .i64 N, .int .i64 D], .int .i64 E]) ∧ Later w w' := by
  go_enter Tryz.func209, Tryz.ntmps209
  go_wp2_with fail
  refine (HH.out _).mono ?_
  rintro e w1 ⟨rfl, hb1⟩
  obtain ⟨c0, f0, c1, f1, c2, f2, z1⟩ := own3 hb1
  go_wp2_with fail
  exact bodyPost_ret (v := .tuple #[.agg #[.int .i64 N, .int .i64 D], .int .i64 E]) (by simp [results, Tryz.results209, go_sem, c2]) rfl ⟨rfl, by repeat (first | with_reducible exact Later.refl _ | with_reducible assumption | with_reducible refine Later.ofdrew ?_ | with_reducible refine Later.ofdrewN ?_ | with_reducible refine Later.setCell ?_ ?_ _ | with_reducible refine Later.alloc ?_ _ | with_reducible refine Later.drewN ?_ _ | with_reducible refine Later.drew ?_ | (with_reducible refine Later.trans ?_ (by assumption)) | (simp only [World.size_setCell, World.size_alloc, World.heap_drewN]; omega) | (simp; done) | (simp; omega))⟩

theorem Add_good (an ad bn bd : Int) (w : World) (hA : Valid an ad) (hB : Valid bn bd) :
    Calls Tryz.prog 209 #[.agg #[.int .i64 an, .int .i64 ad], .agg #[.int .i64 bn, .int .i64 bd]] w fun e' w' =>
      e' = .returned (.tuple #[.agg #[.int .i64 (rN (an * bd + bn * ad) (ad * bd)), .int .i64 (rD (an * bd + bn * ad) (ad * bd))], .int .i64 (rE (an * bd + bn * ad) (ad * bd))]) ∧ Later w w' := by
  have ad0 := hA.d0; have ad1 := hA.d1; have an0 := hA.n0; have an1 := hA.n1
  have bd0 := hB.d0; have bd1 := hB.d1; have bn0 := hB.n0; have bn1 := hB.n1
  exact Add_walk an ad bn bd _ _ _ w (Lib.hid fun w => two_good_add an ad bn bd _ _ _ w (by omega) an1 (by omega) ad1 (by omega) bn1 (by omega) bd1
    (Lib.hid ((first_zero (by omega) an1 ad1 (by omega) bn1 bd1).2 ⟨hA, hB⟩)) (Lib.hid fun w => add_any an ad bn bd w hA hB))

set_option maxHeartbeats 1000000 in
theorem Mul_walk (an ad bn bd N D E : Int) (w : World) (HH : Hid (∀ w, Calls Tryz.prog 173 #[.agg #[.int .i64 an, .int .i64 ad], .agg #[.int .i64 bn, .int .i64 bd], .func (.func 174) #[] #[]] w fun e' w' => e' = .returned (.tuple #[.agg #[.int .i64 N, .int .i64 D], .int .i64 E]) ∧ Later w w')) :
    Calls Tryz.prog 136 #[.agg #[.int .i64 an, .int .i64 ad], .agg #[.int .i64 bn, .int .i64 bd]] w fun e' w' => e' = .returned (.tuple #[.agg #[.int .i64 N, .int .i64 D], .int .i64 E]) ∧ Later w w' := by
  go_enter Tryz.func136, Tryz.ntmps136
  go_wp2_with fail
  refine (HH.out _).mono ?_
  rintro e w1 ⟨rfl, hb1⟩
  obtain ⟨c0, f0, c1, f1, c2, f2, z1⟩ := own3 hb1
  go_wp2_with fail
  exact bodyPost_ret (v := .tuple #[.agg #[.int .i64 N, .int .i64 D], .int .i64 E]) (by simp [results, Tryz.results136, go_sem, c2]) rfl ⟨rfl, by repeat (first | with_reducible exact Later.refl _ | with_reducible assumption | with_reducible refine Later.ofdrew ?_ | with_reducible refine Later.ofdrewN ?_ | with_reducible refine Later.setCell ?_ ?_ _ | with_reducible refine Later.alloc ?_ _ | with_reducible refine Later.drewN ?_ _ | with_reducible refine Later.drew ?_ | (with_reducible refine Later.trans ?_ (by assumption)) | (simp only [World.size_setCell, World.size_alloc, World.heap_drewN]; omega) | (simp; done) | (simp; omega))⟩

theorem Mul_good (an ad bn bd : Int) (w : World) (hA : Valid an ad) (hB : Valid bn bd) :
    Calls Tryz.prog 136 #[.agg #[.int .i64 an, .int .i64 ad], .agg #[.int .i64 bn, .int .i64 bd]] w fun e' w' =>
      e' = .returned (.tuple #[.agg #[.int .i64 (rN (an * bn) (ad * bd)), .int .i64 (rD (an * bn) (ad * bd))], .int .i64 (rE (an * bn) (ad * bd))]) ∧ Later w w' := by
  have ad0 := hA.d0; have ad1 := hA.d1; have an0 := hA.n0; have an1 := hA.n1
  have bd0 := hB.d0; have bd1 := hB.d1; have bn0 := hB.n0; have bn1 := hB.n1
  exact Mul_walk an ad bn bd _ _ _ w (Lib.hid fun w => two_good_mul an ad bn bd _ _ _ w (by omega) an1 (by omega) ad1 (by omega) bn1 (by omega) bd1
    (Lib.hid ((first_zero (by omega) an1 ad1 (by omega) bn1 bd1).2 ⟨hA, hB⟩)) (Lib.hid fun w => mul_any an ad bn bd w hA hB))

set_option maxHeartbeats 1000000 in
theorem Sub_walk (an ad bn bd N D E : Int) (w : World) (HH : Hid (∀ w, Calls Tryz.prog 173 #[.agg #[.int .i64 an, .int .i64 ad], .agg #[.int .i64 bn, .int .i64 bd], .func (.func 214) #[] #[]] w fun e' w' => e' = .returned (.tuple #[.agg #[.int .i64 N, .int .i64 D], .int .i64 E]) ∧ Later w w')) :
    Calls Tryz.prog 210 #[.agg #[.int .i64 an, .int .i64 ad], .agg #[.int .i64 bn, .int .i64 bd]] w fun e' w' => e' = .returned (.tuple #[.agg #[.int .i64 N, .int .i64 D], .int .i64 E]) ∧ Later w w' := by
  go_enter Tryz.func210, Tryz.ntmps210
  go_wp2_with fail
  refine (HH.out _).mono ?_
  rintro e w1 ⟨rfl, hb1⟩
  obtain ⟨c0, f0, c1, f1, c2, f2, z1⟩ := own3 hb1
  go_wp2_with fail
  exact bodyPost_ret (v := .tuple #[.agg #[.int .i64 N, .int .i64 D], .int .i64 E]) (by simp [results, Tryz.results210, go_sem, c2]) rfl ⟨rfl, by repeat (first | with_reducible exact Later.refl _ | with_reducible assumption | with_reducible refine Later.ofdrew ?_ | with_reducible refine Later.ofdrewN ?_ | with_reducible refine Later.setCell ?_ ?_ _ | with_reducible refine Later.alloc ?_ _ | with_reducible refine Later.drewN ?_ _ | with_reducible refine Later.drew ?_ | (with_reducible refine Later.trans ?_ (by assumption)) | (simp only [World.size_setCell, World.size_alloc, World.heap_drewN]; omega) | (simp; done) | (simp; omega))⟩

theorem Sub_good (an ad bn bd : Int) (w : World) (hA : Valid an ad) (hB : Valid bn bd) :
    Calls Tryz.prog 210 #[.agg #[.int .i64 an, .int .i64 ad], .agg #[.int .i64 bn, .int .i64 bd]] w fun e' w' =>
      e' = .returned (.tuple #[.agg #[.int .i64 (rN (an * bd + -bn * ad) (ad * bd)), .int .i64 (rD (an * bd + -bn * ad) (ad * bd))], .int .i64 (rE (an * bd + -bn * ad) (ad * bd))]) ∧ Later w w' := by
  have ad0 := hA.d0; have ad1 := hA.d1; have an0 := hA.n0; have an1 := hA.n1
  have bd0 := hB.d0; have bd1 := hB.d1; have bn0 := hB.n0; have bn1 := hB.n1
  exact Sub_walk an ad bn bd _ _ _ w (Lib.hid fun w => two_good_sub an ad bn bd _ _ _ w (by omega) an1 (by omega) ad1 (by omega) bn1 (by omega) bd1
    (Lib.hid ((first_zero (by omega) an1 ad1 (by omega) bn1 bd1).2 ⟨hA, hB⟩)) (Lib.hid fun w => sub1_any an ad bn bd w hA hB))

end Go.Proofs.YtkjabiabeemfhaaGreatDoor
end
section
/- Of, Neg, Round, Compare, by their walks -/
namespace Go.Proofs.YtkjabiabeemfhaaGreatDoor
open Go.RowKit
set_option maxRecDepth 100000

set_option maxHeartbeats 1000000 in
theorem neg_bad (n d E : Int) (w : World) (n1 : -9223372036854775808 ≤ n) (n2 : n ≤ 9223372036854775807) (d1 : -9223372036854775808 ≤ d) (d2 : d ≤ 9223372036854775807) (HE : Hid (chkE n d = E)) (he : (E != 0) = true) :
    Calls Tryz.prog 134 #[.agg #[.int .i64 n, .int .i64 d]] w fun e w' => e = .returned (.tuple #[.agg #[.int .i64 0, .int .i64 0], .int .i64 E]) ∧ Later w w' := by
  go_enter Tryz.func134, Tryz.ntmps134
  go_wp2_with (go_at_call 112; refine (check_any _ _ _ n1 n2 d1 d2).mono ?_; rw [HE.out]; rintro e w1 ⟨rfl, hb1⟩; obtain ⟨c0, f0, c1, f1, z1⟩ := own2 hb1)
  exact bodyPost_ret (v := .tuple #[.agg #[.int .i64 0, .int .i64 0], .int .i64 E]) (by simp [results, Tryz.results134, go_sem, c1]) rfl ⟨rfl, by repeat (first | with_reducible exact Later.refl _ | with_reducible assumption | with_reducible refine Later.ofdrew ?_ | with_reducible refine Later.ofdrewN ?_ | with_reducible refine Later.setCell ?_ ?_ _ | with_reducible refine Later.alloc ?_ _ | with_reducible refine Later.drewN ?_ _ | with_reducible refine Later.drew ?_ | (with_reducible refine Later.trans ?_ (by assumption)) | (simp only [World.size_setCell, World.size_alloc, World.heap_drewN]; omega) | (simp; done) | (simp; omega))⟩

set_option maxHeartbeats 1000000 in
theorem neg_good (n d : Int) (w : World) (hV : Valid n d) :
    Calls Tryz.prog 134 #[.agg #[.int .i64 n, .int .i64 d]] w fun e w' => e = .returned (.tuple #[.agg #[.int .i64 (-n), .int .i64 d], .int .i64 0]) ∧ Later w w' := by
  have n0 := hV.n0; have n1 := hV.n1; have d0 := hV.d0; have d1 := hV.d1
  have HE := Lib.hid ((chk_valid (by omega) n1 d1).2 hV)
  go_enter Tryz.func134, Tryz.ntmps134
  go_wp2_with (go_at_call 112; refine (check_any _ _ _ (by omega) n1 (by omega) d1).mono ?_; rw [HE.out]; rintro e w1 ⟨rfl, hb1⟩; obtain ⟨c0, f0, c1, f1, z1⟩ := own2 hb1)
  exact bodyPost_ret (v := .tuple #[.agg #[.int .i64 (-n), .int .i64 d], .int .i64 0]) (by simp [results, Tryz.results134, go_sem, c1]) rfl ⟨rfl, by repeat (first | with_reducible exact Later.refl _ | with_reducible assumption | with_reducible refine Later.ofdrew ?_ | with_reducible refine Later.ofdrewN ?_ | with_reducible refine Later.setCell ?_ ?_ _ | with_reducible refine Later.alloc ?_ _ | with_reducible refine Later.drewN ?_ _ | with_reducible refine Later.drew ?_ | (with_reducible refine Later.trans ?_ (by assumption)) | (simp only [World.size_setCell, World.size_alloc, World.heap_drewN]; omega) | (simp; done) | (simp; omega))⟩

set_option maxHeartbeats 1000000 in
theorem round_good (n d : Int) (w : World) (hV : Valid n d) :
    Calls Tryz.prog 133 #[.agg #[.int .i64 n, .int .i64 d]] w fun e w' => e = .returned (.tuple #[.int .i64 (roundI n d), .int .i64 0]) ∧ Later w w' := by
  have n0 := hV.n0; have n1 := hV.n1; have d0 := hV.d0; have d1 := hV.d1
  have HE := Lib.hid ((chk_valid (by omega) n1 d1).2 hV)
  go_enter Tryz.func133, Tryz.ntmps133
  go_wp2_with (first | (go_at_call 112; refine (check_any _ _ _ (by omega) n1 (by omega) d1).mono ?_; rw [HE.out]; rintro e w1 ⟨rfl, hb1⟩; obtain ⟨c0, f0, z1⟩ := own1 hb1) | (go_at_call 171; refine (muldiv_one _ _ _ n0 n1 d0 d1).mono ?_; rintro e w2 ⟨rfl, hb2⟩))
  go_ret2
  exact ⟨rfl, by repeat (first | with_reducible exact Later.refl _ | with_reducible assumption | with_reducible refine Later.ofdrew ?_ | with_reducible refine Later.ofdrewN ?_ | with_reducible refine Later.setCell ?_ ?_ _ | with_reducible refine Later.alloc ?_ _ | with_reducible refine Later.drewN ?_ _ | with_reducible refine Later.drew ?_ | (with_reducible refine Later.trans ?_ (by assumption)) | (simp only [World.size_setCell, World.size_alloc, World.heap_drewN]; omega) | (simp; done) | (simp; omega))⟩
end Go.Proofs.YtkjabiabeemfhaaGreatDoor
end
section
/- Compare, by its walk -/
namespace Go.Proofs.YtkjabiabeemfhaaGreatDoor
open Go.RowKit
set_option maxRecDepth 100000

def cmpI (x y : Int) : Int := if x < y then -1 else if x = y then 0 else 1

set_option maxHeartbeats 2000000 in
theorem compare_walk (an ad bn bd M c : Int) (S : Bool) (w : World) (an1 : -9223372036854775808 < an) (an2 : an ≤ 9223372036854775807) (ad1 : 0 < ad) (ad2 : ad ≤ 9223372036854775807)
    (bn1 : -9223372036854775808 < bn) (bn2 : bn ≤ 9223372036854775807) (bd1 : 0 < bd) (bd2 : bd ≤ 9223372036854775807) (HE : Hid (firstE an ad bn bd = 0))
    (HM : Hid (plusM (an.natAbs * bd.natAbs) (sgn an bd) (bn.natAbs * ad.natAbs) (sgn (-bn) ad) = M)) (HS : Hid (plusS (an.natAbs * bd.natAbs) (sgn an bd) (bn.natAbs * ad.natAbs) (sgn (-bn) ad) = S)) (M0 : 0 ≤ M) (M1 : M ≤ 170141183460469231731687303715884105727)
    (h0 : M = 0 → c = 0) (h1 : M ≠ 0 → S = true → c = -1) (h2 : M ≠ 0 → S = false → c = 1) :
    Calls Tryz.prog 137 #[.agg #[.int .i64 an, .int .i64 ad], .agg #[.int .i64 bn, .int .i64 bd]] w fun e w' => e = .returned (.tuple #[.int .i64 c, .int .i64 0]) ∧ Later w w' := by
  go_enter Tryz.func137, Tryz.ntmps137
  go_wp2_with fail
  refine (first_any an ad bn bd _ _ (by omega) an2 (by omega) ad2 (by omega) bn2 (by omega) bd2 (by simp) (fun i => by simp [go_sem])).mono ?_
  rw [HE.out]
  rintro e w1 ⟨rfl, hb1⟩
  obtain ⟨c0, f0, c1, f1, z1⟩ := own2 (Later.unalloc hb1)
  go_upto_region 4 with fail
  go_cut [7] (fun s7 wx => ∃ p : Nat, s7 = .pointer (some ⟨p, 0, none⟩) ∧ (∀ i, wx.cell? ⟨p, i, none⟩ = #[Value.int .u64 (hi64 M), .int .u64 (lo64 M), .bool S][i]?) ∧ Later w1 wx)
  case first =>
    refine wp_region_plan 13 (.two [0, 1, 2, 3, 5, 6, 7, 8, 9] 4 (.two [] 10 (.two [] 11 (.one [] 12 (.one [] 13 (.done []))) 12 (.one [] 11 (.one [] 13 (.done [])))) 12 (.one [] 10 (.one [] 11 (.one [] 13 (.done []))))) 12 (.one [] 4 (.one [] 10 (.one [] 11 (.one [] 13 (.done [])))))) (by kernel_rfl) (by kernel_rfl) (fun _ _ d _ _ h => by cases d <;> exact h) ?_
    repeat' (first
      | (refine plan_done (fun K hK => ?_); (first | (simp only [pick_cons, pick_nil, toList_some_append, List.getElem?_toArray, List.getElem?_cons_zero, List.getElem?_cons_succ]; repeat (go_big_quiet_step (fail))) | simp only [pick_nil]); refine wpQuiet_nil (hK _ ?_); clear hK K)
      | (refine plan_one (by rfl) (fun K hK => ?_); (first | (simp only [pick_cons, pick_nil, toList_some_append, List.getElem?_toArray, List.getElem?_cons_zero, List.getElem?_cons_succ]; repeat (go_big_quiet_step (fail))) | simp only [pick_nil]); refine wpQuiet_nil (hK _ ?_); clear hK K)
      | (refine plan_two (by rfl) (by rfl) (fun K hK => ?_); (first | (simp only [pick_cons, pick_nil, toList_some_append, List.getElem?_toArray, List.getElem?_cons_zero, List.getElem?_cons_succ]; repeat (go_big_quiet_step (fail))) | simp only [pick_nil]); refine wpQuiet_nil (hK _ ?_); clear hK K; refine ⟨?_, ?_⟩)
      | ((with_reducible refine at_list ?_); go_wp2_with (first | (go_at_call 176; refine (cross_any _ _ _ (by omega) (by omega) (by omega) (by omega)).mono ?_; rintro e w2 ⟨rfl, hb2⟩; obtain ⟨hc, hf⟩ := bcell hb2; have hz := Later.size hb2; (try simp only [World.size_alloc, World.size_drew, World.heap_drewN, World.size_setCell] at hz); (first | (with_reducible refine use_own1 hb2 ?_; intro oc of oz) | (with_reducible refine use_own1 (Later.undrew hb2) ?_; intro oc of oz) | skip); (repeat (first | (with_reducible refine use_of (Later.undrew hb2) ?_; intro hb2) | (with_reducible refine use_of (Later.undrewN hb2) ?_; intro hb2) | (with_reducible refine use_of (Later.unalloc hb2) ?_; intro hb2))); obtain ⟨hc, hf⟩ := bcell hb2; (try (refine use_of (fun i => (hc _ i (by omega)).trans (oc i)) ?_; clear oc; intro oc)); (try (refine use_of (fun i hi => (hf _ i (by omega)).trans (of i hi)) ?_; clear of; intro of))) | (go_at_call 177; refine (plus_any _ _ _ _ _ (mul_natAbs_nonneg _ _) (mul_natAbs_nonneg _ _) (mul_natAbs_le _ _ _ _ (by omega) (by omega) (by omega) (by omega))).mono ?_; rw [HM.out, HS.out]; rintro e w3 ⟨rfl, hb3⟩; obtain ⟨hc, hf⟩ := bcell hb3; have hz := Later.size hb3; (try simp only [World.size_alloc, World.size_drew, World.heap_drewN, World.size_setCell] at hz); (first | (with_reducible refine use_own1 hb3 ?_; intro oc of oz) | (with_reducible refine use_own1 (Later.undrew hb3) ?_; intro oc of oz) | skip); (repeat (first | (with_reducible refine use_of (Later.undrew hb3) ?_; intro hb3) | (with_reducible refine use_of (Later.undrewN hb3) ?_; intro hb3) | (with_reducible refine use_of (Later.unalloc hb3) ?_; intro hb3))); obtain ⟨hc, hf⟩ := bcell hb3; (try (refine use_of (fun i => (hc _ i (by omega)).trans (oc i)) ?_; clear oc; intro oc)); (try (refine use_of (fun i hi => (hf _ i (by omega)).trans (of i hi)) ?_; clear of; intro of)))); first | refine behind_store (t := 13) (by decide) ?_ | refine behind (by repeat (first | with_reducible exact Later.refl _ | with_reducible assumption | with_reducible refine Later.ofdrew ?_ | with_reducible refine Later.ofdrewN ?_ | with_reducible refine Later.alloc ?_ _ | with_reducible refine Later.drewN ?_ _ | with_reducible refine Later.drew ?_ | (with_reducible refine Later.trans ?_ (by assumption)))) ?_))
    all_goals
      go_wp2_with fail
      go_meet
      refine ⟨_, rfl, fun i => ?_, ?_⟩
      · first | (simp [go_sem]; done) | (match i with | 0 => (simp [go_sem, oc]; done) | 1 => (simp [go_sem, oc]; done) | 2 => (simp [go_sem, oc]; done) | j + 3 => (simp [go_sem, oc]; done))
      · repeat (first | with_reducible exact Later.refl _ | with_reducible assumption | with_reducible refine Later.ofdrew ?_ | with_reducible refine Later.ofdrewN ?_ | with_reducible refine Later.setCell ?_ ?_ _ | with_reducible refine Later.alloc ?_ _ | with_reducible refine Later.drewN ?_ _ | with_reducible refine Later.drew ?_ | (with_reducible refine Later.trans ?_ (by assumption)) | (simp only [World.size_setCell, World.size_alloc, World.heap_drewN]; omega) | (simp; done) | (simp; omega))
  case rest =>
    obtain ⟨p, rfl, oc, hl⟩ := hcut
    by_cases hz : M = 0
    · have hc := h0 hz
      subst hc
      have v1 : hi64 M = 0 := by subst hz; simp [hi64]
      have v2 : lo64 M = 0 := by subst hz; simp [lo64]
      clear h0 h1 h2 hz
      go_wp2_with fail
      go_ret2
      exact ⟨rfl, by repeat (first | with_reducible exact Later.refl _ | with_reducible assumption | with_reducible refine Later.ofdrew ?_ | with_reducible refine Later.ofdrewN ?_ | with_reducible refine Later.setCell ?_ ?_ _ | with_reducible refine Later.alloc ?_ _ | with_reducible refine Later.drewN ?_ _ | with_reducible refine Later.drew ?_ | (with_reducible refine Later.trans ?_ (by assumption)) | (simp only [World.size_setCell, World.size_alloc, World.heap_drewN]; omega) | (simp; done) | (simp; omega))⟩
    · have t := two_parts M
      have hne : ¬ (hi64 M = 0 ∧ lo64 M = 0) := by
        unfold two64 at t
        rintro ⟨o1, o2⟩
        rw [o1, o2] at t
        omega
      have hc : c = if S then -1 else 1 := by cases S <;> simp [h1 hz, h2 hz]
      clear h0 h1 h2 hz t
      by_cases hh : hi64 M = 0
      · have hl0 : (lo64 M == 0) = false := by simpa using fun h => hne ⟨hh, h⟩
        clear hne
        cases S
        · simp at hc; subst hc
          go_wp2_with fail
          go_ret2
          exact ⟨rfl, by repeat (first | with_reducible exact Later.refl _ | with_reducible assumption | with_reducible refine Later.ofdrew ?_ | with_reducible refine Later.ofdrewN ?_ | with_reducible refine Later.setCell ?_ ?_ _ | with_reducible refine Later.alloc ?_ _ | with_reducible refine Later.drewN ?_ _ | with_reducible refine Later.drew ?_ | (with_reducible refine Later.trans ?_ (by assumption)) | (simp only [World.size_setCell, World.size_alloc, World.heap_drewN]; omega) | (simp; done) | (simp; omega))⟩
        · simp at hc; subst hc
          go_wp2_with fail
          go_ret2
          exact ⟨rfl, by repeat (first | with_reducible exact Later.refl _ | with_reducible assumption | with_reducible refine Later.ofdrew ?_ | with_reducible refine Later.ofdrewN ?_ | with_reducible refine Later.setCell ?_ ?_ _ | with_reducible refine Later.alloc ?_ _ | with_reducible refine Later.drewN ?_ _ | with_reducible refine Later.drew ?_ | (with_reducible refine Later.trans ?_ (by assumption)) | (simp only [World.size_setCell, World.size_alloc, World.heap_drewN]; omega) | (simp; done) | (simp; omega))⟩
      · have hh0 : (hi64 M == 0) = false := by simpa using hh
        clear hne hh
        cases S
        · simp at hc; subst hc
          go_wp2_with fail
          go_ret2
          exact ⟨rfl, by repeat (first | with_reducible exact Later.refl _ | with_reducible assumption | with_reducible refine Later.ofdrew ?_ | with_reducible refine Later.ofdrewN ?_ | with_reducible refine Later.setCell ?_ ?_ _ | with_reducible refine Later.alloc ?_ _ | with_reducible refine Later.drewN ?_ _ | with_reducible refine Later.drew ?_ | (with_reducible refine Later.trans ?_ (by assumption)) | (simp only [World.size_setCell, World.size_alloc, World.heap_drewN]; omega) | (simp; done) | (simp; omega))⟩
        · simp at hc; subst hc
          go_wp2_with fail
          go_ret2
          exact ⟨rfl, by repeat (first | with_reducible exact Later.refl _ | with_reducible assumption | with_reducible refine Later.ofdrew ?_ | with_reducible refine Later.ofdrewN ?_ | with_reducible refine Later.setCell ?_ ?_ _ | with_reducible refine Later.alloc ?_ _ | with_reducible refine Later.drewN ?_ _ | with_reducible refine Later.drew ?_ | (with_reducible refine Later.trans ?_ (by assumption)) | (simp only [World.size_setCell, World.size_alloc, World.heap_drewN]; omega) | (simp; done) | (simp; omega))⟩

theorem compare_good (an ad bn bd : Int) (w : World) (hA : Valid an ad) (hB : Valid bn bd) :
    Calls Tryz.prog 137 #[.agg #[.int .i64 an, .int .i64 ad], .agg #[.int .i64 bn, .int .i64 bd]] w fun e w' => e = .returned (.tuple #[.int .i64 (cmpI (an * bd) (bn * ad)), .int .i64 0]) ∧ Later w w' := by
  have ad0 := hA.d0; have ad1 := hA.d1; have an0 := hA.n0; have an1 := hA.n1
  have bd0 := hB.d0; have bd1 := hB.d1; have bn0 := hB.n0; have bn1 := hB.n1
  obtain ⟨M, hM⟩ : ∃ M, plusM (an.natAbs * bd.natAbs) (sgn an bd) (bn.natAbs * ad.natAbs) (sgn (-bn) ad) = M := ⟨_, rfl⟩
  obtain ⟨S, hS⟩ : ∃ S, plusS (an.natAbs * bd.natAbs) (sgn an bd) (bn.natAbs * ad.natAbs) (sgn (-bn) ad) = S := ⟨_, rfl⟩
  have hs : signI S M = an * bd + -bn * ad := by rw [← hS, ← hM, plus_signed, sgn_mul, ← Int.natAbs_neg bn, sgn_mul]
  rw [Int.neg_mul] at hs
  have pb := plus_bd (sgn an bd) (sgn (-bn) ad) (mul_natAbs_nonneg an bd) (mul_natAbs_nonneg bn ad)
  rw [hM] at pb
  have hmul : (an.natAbs : Int) * bd.natAbs ≤ 9223372036854775807 * 9223372036854775807 := Int.mul_le_mul (by omega) (by omega) (by omega) (by omega)
  have hmul2 : (bn.natAbs : Int) * ad.natAbs ≤ 9223372036854775807 * 9223372036854775807 := Int.mul_le_mul (by omega) (by omega) (by omega) (by omega)
  generalize an * bd = x at *
  generalize bn * ad = y at *
  refine compare_walk an ad bn bd M _ S w an0 an1 ad0 ad1 bn0 bn1 bd0 bd1 (Lib.hid ((first_zero (by omega) an1 ad1 (by omega) bn1 bd1).2 ⟨hA, hB⟩)) (Lib.hid hM) (Lib.hid hS) pb.1 (by omega) ?_ ?_ ?_
  · intro h
    have h0 : signI S M = 0 := by rw [h]; unfold signI; split <;> rfl
    unfold cmpI; rw [if_neg (by omega), if_pos (by omega)]
  · intro h h'
    rw [h'] at hs
    simp only [signI, if_true] at hs
    unfold cmpI; rw [if_pos (by omega)]
  · intro h h'
    rw [h'] at hs
    simp [signI] at hs
    unfold cmpI; rw [if_neg (by omega), if_neg (by omega)]
end Go.Proofs.YtkjabiabeemfhaaGreatDoor
end
section
/- plain arithmetic: what the laws on ratios say of numbers -/
namespace Go.Proofs.YtkjabiabeemfhaaGreatDoor
open Go.RowKit
set_option maxRecDepth 100000

/-- Of a ratio that fits: it may be, and it is what it is made of. -/
theorem r_spec {n d : Int} (hd : 0 < d) (h : rE n d = 0) : ∃ k : Int, 0 < k ∧ n = k * rN n d ∧ d = k * rD n d ∧ Valid (rN n d) (rD n d) := by
  have g0 : 0 < gcdI n d := by
    unfold gcdI
    have := Int.gcd_pos_of_ne_zero_right n (show d ≠ 0 by omega)
    omega
  have gd := gcdI_dvd n d
  have e1 : rN n d = n / gcdI n d := by unfold rN redN; rw [if_pos h, if_neg (by omega)]
  have e2 : rD n d = d / gcdI n d := by unfold rD redD; rw [if_pos h]; congr 1; omega
  have f1 : n = gcdI n d * (n / gcdI n d) := (Int.mul_ediv_cancel' gd.1).symm
  have f2 : d = gcdI n d * (d / gcdI n d) := (Int.mul_ediv_cancel' gd.2).symm
  have dp := ediv_range hd gd.2 g0
  have hb : (n / gcdI n d).natAbs < 9223372036854775808 ∧ d / gcdI n d < 9223372036854775808 := by
    unfold rE at h
    rw [if_neg (by omega)] at h
    by_cases hc : (redN n d).natAbs < 9223372036854775808 ∧ redD n d < 9223372036854775808
    · unfold redN redD at hc
      rw [if_neg (by omega), show (d.natAbs : Int) = d by omega] at hc
      exact hc
    · rw [if_neg hc] at h; cases h
  refine ⟨gcdI n d, g0, by rw [e1]; exact f1, by rw [e2]; exact f2, ?_⟩
  rw [e1, e2]
  refine ⟨by omega, by omega, by omega, by omega, ?_⟩
  have hg : Nat.gcd n.natAbs d.natAbs = (gcdI n d).natAbs := by unfold gcdI Int.gcd; omega
  have := Nat.coprime_div_gcd_div_gcd (m := n.natAbs) (n := d.natAbs) (by omega)
  rw [hg] at this
  rwa [Int.natAbs_ediv_of_dvd gd.1, Int.natAbs_ediv_of_dvd gd.2]

theorem mul_pos' {a b : Int} (h : 0 < a) (h' : 0 < b) : 0 < a * b := Int.mul_pos h h'

theorem cmp_cases (x y : Int) : (x < y ∧ cmpI x y = -1 ∧ cmpI y x = 1) ∨ (x = y ∧ cmpI x y = 0 ∧ cmpI y x = 0) ∨ (y < x ∧ cmpI x y = 1 ∧ cmpI y x = -1) := by
  unfold cmpI
  rcases Int.lt_trichotomy x y with h | h | h
  · exact .inl ⟨h, by rw [if_pos h], by rw [if_neg (by omega), if_neg (by omega)]⟩
  · exact .inr (.inl ⟨h, by rw [if_neg (by omega), if_pos h], by rw [if_neg (by omega), if_pos h.symm]⟩)
  · exact .inr (.inr ⟨h, by rw [if_neg (by omega), if_neg (by omega)], by rw [if_pos h]⟩)

end Go.Proofs.YtkjabiabeemfhaaGreatDoor
end
section
/- term.Kids; fields of nodes -/
namespace Go.Proofs.YtkjabiabeemfhaaGreatDoor
open Go.RowKit
set_option maxRecDepth 100000

theorem slice_four (b m : Nat) (hm : m ≤ 4) (w : World) :
    (Instr.sliceAt 212 (.pointer (some ⟨b, 2, none⟩)) none (some (.int .i64 m)) none).run Tryz.prog w = .ok (.slice (some ⟨b, 2, none⟩) m 4) w := by
  have h4 : Tryz.prog.arrayLen 212 = 4 := by kernel_rfl
  have hz : ∀ w, (Go.sizeOf (Tryz.prog.elem 212)).run Tryz.prog w = .ok 1 w := fun w => by kernel_rfl
  have h := run_sliceAt_array_h (P := Tryz.prog) w 212 ⟨b, 2, none⟩ (by kernel_rfl) .i64 m (by omega) (by rw [h4]; omega)
  rw [h, hz, h4]
  rfl

set_option maxHeartbeats 800000 in
theorem kids_any (op : Int) (w : World) (hS : Shapes w) :
    Calls Tryz.prog 200 #[.int .i64 op] w fun e w' => ∃ v, e = .returned v ∧ (∃ p cap, v = .slice p (manyN op) cap) ∧
      (0 < manyN op → ∃ b cap, v = .slice (some ⟨b, 0, none⟩) (manyN op) cap ∧ b < w'.heap.size ∧ ∀ j, j < manyN op → w'.cell? ⟨b, j, none⟩ = some (.int .i64 (belI op j))) ∧ Later w w' := by
  have HC := Lib.hid (of_shape op w hS)
  unfold shpV at HC
  have hml := many_le op
  obtain ⟨m, hm⟩ : ∃ m, manyN op = m := ⟨_, rfl⟩
  rw [hm] at HC hml ⊢
  clear hm hS
  go_enter Tryz.func200, Tryz.ntmps200
  go_upto_region 2 with (go_at_call 122; go_must (refine (HC.out).mono ?_; rintro e w1 ⟨rfl, hb1⟩))
  refine wp_opaque (fun w0 hb0 => ?_)
  obtain ⟨z, c, -⟩ := own_get (Own.one hb0)
  have hlw := hb1.trans hb0.un1
  have g0 : w0.cell? ⟨w1.heap.size, 1, none⟩ = some (.int .i64 m) := c 1
  have hcs : ∀ j, j < ([belI op 0, belI op 1, belI op 2, belI op 3] : List Int).length → w0.cell? ⟨w1.heap.size, 2 + j, none⟩ = some (.int .i64 ([belI op 0, belI op 1, belI op 2, belI op 3].getD j 0)) := by
    intro j hj
    rw [c]
    rcases j with _ | _ | _ | _ | j
    · rfl
    · rfl
    · rfl
    · rfl
    · exact absurd hj (by simp only [List.length]; omega)
  clear c hb0
  generalize w1.heap.size = blk at *
  have hm8 : ([belI op 0, belI op 1, belI op 2, belI op 3] : List Int).length = 4 := rfl
  obtain ⟨zs, hzs⟩ : ∃ zs : List Int, [belI op 0, belI op 1, belI op 2, belI op 3] = zs := ⟨_, rfl⟩
  rw [hzs] at hcs hm8
  have HCL := Lib.hid (fun cp => Tryz.slices_Clone_int blk 2 m cp zs w0 (by omega) (by omega) hcs)
  clear hcs
  have hsl := slice_four blk m hml w0
  go_wp2_with (go_at_call 207; go_must (refine (HCL.out _).mono ?_; rintro e w2 ⟨v', rfl, hrow, hnn, hbel⟩))
  go_ret
  refine ⟨v', rfl, ?_, ?_, hlw.trans hbel⟩
  · rcases hrow.2 with ⟨h1, h2⟩ | ⟨g, cp, cur, h1, -⟩
    · exact absurd h1 hnn
    · exact ⟨_, _, h1⟩
  · intro hm0
    have hF := Lib.hid hrow
    rcases hrow.2 with ⟨h1, h2⟩ | ⟨g, cp, cur, h1, -, h3, -⟩
    · exact absurd h1 hnn
    · refine ⟨g, cp, h1, (Array.getElem?_eq_some_iff.1 h3).1, fun j hj => ?_⟩
      have h4 := World.ownsRowF.cells (World.ownsRowF_of hF.out) (g := g) (by rw [h1]; rfl) j (.int .i64 (belI op j)) (by
        rw [← hzs, List.getElem?_map, List.getElem?_take_of_lt hj]
        have hj4 : j < 4 := by omega
        clear HC HCL h1 h3 hF hrow hnn hbel hsl hzs
        rcases j with _ | _ | _ | _ | j
        · rfl
        · rfl
        · rfl
        · rfl
        · omega)
      by_cases hj0 : j = 0
      · subst hj0; simpa [Addr.add] using h4
      · simpa [Addr.add, hj0] using h4

theorem ret_bool {a b : Bool} (h : a = b) : Ending.returned (.bool a) = Ending.returned (.bool b) := by rw [h]
/-- A node's fields within limits, and no value. -/
def limB (la lb : Int) (x : Nd) : Bool := withinB x.a la && withinB x.b lb && (x.n == 0 && x.d == 0)
/-- The fields are words. -/
def Nd.ok (x : Nd) : Prop := I64 x.op ∧ I64 x.a ∧ I64 x.b ∧ I64 x.n ∧ I64 x.d
def Nd.val (x : Nd) : Value := .agg #[.int .i64 x.op, .int .i64 x.a, .int .i64 x.b, .int .i64 x.n, .int .i64 x.d]
/-- A node's fields may be. -/
def fieldsB (x : Nd) : Bool :=
  if x.op = 1 then x.a == 0 && x.b == 0 && chkE x.n x.d == 0
  else if x.op = 2 ∨ x.op = 16 then limB 63 0 x
  else if x.op = 10 then limB 7 0 x
  else if x.op = 14 then limB 73048 0 x
  else if x.op = 17 then limB 63 73048 x
  else limB 0 0 x
set_option maxHeartbeats 800000 in
theorem fits_any (la lb : Int) (x : Nd) (w : World) :
    Calls Tryz.prog 164 #[.agg #[.int .i64 la, .int .i64 lb], x.val] w fun e w' => e = .returned (.bool (limB la lb x)) ∧ Later w w' := by
  obtain ⟨op, a, b, n, d⟩ := x
  unfold Nd.val limB withinB
  simp only
  go_enter Tryz.func164, Tryz.ntmps164
  go_wp2
  all_goals
    go_ret
    refine ⟨ret_bool ?_, by repeat (first | with_reducible exact Later.refl _ | with_reducible assumption | with_reducible refine Later.ofdrew ?_ | with_reducible refine Later.ofdrewN ?_ | with_reducible refine Later.setCell ?_ ?_ _ | with_reducible refine Later.alloc ?_ _ | with_reducible refine Later.drewN ?_ _ | with_reducible refine Later.drew ?_ | (with_reducible refine Later.trans ?_ (by assumption)) | (simp only [World.size_setCell, World.size_alloc, World.heap_drewN]; omega) | (simp; done) | (simp; omega))⟩
    simp_all <;> omega
set_option maxHeartbeats 800000 in
theorem number_any (x : Nd) (w : World) (hx : x.ok) :
    Calls Tryz.prog 165 #[x.val] w fun e w' => e = .returned (.bool (x.a == 0 && x.b == 0 && chkE x.n x.d == 0)) ∧ Later w w' := by
  obtain ⟨op, a, b, n, d⟩ := x
  unfold Nd.val
  simp only
  have HC := Lib.hid (fun W => check_any n d W hx.2.2.2.1.1 hx.2.2.2.1.2 hx.2.2.2.2.1 hx.2.2.2.2.2)
  clear hx
  obtain ⟨e, he⟩ : ∃ e, chkE n d = e := ⟨_, rfl⟩
  rw [he] at HC ⊢
  clear he
  go_enter Tryz.func165, Tryz.ntmps165
  go_wp2_with (go_at_call 112; go_must (refine (HC.out _).mono ?_; rintro e w1 ⟨rfl, hb1⟩))
  all_goals
    go_ret
    first
      | (refine ⟨ret_bool ?_, by repeat (first | with_reducible exact Later.refl _ | with_reducible assumption | with_reducible refine Later.ofdrew ?_ | with_reducible refine Later.ofdrewN ?_ | with_reducible refine Later.setCell ?_ ?_ _ | with_reducible refine Later.alloc ?_ _ | with_reducible refine Later.drewN ?_ _ | with_reducible refine Later.drew ?_ | (with_reducible refine Later.trans ?_ (by assumption)) | (simp only [World.size_setCell, World.size_alloc, World.heap_drewN]; omega) | (simp; done) | (simp; omega))⟩; simp_all; done)
      | (refine ⟨ret_bool ?_, Later.trans (by repeat (first | with_reducible exact Later.refl _ | with_reducible assumption | with_reducible refine Later.ofdrew ?_ | with_reducible refine Later.ofdrewN ?_ | with_reducible refine Later.setCell ?_ ?_ _ | with_reducible refine Later.alloc ?_ _ | with_reducible refine Later.drewN ?_ _ | with_reducible refine Later.drew ?_ | (with_reducible refine Later.trans ?_ (by assumption)) | (simp only [World.size_setCell, World.size_alloc, World.heap_drewN]; omega) | (simp; done) | (simp; omega))) hb1⟩; simp_all; done)
set_option maxHeartbeats 1600000 in
theorem fields_any (x : Nd) (w : World) (hx : x.ok) :
    Calls Tryz.prog 119 #[x.val] w fun e w' => e = .returned (.bool (fieldsB x)) ∧ Later w w' := by
  have HF := Lib.hid (fun la lb W => fits_any la lb x W)
  have HN := Lib.hid (fun W => number_any x W hx)
  have hmf : ∀ (fn : Fn) (first cap : Array Value) (w : World), (Instr.makeFunc fn first cap).run Tryz.prog w = .ok (.func fn first cap) w := fun _ _ _ _ => rfl
  obtain ⟨r, hr⟩ : ∃ r, fieldsB x = r := ⟨_, rfl⟩
  rw [hr]
  unfold fieldsB at hr
  have HR := Lib.hid hr
  clear hr hx
  generalize (x.a == 0 && x.b == 0 && chkE x.n x.d == 0) = rn at *
  obtain ⟨op, a, b, n, d⟩ := x
  unfold Nd.val at *
  simp only at *
  go_enter Tryz.func119, Tryz.ntmps119
  go_wp2_with (first
    | (go_at_call 164; go_must (refine (HF.out _ _ _).mono ?_; rintro e w1 ⟨rfl, hb1⟩))
    | (go_at_call 165; go_must (refine (HN.out _).mono ?_; rintro e w1 ⟨rfl, hb1⟩)))
  all_goals
    go_ret
    refine ⟨ret_bool ?_, Later.trans (by repeat (first | with_reducible exact Later.refl _ | with_reducible assumption | with_reducible refine Later.ofdrew ?_ | with_reducible refine Later.ofdrewN ?_ | with_reducible refine Later.setCell ?_ ?_ _ | with_reducible refine Later.alloc ?_ _ | with_reducible refine Later.drewN ?_ _ | with_reducible refine Later.drew ?_ | (with_reducible refine Later.trans ?_ (by assumption)) | (simp only [World.size_setCell, World.size_alloc, World.heap_drewN]; omega) | (simp; done) | (simp; omega))) hb1⟩
    rw [← HR.out]
    clear HF HN HR hmf hb1
    repeat' split
    all_goals first | rfl | (exfalso; simp only [beq_iff_eq, beq_eq_false_iff_ne, ne_eq] at *; omega)
end Go.Proofs.YtkjabiabeemfhaaGreatDoor
end
