/- term.kids: the iterator over the terms below a node -/
import Derived.Test.YtkjabiabeemfhaaGreatDoorZ7
import Derived.Deep.DeepCutAuto
import Derived.Test.YtkjabiabeemfhaaGreatDoorZ4
import Derived.Test.YtkjabiabeemfhaaGreatDoorZ3
set_option linter.all false
set_option linter.all false
section
namespace Go.Proofs.YtkjabiabeemfhaaGreatDoor
open Go.RowKit
set_option maxRecDepth 100000
def cmpI (x y : Int) : Int := if x < y then -1 else if x = y then 0 else 1
set_option maxHeartbeats 2000000 in
theorem compare_walk (an ad bn bd M c : Int) (S : Bool) (w : World) (an1 : -9223372036854775808 < an) (an2 : an ≤ 9223372036854775807) (ad1 : 0 < ad) (ad2 : ad ≤ 9223372036854775807)
  (bn1 : -9223372036854775808 < bn) (bn2 : bn ≤ 9223372036854775807) (bd1 : 0 < bd) (bd2 : bd ≤ 9223372036854775807) (HE : Hid (firstE an ad bn bd = 0))
  (HM : Hid (plusM (an.natAbs * bd.natAbs) (sgn an bd) (bn.natAbs * ad.natAbs) (sgn (-bn) ad) = M)) (HS : Hid (plusS (an.natAbs * bd.natAbs) (sgn an bd) (bn.natAbs * ad.natAbs) (sgn (-bn) ad) = S)) (M0 : 0 ≤ M) (M1 : M ≤ 170141183460469231731687303715884105727)
  (h0 : M = 0 → c = 0) (h1 : M ≠ 0 → S = true → c = -1) (h2 : M ≠ 0 → S = false → c = 1) :
  Calls Tryz.prog 137 #[.agg #[.int .i64 an, .int .i64 ad], .agg #[.int .i64 bn, .int .i64 bd]] w fun e w' => e = .returned (.tuple #[.int .i64 c, .int .i64 0]) ∧ Later w w' := by
 go_enter Tryz.func137, Tryz.ntmps137
 go_wp2_with fail
 refine (first_any an ad bn bd _ _ (by omega) an2 (by omega) ad2 (by omega) bn2 (by omega) bd2 (by simp) (fun i => by simp [go_sem])).mono ?_
 rw [HE.out]
 rintro e w1 ⟨rfl, hb1⟩
 obtain ⟨c0, f0, c1, f1, z1⟩ := own2 (Later.unalloc hb1)
 go_upto_region 4 with fail
 go_cut [7] (fun s7 wx => ∃ p : Nat, s7 = .pointer (some ⟨p, 0, none⟩) ∧ (∀ i, wx.cell? ⟨p, i, none⟩ = #[Value.int .u64 (hi64 M), .int .u64 (lo64 M), .bool S][i]?) ∧ Later w1 wx)
 case first =>
  refine wp_region_plan 13 (.two [0, 1, 2, 3, 5, 6, 7, 8, 9] 4 (.two [] 10 (.two [] 11 (.one [] 12 (.one [] 13 (.done []))) 12 (.one [] 11 (.one [] 13 (.done [])))) 12 (.one [] 10 (.one [] 11 (.one [] 13 (.done []))))) 12 (.one [] 4 (.one [] 10 (.one [] 11 (.one [] 13 (.done [])))))) (by kernel_rfl) (by kernel_rfl) (fun _ _ d _ _ h => by cases d <;> exact h) ?_
  repeat' (first
   | ((first | refine plan_done (fun K hK => ?_) | refine plan_one (by rfl) (fun K hK => ?_)); (first | (simp only [zq9]; repeat (go_big_quiet_step (fail))) | simp only [pick_nil]); refine wpQuiet_nil (hK _ ?_); clear hK K)
   | (refine plan_two (by rfl) (by rfl) (fun K hK => ?_); (first | (simp only [zq9]; repeat (go_big_quiet_step (fail))) | simp only [pick_nil]); refine wpQuiet_nil (hK _ ?_); clear hK K; refine ⟨?_, ?_⟩)
   | ((with_reducible refine at_list ?_); go_wp2_with (first | (go_at_call 176; refine (cross_any _ _ _ (by omega) (by omega) (by omega) (by omega)).mono ?_; rintro e w2 ⟨rfl, hb2⟩; obtain ⟨hc, hf⟩ := bcell hb2; have hz := Later.size hb2; (try simp only [World.size_alloc, World.size_drew, World.heap_drewN, World.size_setCell] at hz); (first | (with_reducible refine use_own1 hb2 ?_; intro oc of oz) | (with_reducible refine use_own1 (Later.undrew hb2) ?_; intro oc of oz) | skip); (repeat (first | (with_reducible refine use_of (Later.undrew hb2) ?_; intro hb2) | (with_reducible refine use_of (Later.undrewN hb2) ?_; intro hb2) | (with_reducible refine use_of (Later.unalloc hb2) ?_; intro hb2))); obtain ⟨hc, hf⟩ := bcell hb2; (try (refine use_of (fun i => (hc _ i (by omega)).trans (oc i)) ?_; clear oc; intro oc)); (try (refine use_of (fun i hi => (hf _ i (by omega)).trans (of i hi)) ?_; clear of; intro of))) | (go_at_call 177; refine (plus_any _ _ _ _ _ (mul_natAbs_nonneg _ _) (mul_natAbs_nonneg _ _) (mul_natAbs_le _ _ _ _ (by omega) (by omega) (by omega) (by omega))).mono ?_; rw [HM.out, HS.out]; rintro e w3 ⟨rfl, hb3⟩; obtain ⟨hc, hf⟩ := bcell hb3; have hz := Later.size hb3; (try simp only [World.size_alloc, World.size_drew, World.heap_drewN, World.size_setCell] at hz); (first | (with_reducible refine use_own1 hb3 ?_; intro oc of oz) | (with_reducible refine use_own1 (Later.undrew hb3) ?_; intro oc of oz) | skip); (repeat (first | (with_reducible refine use_of (Later.undrew hb3) ?_; intro hb3) | (with_reducible refine use_of (Later.undrewN hb3) ?_; intro hb3) | (with_reducible refine use_of (Later.unalloc hb3) ?_; intro hb3))); obtain ⟨hc, hf⟩ := bcell hb3; (try (refine use_of (fun i => (hc _ i (by omega)).trans (oc i)) ?_; clear oc; intro oc)); (try (refine use_of (fun i hi => (hf _ i (by omega)).trans (of i hi)) ?_; clear of; intro of)))); first | refine behind_store (t := 13) (by decide) ?_ | refine behind (by with_reducible repeat (first | exact zq1 _ | assumption | refine zq2 ?_ | refine zq5 ?_ _ | refine zq6 ?_ _ | refine zq7 ?_ | refine zq8 ?_ (by assumption))) ?_))
  all_goals
   go_wp2_with fail
   go_meet
   refine ⟨_, rfl, fun i => ?_, ?_⟩
   ·first | (simp [go_sem]; done) | (match i with | 0 => (simp [go_sem, oc]; done) | 1 => (simp [go_sem, oc]; done) | 2 => (simp [go_sem, oc]; done) | j + 3 => (simp [go_sem, oc]; done))
   ·repeat (first | with_reducible (first | exact zq1 _ | assumption | refine zq2 ?_ | refine zq4 ?_ ?_ _ | refine zq5 ?_ _ | refine zq6 ?_ _ | refine zq7 ?_ | refine zq8 ?_ (by assumption)) | (simp only [zq10]; omega) | (simp; done) | (simp; omega))
 case rest =>
  obtain ⟨p, rfl, oc, hl⟩ := hcut
  by_cases hz : M = 0
  ·have hc := h0 hz
   subst hc
   have v1 : hi64 M = 0 := by subst hz; simp [hi64]
   have v2 : lo64 M = 0 := by subst hz; simp [lo64]
   clear h0 h1 h2 hz
   go_wp2_with fail
   go_ret2
   exact ⟨rfl, by repeat (first | with_reducible (first | exact zq1 _ | assumption | refine zq2 ?_ | refine zq4 ?_ ?_ _ | refine zq5 ?_ _ | refine zq6 ?_ _ | refine zq7 ?_ | refine zq8 ?_ (by assumption)) | (simp only [zq10]; omega) | (simp; done) | (simp; omega))⟩
  ·have t := two_parts M
   have hne : ¬ (hi64 M = 0 ∧ lo64 M = 0) := by
    unfold two64 at t
    rintro ⟨o1, o2⟩
    rw [o1, o2] at t
    omega
   have hc : c = if S then -1 else 1 := by cases S <;> simp [h1 hz, h2 hz]
   clear h0 h1 h2 hz t
   by_cases hh : hi64 M = 0
   ·have hl0 : (lo64 M == 0) = false := by simpa using fun h => hne ⟨hh, h⟩
    clear hne
    cases S
    ·simp at hc; subst hc
     go_wp2_with fail
     go_ret2
     exact ⟨rfl, by repeat (first | with_reducible (first | exact zq1 _ | assumption | refine zq2 ?_ | refine zq4 ?_ ?_ _ | refine zq5 ?_ _ | refine zq6 ?_ _ | refine zq7 ?_ | refine zq8 ?_ (by assumption)) | (simp only [zq10]; omega) | (simp; done) | (simp; omega))⟩
    ·simp at hc; subst hc
     go_wp2_with fail
     go_ret2
     exact ⟨rfl, by repeat (first | with_reducible (first | exact zq1 _ | assumption | refine zq2 ?_ | refine zq4 ?_ ?_ _ | refine zq5 ?_ _ | refine zq6 ?_ _ | refine zq7 ?_ | refine zq8 ?_ (by assumption)) | (simp only [zq10]; omega) | (simp; done) | (simp; omega))⟩
   ·have hh0 : (hi64 M == 0) = false := by simpa using hh
    clear hne hh
    cases S
    ·simp at hc; subst hc
     go_wp2_with fail
     go_ret2
     exact ⟨rfl, by repeat (first | with_reducible (first | exact zq1 _ | assumption | refine zq2 ?_ | refine zq4 ?_ ?_ _ | refine zq5 ?_ _ | refine zq6 ?_ _ | refine zq7 ?_ | refine zq8 ?_ (by assumption)) | (simp only [zq10]; omega) | (simp; done) | (simp; omega))⟩
    ·simp at hc; subst hc
     go_wp2_with fail
     go_ret2
     exact ⟨rfl, by repeat (first | with_reducible (first | exact zq1 _ | assumption | refine zq2 ?_ | refine zq4 ?_ ?_ _ | refine zq5 ?_ _ | refine zq6 ?_ _ | refine zq7 ?_ | refine zq8 ?_ (by assumption)) | (simp only [zq10]; omega) | (simp; done) | (simp; omega))⟩
theorem compare_good (an ad bn bd : Int) (w : World) (hA : Valid an ad) (hB : Valid bn bd) :
  Calls Tryz.prog 137 #[.agg #[.int .i64 an, .int .i64 ad], .agg #[.int .i64 bn, .int .i64 bd]] w fun e w' => e = .returned (.tuple #[.int .i64 (cmpI (an * bd) (bn * ad)), .int .i64 0]) ∧ Later w w' := by
 have ad0 := hA.d0; have ad1 := hA.d1; have an0 := hA.n0; have an1 := hA.n1
 have bd0 := hB.d0; have bd1 := hB.d1; have bn0 := hB.n0; have bn1 := hB.n1
 obtain ⟨M, hM⟩ : ∃ M, plusM (an.natAbs * bd.natAbs) (sgn an bd) (bn.natAbs * ad.natAbs) (sgn (-bn) ad) = M := ⟨_, rfl⟩
 obtain ⟨S, hS⟩ : ∃ S, plusS (an.natAbs * bd.natAbs) (sgn an bd) (bn.natAbs * ad.natAbs) (sgn (-bn) ad) = S := ⟨_, rfl⟩
 have hs : signI S M = an * bd + -bn * ad := by rw [← hS, ← hM, plus_signed, sgn_mul, ← Int.natAbs_neg bn, sgn_mul]
 rw [Int.neg_mul] at hs
 have pb := plus_bd (sgn an bd) (sgn (-bn) ad) (mul_natAbs_nonneg an bd) (mul_natAbs_nonneg bn ad)
 rw [hM] at pb
 have hmul : (an.natAbs : Int) * bd.natAbs ≤ 9223372036854775807 * 9223372036854775807 := Int.mul_le_mul (by omega) (by omega) (by omega) (by omega)
 have hmul2 : (bn.natAbs : Int) * ad.natAbs ≤ 9223372036854775807 * 9223372036854775807 := Int.mul_le_mul (by omega) (by omega) (by omega) (by omega)
 generalize an * bd = x at *
 generalize bn * ad = y at *
 refine compare_walk an ad bn bd M _ S w an0 an1 ad0 ad1 bn0 bn1 bd0 bd1 (Lib.hid ((first_zero (by omega) an1 ad1 (by omega) bn1 bd1).2 ⟨hA, hB⟩)) (Lib.hid hM) (Lib.hid hS) pb.1 (by omega) ?_ ?_ ?_
 ·intro h
  have h0 : signI S M = 0 := by rw [h]; unfold signI; split <;> rfl
  unfold cmpI; rw [if_neg (by omega), if_pos (by omega)]
 ·intro h h'
  rw [h'] at hs
  simp only [signI, if_true] at hs
  unfold cmpI; rw [if_pos (by omega)]
 ·intro h h'
  rw [h'] at hs
  simp [signI] at hs
  unfold cmpI; rw [if_neg (by omega), if_neg (by omega)]
theorem r_spec {n d : Int} (hd : 0 < d) (h : rE n d = 0) : ∃ k : Int, 0 < k ∧ n = k * rN n d ∧ d = k * rD n d ∧ Valid (rN n d) (rD n d) := by
 have g0 : 0 < gcdI n d := by
  unfold gcdI
  have := Int.gcd_pos_of_ne_zero_right n (show d ≠ 0 by omega)
  omega
 have gd := gcdI_dvd n d
 have e1 : rN n d = n / gcdI n d := by unfold rN redN; rw [if_pos h, if_neg (by omega)]
 have e2 : rD n d = d / gcdI n d := by unfold rD redD; rw [if_pos h]; congr 1; omega
 have f1 : n = gcdI n d * (n / gcdI n d) := (Int.mul_ediv_cancel' gd.1).symm
 have f2 : d = gcdI n d * (d / gcdI n d) := (Int.mul_ediv_cancel' gd.2).symm
 have dp := ediv_range hd gd.2 g0
 have hb : (n / gcdI n d).natAbs < 9223372036854775808 ∧ d / gcdI n d < 9223372036854775808 := by
  unfold rE at h
  rw [if_neg (by omega)] at h
  by_cases hc : (redN n d).natAbs < 9223372036854775808 ∧ redD n d < 9223372036854775808
  ·unfold redN redD at hc
   rw [if_neg (by omega), show (d.natAbs : Int) = d by omega] at hc
   exact hc
  ·rw [if_neg hc] at h; cases h
 refine ⟨gcdI n d, g0, by rw [e1]; exact f1, by rw [e2]; exact f2, ?_⟩
 rw [e1, e2]
 refine ⟨by omega, by omega, by omega, by omega, ?_⟩
 have hg : Nat.gcd n.natAbs d.natAbs = (gcdI n d).natAbs := by unfold gcdI Int.gcd; omega
 have := Nat.coprime_div_gcd_div_gcd (m := n.natAbs) (n := d.natAbs) (by omega)
 rw [hg] at this
 rwa [Int.natAbs_ediv_of_dvd gd.1, Int.natAbs_ediv_of_dvd gd.2]
theorem mul_pos' {a b : Int} (h : 0 < a) (h' : 0 < b) : 0 < a * b := Int.mul_pos h h'
theorem cmp_cases (x y : Int) : (x < y ∧ cmpI x y = -1 ∧ cmpI y x = 1) ∨ (x = y ∧ cmpI x y = 0 ∧ cmpI y x = 0) ∨ (y < x ∧ cmpI x y = 1 ∧ cmpI y x = -1) := by
 unfold cmpI
 rcases Int.lt_trichotomy x y with h | h | h
 ·exact .inl ⟨h, by rw [if_pos h], by rw [if_neg (by omega), if_neg (by omega)]⟩
 ·exact .inr (.inl ⟨h, by rw [if_neg (by omega), if_pos h], by rw [if_neg (by omega), if_pos h.symm]⟩)
 ·exact .inr (.inr ⟨h, by rw [if_neg (by omega), if_neg (by omega)], by rw [if_pos h]⟩)
theorem slice_four (b m : Nat) (hm : m ≤ 4) (w : World) :
  (Instr.sliceAt 212 (.pointer (some ⟨b, 2, none⟩)) none (some (.int .i64 m)) none).run Tryz.prog w = .ok (.slice (some ⟨b, 2, none⟩) m 4) w := by
 have h4 : Tryz.prog.arrayLen 212 = 4 := by kernel_rfl
 have hz : ∀ w, (Go.sizeOf (Tryz.prog.elem 212)).run Tryz.prog w = .ok 1 w := fun w => by kernel_rfl
 have h := run_sliceAt_array_h (P := Tryz.prog) w 212 ⟨b, 2, none⟩ (by kernel_rfl) .i64 m (by omega) (by rw [h4]; omega)
 rw [h, hz, h4]
 rfl
set_option maxHeartbeats 800000 in
theorem kids_any (op : Int) (w : World) (hS : Shapes w) :
  Calls Tryz.prog 200 #[.int .i64 op] w fun e w' => ∃ v, e = .returned v ∧ (∃ p cap, v = .slice p (manyN op) cap) ∧
   (0 < manyN op → ∃ b cap, v = .slice (some ⟨b, 0, none⟩) (manyN op) cap ∧ b < w'.heap.size ∧ ∀ j, j < manyN op → w'.cell? ⟨b, j, none⟩ = some (.int .i64 (belI op j))) ∧ Later w w' := by
 have HC := Lib.hid (of_shape op w hS)
 unfold shpV at HC
 have hml := many_le op
 obtain ⟨m, hm⟩ : ∃ m, manyN op = m := ⟨_, rfl⟩
 rw [hm] at HC hml ⊢
 clear hm hS
 go_enter Tryz.func200, Tryz.ntmps200
 go_upto_region 2 with (go_at_call 122; go_must (refine (HC.out).mono ?_; rintro e w1 ⟨rfl, hb1⟩))
 refine wp_opaque (fun w0 hb0 => ?_)
 obtain ⟨z, c, -⟩ := own_get (Own.one hb0)
 have hlw := hb1.trans hb0.un1
 have g0 : w0.cell? ⟨w1.heap.size, 1, none⟩ = some (.int .i64 m) := c 1
 have hcs : ∀ j, j < ([belI op 0, belI op 1, belI op 2, belI op 3] : List Int).length → w0.cell? ⟨w1.heap.size, 2 + j, none⟩ = some (.int .i64 ([belI op 0, belI op 1, belI op 2, belI op 3].getD j 0)) := by
  intro j hj
  rw [c]
  rcases j with _ | _ | _ | _ | j
  ·rfl
  ·rfl
  ·rfl
  ·rfl
  ·exact absurd hj (by simp only [List.length]; omega)
 clear c hb0
 generalize w1.heap.size = blk at *
 have hm8 : ([belI op 0, belI op 1, belI op 2, belI op 3] : List Int).length = 4 := rfl
 obtain ⟨zs, hzs⟩ : ∃ zs : List Int, [belI op 0, belI op 1, belI op 2, belI op 3] = zs := ⟨_, rfl⟩
 rw [hzs] at hcs hm8
 have HCL := Lib.hid (fun cp => Tryz.slices_Clone_int blk 2 m cp zs w0 (by omega) (by omega) hcs)
 clear hcs
 have hsl := slice_four blk m hml w0
 go_wp2_with (go_at_call 207; go_must (refine (HCL.out _).mono ?_; rintro e w2 ⟨v', rfl, hrow, hnn, hbel⟩))
 go_ret
 refine ⟨v', rfl, ?_, ?_, hlw.trans hbel⟩
 ·rcases hrow.2 with ⟨h1, h2⟩ | ⟨g, cp, cur, h1, -⟩
  ·exact absurd h1 hnn
  ·exact ⟨_, _, h1⟩
 ·intro hm0
  have hF := Lib.hid hrow
  rcases hrow.2 with ⟨h1, h2⟩ | ⟨g, cp, cur, h1, -, h3, -⟩
  ·exact absurd h1 hnn
  ·refine ⟨g, cp, h1, (Array.getElem?_eq_some_iff.1 h3).1, fun j hj => ?_⟩
   have h4 := World.ownsRowF.cells (World.ownsRowF_of hF.out) (g := g) (by rw [h1]; rfl) j (.int .i64 (belI op j)) (by
    rw [← hzs, List.getElem?_map, List.getElem?_take_of_lt hj]
    have hj4 : j < 4 := by omega
    clear HC HCL h1 h3 hF hrow hnn hbel hsl hzs
    rcases j with _ | _ | _ | _ | j
    ·rfl
    ·rfl
    ·rfl
    ·rfl
    ·omega)
   by_cases hj0 : j = 0
   ·subst hj0; simpa [Addr.add] using h4
   ·simpa [Addr.add, hj0] using h4
theorem ret_bool {a b : Bool} (h : a = b) : Ending.returned (.bool a) = Ending.returned (.bool b) := by rw [h]
def limB (la lb : Int) (x : Nd) : Bool := withinB x.a la && withinB x.b lb && (x.n == 0 && x.d == 0)
def Nd.ok (x : Nd) : Prop := I64 x.op ∧ I64 x.a ∧ I64 x.b ∧ I64 x.n ∧ I64 x.d
def Nd.val (x : Nd) : Value := .agg #[.int .i64 x.op, .int .i64 x.a, .int .i64 x.b, .int .i64 x.n, .int .i64 x.d]
def fieldsB (x : Nd) : Bool :=
 if x.op = 1 then x.a == 0 && x.b == 0 && chkE x.n x.d == 0
 else if x.op = 2 ∨ x.op = 16 then limB 63 0 x
 else if x.op = 10 then limB 7 0 x
 else if x.op = 14 then limB 73048 0 x
 else if x.op = 17 then limB 63 73048 x
 else limB 0 0 x
set_option maxHeartbeats 800000 in
theorem fits_any (la lb : Int) (x : Nd) (w : World) :
  Calls Tryz.prog 164 #[.agg #[.int .i64 la, .int .i64 lb], x.val] w fun e w' => e = .returned (.bool (limB la lb x)) ∧ Later w w' := by
 obtain ⟨op, a, b, n, d⟩ := x
 unfold Nd.val limB withinB
 simp only
 go_enter Tryz.func164, Tryz.ntmps164
 go_wp2
 all_goals
  go_ret
  refine ⟨ret_bool ?_, by repeat (first | with_reducible (first | exact zq1 _ | assumption | refine zq2 ?_ | refine zq4 ?_ ?_ _ | refine zq5 ?_ _ | refine zq6 ?_ _ | refine zq7 ?_ | refine zq8 ?_ (by assumption)) | (simp only [zq10]; omega) | (simp; done) | (simp; omega))⟩
  simp_all <;> omega
set_option maxHeartbeats 800000 in
theorem number_any (x : Nd) (w : World) (hx : x.ok) :
  Calls Tryz.prog 165 #[x.val] w fun e w' => e = .returned (.bool (x.a == 0 && x.b == 0 && chkE x.n x.d == 0)) ∧ Later w w' := by
 obtain ⟨op, a, b, n, d⟩ := x
 unfold Nd.val
 simp only
 have HC := Lib.hid (fun W => check_any n d W hx.2.2.2.1.1 hx.2.2.2.1.2 hx.2.2.2.2.1 hx.2.2.2.2.2)
 clear hx
 obtain ⟨e, he⟩ : ∃ e, chkE n d = e := ⟨_, rfl⟩
 rw [he] at HC ⊢
 clear he
 go_enter Tryz.func165, Tryz.ntmps165
 go_wp2_with (go_at_call 112; go_must (refine (HC.out _).mono ?_; rintro e w1 ⟨rfl, hb1⟩))
 all_goals
  go_ret
  first
   | (refine ⟨ret_bool ?_, by repeat (first | with_reducible (first | exact zq1 _ | assumption | refine zq2 ?_ | refine zq4 ?_ ?_ _ | refine zq5 ?_ _ | refine zq6 ?_ _ | refine zq7 ?_ | refine zq8 ?_ (by assumption)) | (simp only [zq10]; omega) | (simp; done) | (simp; omega))⟩; simp_all; done)
   | (refine ⟨ret_bool ?_, Later.trans (by repeat (first | with_reducible (first | exact zq1 _ | assumption | refine zq2 ?_ | refine zq4 ?_ ?_ _ | refine zq5 ?_ _ | refine zq6 ?_ _ | refine zq7 ?_ | refine zq8 ?_ (by assumption)) | (simp only [zq10]; omega) | (simp; done) | (simp; omega))) hb1⟩; simp_all; done)
set_option maxHeartbeats 1600000 in
theorem fields_any (x : Nd) (w : World) (hx : x.ok) :
  Calls Tryz.prog 119 #[x.val] w fun e w' => e = .returned (.bool (fieldsB x)) ∧ Later w w' := by
 have HF := Lib.hid (fun la lb W => fits_any la lb x W)
 have HN := Lib.hid (fun W => number_any x W hx)
 have hmf : ∀ (fn : Fn) (first cap : Array Value) (w : World), (Instr.makeFunc fn first cap).run Tryz.prog w = .ok (.func fn first cap) w := fun _ _ _ _ => rfl
 obtain ⟨r, hr⟩ : ∃ r, fieldsB x = r := ⟨_, rfl⟩
 rw [hr]
 unfold fieldsB at hr
 have HR := Lib.hid hr
 clear hr hx
 generalize (x.a == 0 && x.b == 0 && chkE x.n x.d == 0) = rn at *
 obtain ⟨op, a, b, n, d⟩ := x
 unfold Nd.val at *
 simp only at *
 go_enter Tryz.func119, Tryz.ntmps119
 go_wp2_with (first
  | (go_at_call 164; go_must (refine (HF.out _ _ _).mono ?_; rintro e w1 ⟨rfl, hb1⟩))
  | (go_at_call 165; go_must (refine (HN.out _).mono ?_; rintro e w1 ⟨rfl, hb1⟩)))
 all_goals
  go_ret
  refine ⟨ret_bool ?_, Later.trans (by repeat (first | with_reducible (first | exact zq1 _ | assumption | refine zq2 ?_ | refine zq4 ?_ ?_ _ | refine zq5 ?_ _ | refine zq6 ?_ _ | refine zq7 ?_ | refine zq8 ?_ (by assumption)) | (simp only [zq10]; omega) | (simp; done) | (simp; omega))) hb1⟩
  rw [← HR.out]
  clear HF HN HR hmf hb1
  repeat' split
  all_goals first | rfl | (exfalso; simp only [beq_iff_eq, beq_eq_false_iff_ne, ne_eq] at *; omega)
inductive Tm where
 | node : Nd → List Tm → Tm
namespace Tm
def root : Tm → Nd | node x _ => x
def kids : Tm → List Tm | node _ l => l
theorem ind {p : Tm → Prop} (h : ∀ x l, (∀ t ∈ l, p t) → p (node x l)) (t : Tm) : p t := by
 have key : ∀ n (t : Tm), SizeOf.sizeOf t ≤ n → p t := by
  intro n
  induction n with
  | zero => intro t ht; cases t; simp at ht
  | succ n ih =>
   intro t ht
   cases t with
   | node x l =>
    refine h x l (fun s hs => ih s ?_)
    have := List.sizeOf_lt_of_mem hs
    simp at ht
    omega
 exact key _ t (Nat.le_refl _)
def flat : Tm → List Nd
 | node x l => x :: flats l
where flats : List Tm → List Nd
 | [] => []
 | t :: r => flat t ++ flats r
def size : Tm → Nat
 | node _ l => 1 + sizes l
where sizes : List Tm → Nat
 | [] => 0
 | t :: r => size t + sizes r
def depth : Tm → Nat
 | node _ l => depths l + 1
where depths : List Tm → Nat
 | [] => 0
 | t :: r => max (depth t) (depths r)
def ok : Tm → Prop
 | node x l => makesI x.op ≠ 0 ∧ l.length = manyN x.op ∧ oks l
where oks : List Tm → Prop
 | [] => True
 | t :: r => ok t ∧ oks r
theorem size_flat (t : Tm) : t.flat.length = t.size := by
 induction t using Tm.ind with
 | h x l ih =>
  unfold flat size
  have : ∀ (r : List Tm), (∀ t ∈ r, t.flat.length = t.size) → (flat.flats r).length = size.sizes r := by
   intro r
   induction r with
   | nil => intro _; rfl
   | cons t r ihr => intro h; simp [flat.flats, size.sizes, h t (by simp), ihr (fun s hs => h s (by simp [hs]))]
  rw [List.length_cons, this l ih]; omega
theorem depth_size (t : Tm) : t.depth ≤ t.size := by
 induction t using Tm.ind with
 | h x l ih =>
  unfold depth size
  have : ∀ (r : List Tm), (∀ t ∈ r, t.depth ≤ t.size) → depth.depths r ≤ size.sizes r := by
   intro r
   induction r with
   | nil => intro _; exact Nat.le_refl _
   | cons t r ihr => intro h; have h1 := h t (by simp); have h2 := ihr (fun s hs => h s (by simp [hs])); simp only [depth.depths, size.sizes]; omega
  have := this l ih
  omega
theorem size_pos (t : Tm) : 1 ≤ t.size := by cases t; unfold size; omega
end Tm
def TmAt (ts : List Nd) (k : Nat) (t : Tm) : Prop := t.ok ∧ t.flat <+: ts.drop k
def TmsAt (ts : List Nd) (k : Nat) (l : List Tm) : Prop := Tm.ok.oks l ∧ Tm.flat.flats l <+: ts.drop k
theorem TmAt.le {ts : List Nd} {k : Nat} {t : Tm} (h : TmAt ts k t) : k + t.size ≤ ts.length := by
 have h1 := h.2.length_le
 have h2 := t.size_pos
 rw [Tm.size_flat, List.length_drop] at h1
 omega
theorem drop_prefix_add {α : Type} {ts a b : List α} {k : Nat} (h : (a ++ b) <+: ts.drop k) : a <+: ts.drop k ∧ b <+: ts.drop (k + a.length) := by
 obtain ⟨c, hc⟩ := h
 refine ⟨⟨b ++ c, by rw [← hc, List.append_assoc]⟩, ⟨c, ?_⟩⟩
 rw [← List.drop_drop, ← hc, List.append_assoc, List.drop_left']
 rfl
theorem TmsAt.cons {ts : List Nd} {k : Nat} {t : Tm} {l : List Tm} (h : TmsAt ts k (t :: l)) : TmAt ts k t ∧ TmsAt ts (k + t.size) l := by
 obtain ⟨⟨h1, h2⟩, h3⟩ := h
 have := drop_prefix_add (a := t.flat) h3
 rw [Tm.size_flat] at this
 exact ⟨⟨h1, this.1⟩, h2, this.2⟩
theorem TmAt.root {ts : List Nd} {k : Nat} {x : Nd} {l : List Tm} (h : TmAt ts k (.node x l)) : ts[k]? = some x ∧ TmsAt ts (k + 1) l ∧ makesI x.op ≠ 0 ∧ l.length = manyN x.op := by
 obtain ⟨⟨h1, h2, h3⟩, h4⟩ := h
 have h5 := drop_prefix_add (a := [x]) (b := Tm.flat.flats l) h4
 refine ⟨?_, ⟨h3, h5.2⟩, h1, h2⟩
 obtain ⟨c, hc⟩ := h5.1
 have : (ts.drop k)[0]? = some x := by rw [← hc]; rfl
 simpa using this
theorem TmAt.end_ {ts : List Nd} : ∀ {t : Tm} {k : Nat}, TmAt ts k t → endN ts k = some (k + t.size) := by
 intro t
 induction t using Tm.ind with
 | h x l ih =>
  intro k h
  obtain ⟨h1, h2, h3, h4⟩ := h.root
  rw [endN_eq, h1]
  simp only
  rw [if_neg h3, ← h4]
  have key : ∀ (r : List Tm) (j : Nat), (∀ t ∈ r, ∀ {k : Nat}, TmAt ts k t → endN ts k = some (k + t.size)) → TmsAt ts j r → kidsEnd (endN ts) r.length j = some (j + Tm.size.sizes r) := by
   intro r
   induction r with
   | nil => intro j _ _; rfl
   | cons t r ihr =>
    intro j hr hj
    obtain ⟨h5, h6⟩ := hj.cons
    show (match endN ts j with | none => none | some k' => kidsEnd (endN ts) r.length k') = _
    rw [hr t (by simp) h5]
    simp only
    rw [ihr _ (fun s hs => hr s (by simp [hs])) h6]
    simp [Tm.size.sizes]; omega
  rw [key l (k + 1) ih h2]
  unfold Tm.size
  simp; omega
theorem tm_of_end {ts : List Nd} : ∀ {n k r : Nat}, ts.length - k ≤ n → endN ts k = some r → ∃ t, TmAt ts k t ∧ r = k + t.size := by
 intro n
 induction n with
 | zero => intro k r hn h; rw [endN_none (by omega)] at h; cases h
 | succ n ih =>
  intro k r hn h
  rw [endN_eq] at h
  by_cases hk : k < ts.length
  ·rw [List.getElem?_eq_getElem hk] at h
   simp only at h
   split at h
   ·cases h
   ·rename_i hm
    have key : ∀ (m j r : Nat), k + 1 ≤ j → kidsEnd (endN ts) m j = some r → ∃ l, l.length = m ∧ TmsAt ts j l ∧ r = j + Tm.size.sizes l := by
     intro m
     induction m with
     | zero =>
      intro j r _ h
      simp only [kidsEnd, Option.some.injEq] at h
      exact ⟨[], rfl, ⟨trivial, List.nil_prefix⟩, by simp [Tm.size.sizes, h]⟩
     | succ m ihm =>
      intro j r hj h
      simp only [kidsEnd] at h
      cases hf : endN ts j with
      | none => rw [hf] at h; cases h
      | some j' =>
       rw [hf] at h
       have h1 := endN_gt hf
       obtain ⟨t, ht, rfl⟩ := ih (k := j) (by omega) hf
       obtain ⟨l, hl, hl2, rfl⟩ := ihm _ r (by omega) h
       refine ⟨t :: l, by simp [hl], ⟨⟨ht.1, hl2.1⟩, ?_⟩, by simp [Tm.size.sizes]; omega⟩
       obtain ⟨c, hc⟩ := ht.2
       obtain ⟨d, hd⟩ := hl2.2
       refine ⟨d, ?_⟩
       show (t.flat ++ Tm.flat.flats l) ++ d = ts.drop j
       rw [List.append_assoc, hd, ← List.drop_drop, ← hc, ← Tm.size_flat, List.drop_left']
       rfl
    obtain ⟨l, hl, hl2, rfl⟩ := key _ _ _ (Nat.le_refl _) h
    refine ⟨.node ts[k] l, ⟨⟨hm, hl, hl2.1⟩, ?_⟩, by unfold Tm.size; omega⟩
    obtain ⟨d, hd⟩ := hl2.2
    refine ⟨d, ?_⟩
    show ts[k] :: (Tm.flat.flats l ++ d) = ts.drop k
    rw [hd, List.getElem_cons_drop]
  ·rw [List.getElem?_eq_none (by omega)] at h; cases h
theorem tm_at_all {ts : List Nd} : ∀ {t : Tm} {k j : Nat}, TmAt ts k t → k ≤ j → j < k + t.size → ∃ s, TmAt ts j s ∧ j + s.size ≤ k + t.size := by
 intro t
 induction t using Tm.ind with
 | h x l ih =>
  intro k j h h1 h2
  by_cases hj : j = k
  ·subst hj; exact ⟨_, h, Nat.le_refl _⟩
  ·obtain ⟨_, h4, _, _⟩ := h.root
   have key : ∀ (r : List Tm) (i : Nat), (∀ t ∈ r, ∀ {k j : Nat}, TmAt ts k t → k ≤ j → j < k + t.size → ∃ s, TmAt ts j s ∧ j + s.size ≤ k + t.size) → TmsAt ts i r → i ≤ j → j < i + Tm.size.sizes r → ∃ s, TmAt ts j s ∧ j + s.size ≤ i + Tm.size.sizes r := by
    intro r
    induction r with
    | nil => intro i _ _ h5 h6; simp [Tm.size.sizes] at h6; omega
    | cons t r ihr =>
     intro i hr hi h5 h6
     obtain ⟨h7, h8⟩ := hi.cons
     simp only [Tm.size.sizes] at h6 ⊢
     by_cases hlt : j < i + t.size
     ·obtain ⟨s, hs1, hs2⟩ := hr t (by simp) h7 h5 hlt
      exact ⟨s, hs1, by omega⟩
     ·obtain ⟨s, hs1, hs2⟩ := ihr _ (fun s hs => hr s (by simp [hs])) h8 (by omega) (by omega)
      exact ⟨s, hs1, by omega⟩
   have h5 : (Tm.node x l).size = 1 + Tm.size.sizes l := rfl
   rw [h5] at h2 ⊢
   obtain ⟨s, hs1, hs2⟩ := key l (k + 1) ih h4 (by omega) (by omega)
   exact ⟨s, hs1, by omega⟩
theorem TmAt.self (t : Tm) (h : t.ok) : TmAt t.flat 0 t := ⟨h, by rw [List.drop_zero]; exact List.prefix_refl _⟩
theorem TmAt.unique {ts : List Nd} : ∀ {t : Tm} {k : Nat} {s : Tm}, TmAt ts k t → TmAt ts k s → t = s := by
 intro t
 induction t using Tm.ind with
 | h x l ih =>
  intro k s h1 h2
  cases s with
  | node y m =>
   obtain ⟨a1, a2, a3, a4⟩ := h1.root
   obtain ⟨b1, b2, b3, b4⟩ := h2.root
   rw [a1] at b1
   cases b1
   have key : ∀ (r q : List Tm) (j : Nat), (∀ t ∈ r, ∀ {k : Nat} {s : Tm}, TmAt ts k t → TmAt ts k s → t = s) → r.length = q.length → TmsAt ts j r → TmsAt ts j q → r = q := by
    intro r
    induction r with
    | nil => intro q j _ hl _ _; cases q with | nil => rfl | cons => simp at hl
    | cons t r ihr =>
     intro q j hr hl h3 h4
     cases q with
     | nil => simp at hl
     | cons s q =>
      obtain ⟨c1, c2⟩ := h3.cons
      obtain ⟨d1, d2⟩ := h4.cons
      obtain rfl := hr t (by simp) c1 d1
      rw [ihr q _ (fun s hs => hr s (by simp [hs])) (by simpa using hl) c2 d2]
   rw [key l m (k + 1) ih (by omega) a2 b2]
attribute [local go_sem] Oper.semAt_some field_makes field_many field_below
def placeN (k : Nat) (l : List Tm) (j : Nat) : Nat := k + 1 + Tm.size.sizes (l.take j)
theorem placeN_succ {k : Nat} {l : List Tm} {j : Nat} (h : j < l.length) : placeN k l (j + 1) = placeN k l j + (l[j]).size := by
 have key : ∀ (l : List Tm) (j : Nat) (h : j < l.length), Tm.size.sizes (l.take (j + 1)) = Tm.size.sizes (l.take j) + (l[j]).size := by
  intro l
  induction l with
  | nil => intro j h; simp at h
  | cons t r ih =>
   intro j h
   cases j with
   | zero => simp [Tm.size.sizes]
   | succ j => simp only [List.take_succ_cons, Tm.size.sizes, List.getElem_cons_succ]; rw [ih j (by simpa using h)]; omega
 unfold placeN; rw [key l j h]; omega
theorem placeN_at {ts : List Nd} {k : Nat} {x : Nd} {l : List Tm} (h : TmAt ts k (.node x l)) {j : Nat} (hj : j < l.length) : TmAt ts (placeN k l j) l[j] := by
 obtain ⟨_, h2, _, _⟩ := h.root
 have key : ∀ (l : List Tm) (i j : Nat) (hj : j < l.length), TmsAt ts i l → TmAt ts (i + Tm.size.sizes (l.take j)) l[j] := by
  intro l
  induction l with
  | nil => intro i j hj; simp at hj
  | cons t r ih =>
   intro i j hj h
   obtain ⟨h3, h4⟩ := h.cons
   cases j with
   | zero => simpa [Tm.size.sizes] using h3
   | succ j =>
    have := ih (i + t.size) j (by simpa using hj) h4
    simp only [List.take_succ_cons, Tm.size.sizes, List.getElem_cons_succ]
    rwa [Nat.add_assoc] at this
 exact key l (k + 1) j hj h2
set_option maxHeartbeats 400000 in
theorem kids_make (p : Option Addr) (L cp : Nat) (k : Int) (w : World) :
  Calls Tryz.prog 120 #[.slice p L cp, .int .i64 k] w fun e w' => e = .returned (.func (.func 166) #[] #[.pointer (some ⟨w.heap.size + 1, 0, none⟩), .pointer (some ⟨w.heap.size, 0, none⟩)]) ∧
   w' = (w.alloc (.cells #[.slice p L cp] 22)).alloc (.cells #[.int .i64 k] 3) := by
 have hmf : ∀ (fn : Fn) (first cap : Array Value) (w : World), (Instr.makeFunc fn first cap).run Tryz.prog w = .ok (.func fn first cap) w := fun _ _ _ _ => rfl
 go_enter Tryz.func120, Tryz.ntmps120
 go_wp2
 go_ret
 exact ⟨rfl, rfl⟩
set_option maxHeartbeats 2000000 in
theorem kids_run (ts : List Nd) (hlen : ts.length ≤ 100000) (k : Nat) (x : Nd) (l : List Tm) (hT : TmAt ts k (.node x l)) (n Bt Ba n₀ ll : Nat) (v : Value) (w₁ : World) (h1 : w₁.heap.size = n₀)
  (hS : Shapes w₁) (hN : IsNodes w₁ v ts) (J Jx : List (Fin l.length) → World → Prop) (W : World) (hJ : AbidesFrom W.heap.size J)
  (hY : ∀ pre (x : Fin l.length) W, J pre W → pre.length < l.length → YieldAt Fence.wide (n - 1) Tryz.prog ll #[.int .i64 (x.1 : Int), .int .i64 (placeN k l x.1 : Int)] W fun e W' =>
   (e = .returned (.bool true) ∧ J (pre ++ [x]) W' ∧ Kb n₀ [Bt] W W') ∨ (e = .returned (.bool false) ∧ Jx (pre ++ [x]) W'))
  (hL : Below n₀ w₁ W) (ht : W.cell? ⟨Bt, 0, none⟩ = some v) (ha : W.cell? ⟨Ba, 0, none⟩ = some (.int .i64 k)) (h0 : J [] W) :
  CallsIn Fence.wide n Tryz.prog 166 #[.func (.yield ll) #[] #[], .pointer (some ⟨Ba, 0, none⟩), .pointer (some ⟨Bt, 0, none⟩)] W fun e W' => (∃ v, e = .returned v) ∧
   ((∃ ys, ys = List.finRange l.length ∧ J ys W') ∨ (∃ pre : List (Fin l.length), True ∧ Jx pre W')) := by
 subst h1
 obtain ⟨hr1, hr2, hr3, hr4⟩ := hT.root
 have hk : k < ts.length := by have := hT.le; have := (Tm.node x l).size_pos; omega
 obtain ⟨b, o, cp, hv, hb, hcap, g0, -⟩ := hN.full hk
 subst hv
 have hx0 : (ts[k]).op = x.op := by rw [List.getElem?_eq_getElem hk] at hr1; cases hr1; rfl
 rw [hx0] at g0
 have gW := ((hL.cell (p := ⟨b, o + k * 5, none⟩) hb).trans g0)
 have HSL := Lib.hid (fun W' (h : Later w₁ W') => hS.later h)
 have HNL := Lib.hid (fun W' (h : Later w₁ W') => hN.later h)
 have HOF := Lib.hid (fun W hW => of_shape x.op W hW)
 have HEN := Lib.hid (fun j W h1 h2 h3 => end_any ts hlen _ j (.slice (some ⟨b, o, none⟩) ts.length cp) W (Nat.le_refl _) h1 h2 h3)
 have hml := many_le x.op
 have HP := Lib.hid (fun j (hj : j < l.length) => placeN_at hT hj)
 unfold shpV at HOF
 rw [← hr4] at HOF hml
 have HJ := Lib.hid hJ
 have HY := Lib.hid hY
 clear hT hr1 hr2 hr3 hr4 hx0 g0 hS hN hJ hY
 have HL := Lib.hid (HSL.out W hL)
 refine callsIn_of_wp Tryz.func166 rfl trivial ?_ rfl
 simp only [Tryz.ntmps166, List.size_toArray, List.length_cons, List.length_nil, Nat.reduceAdd, Nat.reduceSub, Array.replicate_succ, Array.replicate_zero, List.push_toArray, List.append_toArray, List.nil_append, List.cons_append]
 gi_wp2_with (refine ⟨trivial, fun hh => (by cases hh), ?_⟩; gi_at_call 122; go_must (refine (callsIn_wide.2 (HOF.out _ HL.out)).mono ?_; rintro e w1 ⟨rfl, hb1⟩))
 have hL1 := Lib.hid (below_later hL (Below.size hL) hb1)
 have ht1 := ((bcell hb1).1 _ _ (World.block_lt_of_cell? _ _ ht)).trans ht
 have hJ1 := abides_later HJ.out h0 hb1
 have HP2 := Lib.hid (fun j (hj : j < l.length) => placeN_succ (k := k) hj)
 clear hb1 h0 ht ha gW hL HL HOF
 gi_loopw [4, 15] (fun s4 s15 wr => ∃ j : Nat, j ≤ l.length ∧ s15 = .int .i64 j ∧ s4 = .int .i64 (placeN k l j) ∧ J ((List.finRange l.length).take j) wr ∧ wr.cell? ⟨Bt, 0, none⟩ = some (.slice (some ⟨b, o, none⟩) ts.length cp) ∧ Hid (Later w₁ wr)) (fun _ s15 _ => l.length - (intOf s15).toNat)
 case atStart => exact ⟨0, Nat.zero_le _, rfl, by unfold placeN; simp [Tm.size.sizes], by simpa using hJ1, ht1, hL1⟩
 case round =>
  obtain ⟨j, hj, rfl, rfl, hJs, htr, hLr⟩ := hrel
  by_cases hlt : j < l.length
  ·obtain ⟨fn, tmps, assign, body, hy, hR⟩ := HY.out _ ⟨j, hlt⟩ wr hJs (by rw [List.length_take, List.length_finRange]; omega)
   have htk : (List.finRange l.length).take j ++ [⟨j, hlt⟩] = (List.finRange l.length).take (j + 1) := by
    rw [List.take_succ_eq_append_getElem (by simpa using hlt)]; simp
   have HPJ := HP.out j hlt
   have hle := HPJ.le
   have HC := Lib.hid (fun W h2 h3 => HEN.out (placeN k l j) W (by omega) h2 h3)
   rw [HPJ.end_] at HC
   simp only [optI] at HC
   rw [← HP2.out j hlt] at HC
   rw [htk] at hR
   obtain ⟨pj, hpj⟩ : ∃ pj, placeN k l j = pj := ⟨_, rfl⟩
   obtain ⟨pj1, hpj1⟩ : ∃ pj, placeN k l (j + 1) = pj := ⟨_, rfl⟩
   have HPJ1 := Lib.hid hpj1
   dsimp only at hy hR
   rw [hpj] at hy HC ⊢
   rw [hpj1] at HC
   clear HPJ hle htk hpj hpj1 hJs
   gi_wp2
   refine ⟨fun hh => (by cases hh), hR.mono ?_⟩
   rintro e W3 (⟨rfl, hJ3, hk3⟩ | ⟨rfl, hJx3⟩)
   ·have ht3 := (hk3.2 Bt (by simp) 0).trans htr
    have hL3 : Later w₁ W3 := Below.trans hLr.out hk3.1
    have HS3 := Lib.hid (HSL.out W3 hL3)
    have HN3 := Lib.hid (HNL.out W3 hL3)
    have hsz := Below.size hk3.1
    have HL3 := Lib.hid hL3
    clear hR hk3 hy htr hLr hL3
    gi_wp2_with (refine ⟨trivial, fun hh => (by cases hh), ?_⟩; gi_at_call 78; go_must (refine (callsIn_wide.2 (HC.out _ HS3.out HN3.out)).mono ?_; rintro e w3 ⟨rfl, hb3⟩))
    go_roundw
    case rel => exact ⟨j + 1, by omega, by simp, by rw [HPJ1.out], abides_later HJ.out hJ3 hb3, ((bcell hb3).1 _ _ (World.block_lt_of_cell? _ _ ht3)).trans ht3, Lib.hid (below_later HL3.out (Below.size HL3.out) hb3)⟩
    case measure => simp [intOf]; omega
   ·gi_wp2
    refine bodyPost_ret (results_none rfl _ _ _) rfl ?_
    exact ⟨⟨_, rfl⟩, .inr ⟨_, trivial, hJx3⟩⟩
  ·obtain rfl : j = l.length := by omega
   gi_wp2
   go_end0
   exact ⟨⟨_, rfl⟩, .inl (by rwa [List.take_of_length_le (by simp)] at hJs)⟩
theorem kids_stops (ts : List Nd) (hlen : ts.length ≤ 100000) (k : Nat) (x : Nd) (l : List Tm) (hT : TmAt ts k (.node x l)) (n Bt Ba : Nat) (v : Value) (w₁ w0 : World)
  (hS : Shapes w₁) (hN : IsNodes w₁ v ts) (hL : Later w₁ w0) (ht : w0.cell? ⟨Bt, 0, none⟩ = some v) (ha : w0.cell? ⟨Ba, 0, none⟩ = some (.int .i64 k)) :
  SeqStopsK Fence.wide n Tryz.prog 166 #[.pointer (some ⟨Ba, 0, none⟩), .pointer (some ⟨Bt, 0, none⟩)] (fun x : Fin l.length => #[Value.int .i64 (x.1 : Int), Value.int .i64 (placeN k l x.1 : Int)]) (Kb w₁.heap.size [Bt])
   (fun ys => ys = List.finRange l.length) (fun _ => True) l.length w0 := fun ll J Jx W hW hJ _ hY h0 =>
 kids_run ts hlen k x l hT n Bt Ba _ ll v w₁ rfl hS hN J Jx W hJ hY (hL.trans hW)
  ((hW.cell (World.block_lt_of_cell? _ _ ht)).trans ht) ((hW.cell (World.block_lt_of_cell? _ _ ha)).trans ha) h0
end Go.Proofs.YtkjabiabeemfhaaGreatDoor
end
