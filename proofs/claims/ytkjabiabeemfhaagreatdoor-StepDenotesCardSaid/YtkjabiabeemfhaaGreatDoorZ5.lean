/- walks: a sum of two ratios -/
import Derived.Test.YtkjabiabeemfhaaGreatDoorZ4
set_option linter.all false
set_option linter.all false
section
namespace Go.Proofs.YtkjabiabeemfhaaGreatDoor
open Go.RowKit
set_option maxRecDepth 100000
theorem mul_natAbs_nonneg (a b : Int) : 0 ≤ (a.natAbs : Int) * (b.natAbs : Int) := Int.mul_nonneg (by omega) (by omega)
theorem mul_natAbs_le (a b c d : Int) (ha : a.natAbs ≤ 9223372036854775808) (hb : b.natAbs ≤ 9223372036854775808) (hc : c.natAbs ≤ 9223372036854775808) (hd : d.natAbs ≤ 9223372036854775808) :
  (a.natAbs : Int) * (b.natAbs : Int) + (c.natAbs : Int) * (d.natAbs : Int) ≤ 340282366920938463463374607431768211455 := by
 have h1 : (a.natAbs : Int) * (b.natAbs : Int) ≤ 9223372036854775808 * 9223372036854775808 := Int.mul_le_mul (by omega) (by omega) (by omega) (by omega)
 have h2 : (c.natAbs : Int) * (d.natAbs : Int) ≤ 9223372036854775808 * 9223372036854775808 := Int.mul_le_mul (by omega) (by omega) (by omega) (by omega)
 omega
set_option maxHeartbeats 2000000 in
theorem add_walk (an ad bn bd : Int) (w : World) (an1 : -9223372036854775808 < an) (an2 : an ≤ 9223372036854775807) (bn1 : -9223372036854775808 < bn) (bn2 : bn ≤ 9223372036854775807)
  (ad1 : 0 < ad) (ad2 : ad ≤ 9223372036854775807) (bd1 : 0 < bd) (bd2 : bd ≤ 9223372036854775807)
  (g a' b' P h D n d e : Int) (S : Bool) (Hg : Hid (gcdI ad bd = g)) (g1 : 1 ≤ g) (g2 : g ≤ 9223372036854775807) (ea : ad / g = a') (eb : bd / g = b') (a1 : 1 ≤ a') (a2 : a' ≤ 9223372036854775807) (b1 : 1 ≤ b') (b2 : b' ≤ 9223372036854775807)
  (HP : Hid (plusM (an.natAbs * b'.natAbs) (sgn an b') (bn.natAbs * a'.natAbs) (sgn bn a') = P)) (HS : Hid (plusS (an.natAbs * b'.natAbs) (sgn an b') (bn.natAbs * a'.natAbs) (sgn bn a') = S)) (Hh : Hid (gcdI (P % g) g = h)) (h1 : 1 ≤ h) (h2 : h ≤ 9223372036854775807) (b2' : Int) (eh : bd / h = b2') (b21 : 1 ≤ b2') (b22 : b2' ≤ 9223372036854775807) (hr1 : P = 0 → n = 0 ∧ d = 1 ∧ e = 0) (hr2 : P ≠ 0 → P / h < 9223372036854775808 → a' * b2' < 9223372036854775808 → n = signI S (P / h) ∧ d = a' * b2' ∧ e = 0)
  (hr3 : P ≠ 0 → ¬ (P / h < 9223372036854775808 ∧ a' * b2' < 9223372036854775808) → n = 0 ∧ d = 0 ∧ e = 11) (p1 : 0 ≤ P) (p2 : P ≤ 170141183460469231731687303715884105727) :
  Calls Tryz.prog 213 #[.agg #[.int .i64 an, .int .i64 ad], .agg #[.int .i64 bn, .int .i64 bd]] w fun e' w' => e' = .returned (.tuple #[.agg #[.int .i64 n, .int .i64 d], .int .i64 e]) ∧ Later w w' := by
 go_enter Tryz.func213, Tryz.ntmps213
 go_upto_region 2 with (go_at_call 160; go_loud (refine (common_any _ _ _ (by omega) (by omega) (by omega) (by omega)).mono ?_); rw [Hg.out]; rintro e w1 ⟨rfl, hb1⟩; obtain ⟨c0, f0, c1, f1, c2, f2, z1⟩ := own3 hb1)
 go_cut [7] (fun s7 wx => ∃ p : Nat, s7 = .pointer (some ⟨p, 0, none⟩) ∧ w.heap.size + 1 + 1 + 1 ≤ p ∧ p < wx.heap.size ∧ (∀ i, wx.cell? ⟨p, i, none⟩ = #[Value.int .u64 (hi64 P), .int .u64 (lo64 P), .bool S][i]?) ∧ (∀ i, i < 3 → wx.frozen? ⟨p, i, none⟩ = false) ∧ Later w1 wx)
 case first =>
  refine wp_region_plan 18 (.two [0, 1, 2, 3, 4, 5, 6, 8, 9, 10, 11, 12, 13, 14] 7 (.two [] 15 (.two [] 16 (.one [] 17 (.one [] 18 (.done []))) 17 (.one [] 16 (.one [] 18 (.done [])))) 17 (.one [] 15 (.one [] 16 (.one [] 18 (.done []))))) 17 (.one [] 7 (.one [] 15 (.one [] 16 (.one [] 18 (.done [])))))) (by kernel_rfl) (by kernel_rfl) (fun _ _ d _ _ h => by cases d <;> exact h) ?_
  repeat' (first
   | ((first | refine plan_done (fun K hK => ?_) | refine plan_one (by rfl) (fun K hK => ?_)); (first | (simp only [zq9]; repeat (go_big_quiet_step (fail))) | simp only [pick_nil]); refine wpQuiet_nil (hK _ ?_); clear hK K)
   | (refine plan_two (by rfl) (by rfl) (fun K hK => ?_); (first | (simp only [zq9]; repeat (go_big_quiet_step (fail))) | simp only [pick_nil]); refine wpQuiet_nil (hK _ ?_); clear hK K; refine ⟨?_, ?_⟩)
   | ((with_reducible refine at_list ?_); go_wp2_with (first | (go_at_call 176; refine (cross_any _ _ _ (by omega) (by omega) (by omega) (by omega)).mono ?_; rintro e w2 ⟨rfl, hb2⟩; obtain ⟨hc, hf⟩ := bcell hb2; have hz := Later.size hb2; (try simp only [World.size_alloc, World.size_drew, World.heap_drewN, World.size_setCell] at hz); (first | (with_reducible refine use_own1 hb2 ?_; intro oc of oz) | (with_reducible refine use_own1 (Later.undrew hb2) ?_; intro oc of oz) | skip); (repeat (first | (with_reducible refine use_of (Later.undrew hb2) ?_; intro hb2) | (with_reducible refine use_of (Later.undrewN hb2) ?_; intro hb2) | (with_reducible refine use_of (Later.unalloc hb2) ?_; intro hb2))); obtain ⟨hc, hf⟩ := bcell hb2; (try (refine use_of (fun i => (hc _ i (by omega)).trans (oc i)) ?_; clear oc; intro oc)); (try (refine use_of (fun i hi => (hf _ i (by omega)).trans (of i hi)) ?_; clear of; intro of))) | (go_at_call 177; refine (plus_any _ _ _ _ _ (mul_natAbs_nonneg _ _) (mul_natAbs_nonneg _ _) (mul_natAbs_le _ _ _ _ (by omega) (by omega) (by omega) (by omega))).mono ?_; rw [HP.out, HS.out]; rintro e w3 ⟨rfl, hb3⟩; obtain ⟨hc, hf⟩ := bcell hb3; have hz := Later.size hb3; (try simp only [World.size_alloc, World.size_drew, World.heap_drewN, World.size_setCell] at hz); (first | (with_reducible refine use_own1 hb3 ?_; intro oc of oz) | (with_reducible refine use_own1 (Later.undrew hb3) ?_; intro oc of oz) | skip); (repeat (first | (with_reducible refine use_of (Later.undrew hb3) ?_; intro hb3) | (with_reducible refine use_of (Later.undrewN hb3) ?_; intro hb3) | (with_reducible refine use_of (Later.unalloc hb3) ?_; intro hb3))); obtain ⟨hc, hf⟩ := bcell hb3; (try (refine use_of (fun i => (hc _ i (by omega)).trans (oc i)) ?_; clear oc; intro oc)); (try (refine use_of (fun i hi => (hf _ i (by omega)).trans (of i hi)) ?_; clear of; intro of)))); first | refine behind_store (t := 18) (by decide) ?_ | refine behind (by with_reducible repeat (first | exact zq1 _ | assumption | refine zq2 ?_ | refine zq5 ?_ _ | refine zq6 ?_ _ | refine zq7 ?_ | refine zq8 ?_ (by assumption))) ?_))
  all_goals
   go_wp2_with fail
   go_meet
   refine ⟨_, rfl, ?_, ?_, fun i => ?_, fun i hi => ?_, ?_⟩
   ·simp only [World.size_drew] at *; omega
   ·simp only [World.size_drew, World.size_alloc, World.size_setCell] at *; omega
   ·first | (simp [go_sem]; done) | (match i with | 0 => (simp [go_sem, oc]; done) | 1 => (simp [go_sem, oc]; done) | 2 => (simp [go_sem, oc]; done) | j + 3 => (simp [go_sem, oc]; done))
   ·first | (simp [go_sem]; done) | (simp [go_sem]; exact of i (by simpa using hi))
   ·repeat (first | with_reducible (first | exact zq1 _ | assumption | refine zq2 ?_ | refine zq4 ?_ ?_ _ | refine zq5 ?_ _ | refine zq6 ?_ _ | refine zq7 ?_ | refine zq8 ?_ (by assumption)) | (simp only [zq10]; omega) | (simp; done) | (simp; omega))
 case rest =>
  obtain ⟨p, rfl, hp1, hp2, oc, of, hl⟩ := hcut
  obtain ⟨hc, hf⟩ := bcell hl; have hz := Later.size hl; (try simp only [World.size_alloc, World.size_drew, World.heap_drewN, World.size_setCell] at hz); (repeat (first | (with_reducible refine use_of (Later.undrew hl) ?_; intro hl) | (with_reducible refine use_of (Later.undrewN hl) ?_; intro hl) | (with_reducible refine use_of (Later.unalloc hl) ?_; intro hl))); obtain ⟨hc, hf⟩ := bcell hl; (try (refine use_of (fun i => (hc _ i (by omega)).trans (c0 i)) ?_; clear c0; intro c0)); (try (refine use_of (fun i => (hc _ i (by omega)).trans (c1 i)) ?_; clear c1; intro c1)); (try (refine use_of (fun i => (hc _ i (by omega)).trans (c2 i)) ?_; clear c2; intro c2)); (try (refine use_of (fun i hi => (hf _ i (by omega)).trans (f2 i hi)) ?_; clear f2; intro f2))
  go_wp2_with fail
  refine (by_any _ _ _ (by omega) (by omega) (by omega) (by omega)).mono ?_
  rintro e w4 ⟨rfl, hb4⟩
  obtain ⟨hc, hf⟩ := bcell hb4; have hz := Later.size hb4; (try simp only [World.size_alloc, World.size_drew, World.heap_drewN, World.size_setCell] at hz); (repeat (first | (with_reducible refine use_of (Later.undrew hb4) ?_; intro hb4) | (with_reducible refine use_of (Later.undrewN hb4) ?_; intro hb4) | (with_reducible refine use_of (Later.unalloc hb4) ?_; intro hb4))); obtain ⟨hc, hf⟩ := bcell hb4; (try (refine use_of (fun i => (hc _ i (by omega)).trans (c0 i)) ?_; clear c0; intro c0)); (try (refine use_of (fun i => (hc _ i (by omega)).trans (c1 i)) ?_; clear c1; intro c1)); (try (refine use_of (fun i => (hc _ i (by omega)).trans (c2 i)) ?_; clear c2; intro c2)); (try (refine use_of (fun i => (hc _ i (by omega)).trans (oc i)) ?_; clear oc; intro oc)); (try (refine use_of (fun i hi => (hf _ i (by omega)).trans (f2 i hi)) ?_; clear f2; intro f2)); (try (refine use_of (fun i hi => (hf _ i (by omega)).trans (of i hi)) ?_; clear of; intro of))
  go_wp2_with fail
  refine (common_any _ _ _ (Int.emod_nonneg _ (by omega)) (by have := Int.emod_lt_of_pos P (show 0 < g by omega); omega) (by omega) (by omega)).mono ?_
  rw [Hh.out]
  rintro e w5 ⟨rfl, hb5⟩
  obtain ⟨hc, hf⟩ := bcell hb5; have hz := Later.size hb5; (try simp only [World.size_alloc, World.size_drew, World.heap_drewN, World.size_setCell] at hz); (repeat (first | (with_reducible refine use_of (Later.undrew hb5) ?_; intro hb5) | (with_reducible refine use_of (Later.undrewN hb5) ?_; intro hb5) | (with_reducible refine use_of (Later.unalloc hb5) ?_; intro hb5))); obtain ⟨hc, hf⟩ := bcell hb5; (try (refine use_of (fun i => (hc _ i (by omega)).trans (c0 i)) ?_; clear c0; intro c0)); (try (refine use_of (fun i => (hc _ i (by omega)).trans (c1 i)) ?_; clear c1; intro c1)); (try (refine use_of (fun i => (hc _ i (by omega)).trans (c2 i)) ?_; clear c2; intro c2)); (try (refine use_of (fun i => (hc _ i (by omega)).trans (oc i)) ?_; clear oc; intro oc)); (try (refine use_of (fun i hi => (hf _ i (by omega)).trans (f2 i hi)) ?_; clear f2; intro f2)); (try (refine use_of (fun i hi => (hf _ i (by omega)).trans (of i hi)) ?_; clear of; intro of))
  go_wp2_with fail
  refine (by_any _ _ _ (by omega) (by omega) (by omega) (by omega)).mono ?_
  rintro e w6 ⟨rfl, hb6⟩
  obtain ⟨hc, hf⟩ := bcell hb6; have hz := Later.size hb6; (try simp only [World.size_alloc, World.size_drew, World.heap_drewN, World.size_setCell] at hz); (repeat (first | (with_reducible refine use_of (Later.undrew hb6) ?_; intro hb6) | (with_reducible refine use_of (Later.undrewN hb6) ?_; intro hb6) | (with_reducible refine use_of (Later.unalloc hb6) ?_; intro hb6))); obtain ⟨hc, hf⟩ := bcell hb6; (try (refine use_of (fun i => (hc _ i (by omega)).trans (c0 i)) ?_; clear c0; intro c0)); (try (refine use_of (fun i => (hc _ i (by omega)).trans (c1 i)) ?_; clear c1; intro c1)); (try (refine use_of (fun i => (hc _ i (by omega)).trans (c2 i)) ?_; clear c2; intro c2)); (try (refine use_of (fun i => (hc _ i (by omega)).trans (oc i)) ?_; clear oc; intro oc)); (try (refine use_of (fun i hi => (hf _ i (by omega)).trans (f2 i hi)) ?_; clear f2; intro f2)); (try (refine use_of (fun i hi => (hf _ i (by omega)).trans (of i hi)) ?_; clear of; intro of))
  have Q0 : 0 ≤ P / h := Int.ediv_nonneg p1 (by omega)
  have Q1 : P / h ≤ 170141183460469231731687303715884105727 := Int.le_trans (Int.ediv_le_self _ p1) p2
  have E0 : 0 ≤ a' * b2' ∧ a' * b2' ≤ 9223372036854775807 * 9223372036854775807 := ⟨Int.mul_nonneg (by omega) (by omega), Int.mul_le_mul a2 b22 (by omega) (by omega)⟩
  obtain ⟨E0, E1⟩ := E0
  have hPh : P = 0 ∨ P / h ≠ 0 := by
   have := Hh.out
   by_cases hP : P = 0
   ·exact .inl hP
   ·refine .inr fun h0 => ?_
    have hd : h ∣ P := by
     rw [← this]
     unfold gcdI
     have e1 : (Int.gcd (P % g) g : Int) ∣ P % g := Int.gcd_dvd_left _ _
     have e2 : (Int.gcd (P % g) g : Int) ∣ g := Int.gcd_dvd_right _ _
     have e3 := Int.emod_add_mul_ediv P g
     have e4 := Int.dvd_add e1 (Int.dvd_trans e2 (Int.dvd_mul_right g (P / g)))
     rwa [e3] at e4
    obtain ⟨k, hk⟩ := hd
    rw [hk, Int.mul_ediv_cancel_left _ (by omega)] at h0
    subst h0
    simp at hk
    exact hP hk
  go_upto_region 6 with fail
  obtain ⟨w7, hw7⟩ : ∃ w7, w7 = (w6.setCell ⟨p, 0, none⟩ (.int .u64 (hi64 (P / h)))).setCell ⟨p, 1, none⟩ (.int .u64 (lo64 (P / h))) := ⟨_, rfl⟩
  have sz7 : w7.heap.size = w6.heap.size := by rw [hw7]; simp
  have l7 : Later w w7 := by
   have hw6 : w.heap.size ≤ p := by omega
   rw [hw7]; repeat (first | with_reducible (first | exact zq1 _ | assumption | refine zq2 ?_ | refine zq4 ?_ ?_ _ | refine zq5 ?_ _ | refine zq6 ?_ _ | refine zq7 ?_ | refine zq8 ?_ (by assumption)) | (simp only [zq10]; omega) | (simp; done) | (simp; omega))
  have oc7 := set_own (set_own oc (.int .u64 (hi64 (P / h))) (k := 0) (by simp)) (.int .u64 (lo64 (P / h))) (k := 1) (by simp)
  have a7 := set_far (set_far c0 (.int .u64 (hi64 (P / h))) (k := 0) (p := p) (by omega)) (.int .u64 (lo64 (P / h))) (k := 1) (p := p) (by omega)
  have b7 := set_far (set_far c1 (.int .u64 (hi64 (P / h))) (k := 0) (p := p) (by omega)) (.int .u64 (lo64 (P / h))) (k := 1) (p := p) (by omega)
  have d7 := set_far (set_far c2 (.int .u64 (hi64 (P / h))) (k := 0) (p := p) (by omega)) (.int .u64 (lo64 (P / h))) (k := 1) (p := p) (by omega)
  have g7 := set_frozen (p := p) (k := 1) (set_frozen (p := p) (k := 0) f2 (.int .u64 (hi64 (P / h)))) (.int .u64 (lo64 (P / h)))
  rw [← hw7] at oc7 a7 b7 d7 g7 ⊢
  simp at oc7
  have hz7 : p < w7.heap.size := by omega
  clear hw7 oc of c0 c1 c2 f2 hb4 hb5 hb6 hl hb1 hc hf hz f0 f1
  by_cases hP : P = 0
  ·obtain ⟨rfl, rfl, rfl⟩ := hr1 hP
   have z1' : hi64 (P / h) = 0 := by subst hP; simp [hi64]
   have z2' : lo64 (P / h) = 0 := by subst hP; simp [lo64]
   clear hP hPh hr1 hr2 hr3
   go_wp2_with fail
   exact bodyPost_ret (v := .tuple #[.agg #[.int .i64 0, .int .i64 1], .int .i64 0]) (by simp [results, Tryz.results213, go_sem, d7]) rfl ⟨rfl, by repeat (first | with_reducible (first | exact zq1 _ | assumption | refine zq2 ?_ | refine zq4 ?_ ?_ _ | refine zq5 ?_ _ | refine zq6 ?_ _ | refine zq7 ?_ | refine zq8 ?_ (by assumption)) | (simp only [zq10]; omega) | (simp; done) | (simp; omega))⟩
  ·have hP' := hPh.resolve_left hP
   clear hPh
   by_cases hfit : P / h < 9223372036854775808 ∧ a' * b2' < 9223372036854775808
   ·obtain ⟨y1, y2⟩ := hfit
    obtain ⟨rfl, rfl, rfl⟩ := hr2 hP y1 y2
    have v1 : hi64 (P / h) = 0 := by unfold hi64; omega
    have v2 : lo64 (P / h) = P / h := by unfold lo64; omega
    have v3 : hi64 (a' * b2') = 0 := by unfold hi64; omega
    have v4 : lo64 (a' * b2') = a' * b2' := by unfold lo64; omega
    have v5 : (P / h == 0) = false := by simpa using hP'
    clear hr1 hr2 hr3 hP hP'
    generalize hM : P / h = M at *
    generalize hDD : a' * b2' = DD at *
    go_wp2_with fail
    refine wp_region_plan 15 (.one [0, 1, 2, 3, 4, 5, 6, 7, 8, 9, 10] 11 (.one [] 12 (.one [13, 14] 15 (.done [16])))) (by kernel_rfl) (by kernel_rfl) (fun _ _ d _ _ h => by cases d <;> exact h) ?_
    repeat' (first
     | ((first | refine plan_done (fun K hK => ?_) | refine plan_one (by rfl) (fun K hK => ?_)); (first | (simp only [zq9]; repeat (go_big_quiet_step (fail))) | simp only [pick_nil]); refine wpQuiet_nil (hK _ ?_); clear hK K)
     | ((with_reducible refine at_list ?_); go_wp2_with (first | (go_at_call 192; refine (times_any _ _ _ (by omega) (by omega) (by omega) (by omega)).mono ?_; rintro e w8 ⟨rfl, hb8⟩; obtain ⟨hc, hf⟩ := bcell hb8; have hz := Later.size hb8; (try simp only [World.size_alloc, World.size_drew, World.heap_drewN, World.size_setCell] at hz); (repeat (first | (with_reducible refine use_of (Later.undrew hb8) ?_; intro hb8) | (with_reducible refine use_of (Later.undrewN hb8) ?_; intro hb8) | (with_reducible refine use_of (Later.unalloc hb8) ?_; intro hb8))); obtain ⟨hc, hf⟩ := bcell hb8; (try (refine use_of (fun i => (hc _ i (by omega)).trans (a7 i)) ?_; clear a7; intro a7)); (try (refine use_of (fun i => (hc _ i (by omega)).trans (b7 i)) ?_; clear b7; intro b7)); (try (refine use_of (fun i => (hc _ i (by omega)).trans (d7 i)) ?_; clear d7; intro d7)); (try (refine use_of (fun i => (hc _ i (by omega)).trans (oc7 i)) ?_; clear oc7; intro oc7)); (try (refine use_of (fun i hi => (hf _ i (by omega)).trans (g7 i hi)) ?_; clear g7; intro g7))) | (go_at_call 193; refine (made_fits _ _ _ _ (by omega) (by omega) (by omega) (by omega)).mono ?_; rintro e w9 ⟨rfl, hb9⟩; obtain ⟨hc, hf⟩ := bcell hb9; have hz := Later.size hb9; (try simp only [World.size_alloc, World.size_drew, World.heap_drewN, World.size_setCell] at hz); (repeat (first | (with_reducible refine use_of (Later.undrew hb9) ?_; intro hb9) | (with_reducible refine use_of (Later.undrewN hb9) ?_; intro hb9) | (with_reducible refine use_of (Later.unalloc hb9) ?_; intro hb9))); obtain ⟨hc, hf⟩ := bcell hb9; (try (refine use_of (fun i => (hc _ i (by omega)).trans (a7 i)) ?_; clear a7; intro a7)); (try (refine use_of (fun i => (hc _ i (by omega)).trans (b7 i)) ?_; clear b7; intro b7)); (try (refine use_of (fun i => (hc _ i (by omega)).trans (d7 i)) ?_; clear d7; intro d7)); (try (refine use_of (fun i => (hc _ i (by omega)).trans (oc7 i)) ?_; clear oc7; intro oc7)); (try (refine use_of (fun i hi => (hf _ i (by omega)).trans (g7 i hi)) ?_; clear g7; intro g7)))); first | refine behind_store (t := 15) (by decide) ?_ | refine behind (by with_reducible repeat (first | exact zq1 _ | assumption | refine zq2 ?_ | refine zq5 ?_ _ | refine zq6 ?_ _ | refine zq7 ?_ | refine zq8 ?_ (by assumption))) ?_))
    go_wp2_with fail
    exact bodyPost_ret (v := .tuple #[.agg #[.int .i64 (signI S M), .int .i64 DD], .int .i64 0]) (by simp [results, Tryz.results213, go_sem, d7]) rfl ⟨by rw [hM, hDD], by repeat (first | with_reducible (first | exact zq1 _ | assumption | refine zq2 ?_ | refine zq4 ?_ ?_ _ | refine zq5 ?_ _ | refine zq6 ?_ _ | refine zq7 ?_ | refine zq8 ?_ (by assumption)) | (simp only [zq10]; omega) | (simp; done) | (simp; omega))⟩
   ·obtain ⟨rfl, rfl, rfl⟩ := hr3 hP hfit
    have v1 := lo_bd (P / h)
    have v2 := hi_bd (P / h) Q0 (by omega)
    have v3 := lo_bd (a' * b2')
    have v4 := hi_bd (a' * b2') E0 (by omega)
    have t1 := two_parts (P / h)
    have t2 := two_parts (a' * b2')
    have hov : ¬ (hi64 (P / h) = 0 ∧ hi64 (a' * b2') = 0 ∧ lo64 (P / h) < 9223372036854775808 ∧ lo64 (a' * b2') < 9223372036854775808) := by
     unfold two64 at t1 t2
     rintro ⟨o1, o2, o3, o4⟩
     rw [o1] at t1; rw [o2] at t2
     exact hfit ⟨by omega, by omega⟩
    have hov2 : ¬ (hi64 (P / h) = 0 ∧ lo64 (P / h) = 0) := by
     unfold two64 at t1
     rintro ⟨o1, o2⟩
     rw [o1, o2] at t1
     exact hP' (by omega)
    have HOV := Lib.hid hov
    obtain ⟨v11, v12⟩ := v1
    obtain ⟨v21, v22⟩ := v2
    obtain ⟨v31, v32⟩ := v3
    obtain ⟨v41, v42⟩ := v4
    clear t1 t2 hov hfit hr1 hr2 hr3 hP hP'
    generalize hDD : a' * b2' = DD at *
    generalize P / h = M at *
    by_cases hh : hi64 M = 0
    ·have hl0 : (lo64 M == 0) = false := by simpa using fun h => hov2 ⟨hh, h⟩
     rw [hh] at HOV
     clear hov2
     go_wp2_with fail
     refine wp_region_plan 15 (.one [0, 1, 2, 3, 4, 5, 6, 7, 8, 9, 10] 11 (.one [] 12 (.one [13, 14] 15 (.done [16])))) (by kernel_rfl) (by kernel_rfl) (fun _ _ d _ _ h => by cases d <;> exact h) ?_
     repeat' (first
      | ((first | refine plan_done (fun K hK => ?_) | refine plan_one (by rfl) (fun K hK => ?_)); (first | (simp only [zq9]; repeat (go_big_quiet_step (fail))) | simp only [pick_nil]); refine wpQuiet_nil (hK _ ?_); clear hK K)
      | ((with_reducible refine at_list ?_); go_wp2_with (first | (go_at_call 192; refine (times_any _ _ _ (by omega) (by omega) (by omega) (by omega)).mono ?_; rw [hDD]; rintro e w8 ⟨rfl, hb8⟩; obtain ⟨hc, hf⟩ := bcell hb8; have hz := Later.size hb8; (try simp only [World.size_alloc, World.size_drew, World.heap_drewN, World.size_setCell] at hz); (repeat (first | (with_reducible refine use_of (Later.undrew hb8) ?_; intro hb8) | (with_reducible refine use_of (Later.undrewN hb8) ?_; intro hb8) | (with_reducible refine use_of (Later.unalloc hb8) ?_; intro hb8))); obtain ⟨hc, hf⟩ := bcell hb8; (try (refine use_of (fun i => (hc _ i (by omega)).trans (a7 i)) ?_; clear a7; intro a7)); (try (refine use_of (fun i => (hc _ i (by omega)).trans (b7 i)) ?_; clear b7; intro b7)); (try (refine use_of (fun i => (hc _ i (by omega)).trans (d7 i)) ?_; clear d7; intro d7)); (try (refine use_of (fun i => (hc _ i (by omega)).trans (oc7 i)) ?_; clear oc7; intro oc7)); (try (refine use_of (fun i hi => (hf _ i (by omega)).trans (g7 i hi)) ?_; clear g7; intro g7))) | (go_at_call 193; refine (made_over _ _ _ _ _ _ (by omega) (by omega) (by omega) (by omega) (by omega) (by omega) (by omega) (by omega) (by simpa using HOV.out)).mono ?_; rintro e w9 ⟨rfl, hb9⟩; obtain ⟨hc, hf⟩ := bcell hb9; have hz := Later.size hb9; (try simp only [World.size_alloc, World.size_drew, World.heap_drewN, World.size_setCell] at hz); (repeat (first | (with_reducible refine use_of (Later.undrew hb9) ?_; intro hb9) | (with_reducible refine use_of (Later.undrewN hb9) ?_; intro hb9) | (with_reducible refine use_of (Later.unalloc hb9) ?_; intro hb9))); obtain ⟨hc, hf⟩ := bcell hb9; (try (refine use_of (fun i => (hc _ i (by omega)).trans (a7 i)) ?_; clear a7; intro a7)); (try (refine use_of (fun i => (hc _ i (by omega)).trans (b7 i)) ?_; clear b7; intro b7)); (try (refine use_of (fun i => (hc _ i (by omega)).trans (d7 i)) ?_; clear d7; intro d7)); (try (refine use_of (fun i => (hc _ i (by omega)).trans (oc7 i)) ?_; clear oc7; intro oc7)); (try (refine use_of (fun i hi => (hf _ i (by omega)).trans (g7 i hi)) ?_; clear g7; intro g7)))); first | refine behind_store (t := 15) (by decide) ?_ | refine behind (by with_reducible repeat (first | exact zq1 _ | assumption | refine zq2 ?_ | refine zq5 ?_ _ | refine zq6 ?_ _ | refine zq7 ?_ | refine zq8 ?_ (by assumption))) ?_))
     go_wp2_with fail
     exact bodyPost_ret (v := .tuple #[.agg #[.int .i64 0, .int .i64 0], .int .i64 11]) (by simp [results, Tryz.results213, go_sem, d7]) rfl ⟨rfl, by repeat (first | with_reducible (first | exact zq1 _ | assumption | refine zq2 ?_ | refine zq4 ?_ ?_ _ | refine zq5 ?_ _ | refine zq6 ?_ _ | refine zq7 ?_ | refine zq8 ?_ (by assumption)) | (simp only [zq10]; omega) | (simp; done) | (simp; omega))⟩
    ·have hh0 : (hi64 M == 0) = false := by simpa using hh
     clear hov2 hh
     go_wp2_with fail
     refine wp_region_plan 15 (.one [0, 1, 2, 3, 4, 5, 6, 7, 8, 9, 10] 11 (.one [] 12 (.one [13, 14] 15 (.done [16])))) (by kernel_rfl) (by kernel_rfl) (fun _ _ d _ _ h => by cases d <;> exact h) ?_
     repeat' (first
      | ((first | refine plan_done (fun K hK => ?_) | refine plan_one (by rfl) (fun K hK => ?_)); (first | (simp only [zq9]; repeat (go_big_quiet_step (fail))) | simp only [pick_nil]); refine wpQuiet_nil (hK _ ?_); clear hK K)
      | ((with_reducible refine at_list ?_); go_wp2_with (first | (go_at_call 192; refine (times_any _ _ _ (by omega) (by omega) (by omega) (by omega)).mono ?_; rw [hDD]; rintro e w8 ⟨rfl, hb8⟩; obtain ⟨hc, hf⟩ := bcell hb8; have hz := Later.size hb8; (try simp only [World.size_alloc, World.size_drew, World.heap_drewN, World.size_setCell] at hz); (repeat (first | (with_reducible refine use_of (Later.undrew hb8) ?_; intro hb8) | (with_reducible refine use_of (Later.undrewN hb8) ?_; intro hb8) | (with_reducible refine use_of (Later.unalloc hb8) ?_; intro hb8))); obtain ⟨hc, hf⟩ := bcell hb8; (try (refine use_of (fun i => (hc _ i (by omega)).trans (a7 i)) ?_; clear a7; intro a7)); (try (refine use_of (fun i => (hc _ i (by omega)).trans (b7 i)) ?_; clear b7; intro b7)); (try (refine use_of (fun i => (hc _ i (by omega)).trans (d7 i)) ?_; clear d7; intro d7)); (try (refine use_of (fun i => (hc _ i (by omega)).trans (oc7 i)) ?_; clear oc7; intro oc7)); (try (refine use_of (fun i hi => (hf _ i (by omega)).trans (g7 i hi)) ?_; clear g7; intro g7))) | (go_at_call 193; refine (made_over _ _ _ _ _ _ (by omega) (by omega) (by omega) (by omega) (by omega) (by omega) (by omega) (by omega) (by simpa using HOV.out)).mono ?_; rintro e w9 ⟨rfl, hb9⟩; obtain ⟨hc, hf⟩ := bcell hb9; have hz := Later.size hb9; (try simp only [World.size_alloc, World.size_drew, World.heap_drewN, World.size_setCell] at hz); (repeat (first | (with_reducible refine use_of (Later.undrew hb9) ?_; intro hb9) | (with_reducible refine use_of (Later.undrewN hb9) ?_; intro hb9) | (with_reducible refine use_of (Later.unalloc hb9) ?_; intro hb9))); obtain ⟨hc, hf⟩ := bcell hb9; (try (refine use_of (fun i => (hc _ i (by omega)).trans (a7 i)) ?_; clear a7; intro a7)); (try (refine use_of (fun i => (hc _ i (by omega)).trans (b7 i)) ?_; clear b7; intro b7)); (try (refine use_of (fun i => (hc _ i (by omega)).trans (d7 i)) ?_; clear d7; intro d7)); (try (refine use_of (fun i => (hc _ i (by omega)).trans (oc7 i)) ?_; clear oc7; intro oc7)); (try (refine use_of (fun i hi => (hf _ i (by omega)).trans (g7 i hi)) ?_; clear g7; intro g7)))); first | refine behind_store (t := 15) (by decide) ?_ | refine behind (by with_reducible repeat (first | exact zq1 _ | assumption | refine zq2 ?_ | refine zq5 ?_ _ | refine zq6 ?_ _ | refine zq7 ?_ | refine zq8 ?_ (by assumption))) ?_))
     go_wp2_with fail
     exact bodyPost_ret (v := .tuple #[.agg #[.int .i64 0, .int .i64 0], .int .i64 11]) (by simp [results, Tryz.results213, go_sem, d7]) rfl ⟨rfl, by repeat (first | with_reducible (first | exact zq1 _ | assumption | refine zq2 ?_ | refine zq4 ?_ ?_ _ | refine zq5 ?_ _ | refine zq6 ?_ _ | refine zq7 ?_ | refine zq8 ?_ (by assumption)) | (simp only [zq10]; omega) | (simp; done) | (simp; omega))⟩
end Go.Proofs.YtkjabiabeemfhaaGreatDoor
end
