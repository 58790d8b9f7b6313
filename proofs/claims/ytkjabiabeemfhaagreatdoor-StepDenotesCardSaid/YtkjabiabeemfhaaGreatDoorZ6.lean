/- walks: the nearest number -/
import Derived.Test.YtkjabiabeemfhaaGreatDoorZ4
set_option linter.all false
set_option linter.all false
section
namespace Go.Proofs.YtkjabiabeemfhaaGreatDoor
open Go.RowKit
set_option maxRecDepth 100000
set_option maxHeartbeats 2000000 in
theorem mul_walk (an ad bn bd : Int) (w : World) (an1 : -9223372036854775808 < an) (an2 : an ≤ 9223372036854775807) (bn1 : -9223372036854775808 < bn) (bn2 : bn ≤ 9223372036854775807)
  (ad1 : 0 < ad) (ad2 : ad ≤ 9223372036854775807) (bd1 : 0 < bd) (bd2 : bd ≤ 9223372036854775807)
  (g h A B C D n d e : Int) (Hg : Hid (gcdI an.natAbs bd = g)) (g1 : 1 ≤ g) (g2 : g ≤ 9223372036854775807) (Hh : Hid (gcdI bn.natAbs ad = h)) (h1 : 1 ≤ h) (h2 : h ≤ 9223372036854775807)
  (eA : (an.natAbs : Int) / g = A) (eB : (bn.natAbs : Int) / h = B) (eC : ad / h = C) (eD : bd / g = D) (A0 : 0 ≤ A) (A1 : A ≤ 9223372036854775807) (B0 : 0 ≤ B) (B1 : B ≤ 9223372036854775807)
  (C0 : 0 ≤ C) (C1 : C ≤ 9223372036854775807) (D0 : 0 ≤ D) (D1 : D ≤ 9223372036854775807)
  (hr2 : A * B < 9223372036854775808 → C * D < 9223372036854775808 → n = signI (sgn an bn) (A * B) ∧ d = C * D ∧ e = 0)
  (hr3 : ¬ (A * B < 9223372036854775808 ∧ C * D < 9223372036854775808) → n = 0 ∧ d = 0 ∧ e = 11) :
  Calls Tryz.prog 174 #[.agg #[.int .i64 an, .int .i64 ad], .agg #[.int .i64 bn, .int .i64 bd]] w fun e' w' => e' = .returned (.tuple #[.agg #[.int .i64 n, .int .i64 d], .int .i64 e]) ∧ Later w w' := by
 have M0 := mul_bd A0 (by omega) B0 (by omega)
 have N0 := mul_bd C0 (by omega) D0 (by omega)
 obtain ⟨M0, M1⟩ := M0
 obtain ⟨N0, N1⟩ := N0
 go_enter Tryz.func174, Tryz.ntmps174
 go_upto_region 1 with fail
 refine wp_opaque (fun w0 hb0 => ?_)
 obtain ⟨c0, f0, c1, f1, c2, f2, z1⟩ := own3 hb0
 go_cut [6, 7] (fun s6 s7 wx => s6 = .int .u64 g ∧ s7 = .int .u64 h ∧ (∀ i, wx.cell? ⟨w.heap.size, i, none⟩ = #[Value.int .i64 an, .int .i64 ad][i]?) ∧ (∀ i, wx.cell? ⟨w.heap.size + 1, i, none⟩ = #[Value.int .i64 bn, .int .i64 bd][i]?) ∧
  (∀ i, wx.cell? ⟨w.heap.size + 1 + 1, i, none⟩ = #[Value.int .i64 0, .int .i64 0][i]?) ∧ (∀ i, i < 2 → wx.frozen? ⟨w.heap.size + 1 + 1, i, none⟩ = false) ∧ w.heap.size + 1 + 1 + 1 ≤ wx.heap.size ∧ Later w wx)
 case first =>
  refine wp_region_plan 16 (.one [0, 1, 3, 4, 5, 7, 8, 10, 11, 12] 2 (.one [] 6 (.one [] 9 (.one [] 13 (.done [14, 15]))))) (by kernel_rfl) (by kernel_rfl) (fun _ _ d _ _ h => by cases d <;> exact h) ?_
  repeat' (first
   | ((first | refine plan_done (fun K hK => ?_) | refine plan_one (by rfl) (fun K hK => ?_)); (first | (simp only [zq9]; repeat (go_big_quiet_step (fail))) | simp only [pick_nil]); refine wpQuiet_nil (hK _ ?_); clear hK K)
   | ((with_reducible refine at_list ?_); go_wp2_with (first | (go_at_call 161; refine (abs_any _ _ (by omega) (by omega)).mono ?_; rintro e w' ⟨rfl, rfl⟩) | (go_at_call_of 160 (Value.int .u64 bd); refine (common_any _ _ _ (by omega) (by omega) (by omega) (by omega)).mono ?_; rw [Hg.out]; rintro e w1 ⟨rfl, hb1⟩; obtain ⟨hc, hf⟩ := bcell hb1; have hz := Later.size hb1; (try simp only [World.size_alloc, World.size_drew, World.heap_drewN, World.size_setCell] at hz); (repeat (first | (with_reducible refine use_of (Later.undrew hb1) ?_; intro hb1) | (with_reducible refine use_of (Later.undrewN hb1) ?_; intro hb1) | (with_reducible refine use_of (Later.unalloc hb1) ?_; intro hb1))); obtain ⟨hc, hf⟩ := bcell hb1; (try (refine use_of (fun i => (hc _ i (by omega)).trans (c0 i)) ?_; clear c0; intro c0)); (try (refine use_of (fun i => (hc _ i (by omega)).trans (c1 i)) ?_; clear c1; intro c1)); (try (refine use_of (fun i => (hc _ i (by omega)).trans (c2 i)) ?_; clear c2; intro c2)); (try (refine use_of (fun i hi => (hf _ i (by omega)).trans (f2 i hi)) ?_; clear f2; intro f2))) | (go_at_call_of 160 (Value.int .u64 ad); refine (common_any _ _ _ (by omega) (by omega) (by omega) (by omega)).mono ?_; rw [Hh.out]; rintro e w2 ⟨rfl, hb2⟩; obtain ⟨hc, hf⟩ := bcell hb2; have hz := Later.size hb2; (try simp only [World.size_alloc, World.size_drew, World.heap_drewN, World.size_setCell] at hz); (repeat (first | (with_reducible refine use_of (Later.undrew hb2) ?_; intro hb2) | (with_reducible refine use_of (Later.undrewN hb2) ?_; intro hb2) | (with_reducible refine use_of (Later.unalloc hb2) ?_; intro hb2))); obtain ⟨hc, hf⟩ := bcell hb2; (try (refine use_of (fun i => (hc _ i (by omega)).trans (c0 i)) ?_; clear c0; intro c0)); (try (refine use_of (fun i => (hc _ i (by omega)).trans (c1 i)) ?_; clear c1; intro c1)); (try (refine use_of (fun i => (hc _ i (by omega)).trans (c2 i)) ?_; clear c2; intro c2)); (try (refine use_of (fun i hi => (hf _ i (by omega)).trans (f2 i hi)) ?_; clear f2; intro f2)))); first | refine behind_store (t := 16) (by decide) ?_ | refine behind (by with_reducible repeat (first | exact zq1 _ | assumption | refine zq2 ?_ | refine zq5 ?_ _ | refine zq6 ?_ _ | refine zq7 ?_ | refine zq8 ?_ (by assumption))) ?_))
  go_wp2_with fail
  go_meet
  exact ⟨rfl, rfl, c0, c1, c2, f2, by omega, by repeat (first | with_reducible (first | exact zq1 _ | assumption | refine zq2 ?_ | refine zq4 ?_ ?_ _ | refine zq5 ?_ _ | refine zq6 ?_ _ | refine zq7 ?_ | refine zq8 ?_ (by assumption)) | (simp only [zq10]; omega) | (simp; done) | (simp; omega))⟩
 case rest =>
  clear hb0 c0 f0 c1 f1 c2 f2 z1
  obtain ⟨rfl, rfl, c0, c1, c2, f2, z1, hl⟩ := hcut
  go_upto_region 2 with fail
  go_cut [8] (fun s8 wx => ∃ p : Nat, s8 = .pointer (some ⟨p, 0, none⟩) ∧ w.heap.size + 1 + 1 + 1 ≤ p ∧ p < wx.heap.size ∧ (∀ i, wx.cell? ⟨p, i, none⟩ = #[Value.int .u64 (hi64 (A * B)), .int .u64 (lo64 (A * B)), .bool (sgn an bn)][i]?) ∧ Later wc wx)
  case first =>
   refine wp_region_plan 20 (.two [0, 1, 3, 5, 6, 8, 11, 12, 13, 14, 15, 16, 17] 2 (.two [4] 7 (.two [9] 10 (.one [18] 19 (.one [] 20 (.done []))) 19 (.one [] 10 (.one [18] 20 (.done [])))) 19 (.one [] 7 (.one [9] 10 (.one [18] 20 (.done []))))) 19 (.one [] 2 (.one [4] 7 (.one [9] 10 (.one [18] 20 (.done [])))))) (by kernel_rfl) (by kernel_rfl) (fun _ _ d _ _ h => by cases d <;> exact h) ?_
   repeat' (first
    | ((first | refine plan_done (fun K hK => ?_) | refine plan_one (by rfl) (fun K hK => ?_)); (first | (simp only [zq9]; repeat (go_big_quiet_step (fail))) | simp only [pick_nil]); refine wpQuiet_nil (hK _ ?_); clear hK K)
    | (refine plan_two (by rfl) (by rfl) (fun K hK => ?_); (first | (simp only [zq9]; repeat (go_big_quiet_step (fail))) | simp only [pick_nil]); refine wpQuiet_nil (hK _ ?_); clear hK K; refine ⟨?_, ?_⟩)
    | ((with_reducible refine at_list ?_); go_wp2_with (first | (go_at_call 161; refine (abs_any _ _ (by omega) (by omega)).mono ?_; rintro e w' ⟨rfl, rfl⟩) | (go_at_call 192; refine (times_any _ _ _ (by omega) (by omega) (by omega) (by omega)).mono ?_; rintro e w3 ⟨rfl, hb3⟩; obtain ⟨hc, hf⟩ := bcell hb3; have hz := Later.size hb3; (try simp only [World.size_alloc, World.size_drew, World.heap_drewN, World.size_setCell] at hz); (first | (with_reducible refine use_own1 hb3 ?_; intro oc of oz) | (with_reducible refine use_own1 (Later.undrew hb3) ?_; intro oc of oz) | skip))); first | refine behind_store (t := 20) (by decide) ?_ | refine behind (by with_reducible repeat (first | exact zq1 _ | assumption | refine zq2 ?_ | refine zq5 ?_ _ | refine zq6 ?_ _ | refine zq7 ?_ | refine zq8 ?_ (by assumption))) ?_))
   all_goals
    go_wp2_with fail
    go_meet
    refine ⟨_, rfl, ?_, ?_, fun i => ?_, ?_⟩
    ·simp only [World.size_drew, World.size_alloc] at *; omega
    ·simp only [World.size_drew, World.size_alloc, World.size_setCell] at *; omega
    ·first | (simp [go_sem, sgn]; done) | (match i with | 0 => (simp [go_sem, oc, sgn]; done) | 1 => (simp [go_sem, oc, sgn]; done) | 2 => (simp [go_sem, oc, sgn]; done) | j + 3 => (simp [go_sem, oc, sgn]; done))
    ·repeat (first | with_reducible (first | exact zq1 _ | assumption | refine zq2 ?_ | refine zq4 ?_ ?_ _ | refine zq5 ?_ _ | refine zq6 ?_ _ | refine zq7 ?_ | refine zq8 ?_ (by assumption)) | (simp only [zq10]; omega) | (simp; done) | (simp; omega))
  case rest =>
   obtain ⟨p, rfl, hp1, hp2, oc, hl2⟩ := hcut
   obtain ⟨hc, hf⟩ := bcell hl2; have hz := Later.size hl2; (try simp only [World.size_alloc, World.size_drew, World.heap_drewN, World.size_setCell] at hz); (repeat (first | (with_reducible refine use_of (Later.undrew hl2) ?_; intro hl2) | (with_reducible refine use_of (Later.undrewN hl2) ?_; intro hl2) | (with_reducible refine use_of (Later.unalloc hl2) ?_; intro hl2))); obtain ⟨hc, hf⟩ := bcell hl2; (try (refine use_of (fun i => (hc _ i (by omega)).trans (c0 i)) ?_; clear c0; intro c0)); (try (refine use_of (fun i => (hc _ i (by omega)).trans (c1 i)) ?_; clear c1; intro c1)); (try (refine use_of (fun i => (hc _ i (by omega)).trans (c2 i)) ?_; clear c2; intro c2)); (try (refine use_of (fun i hi => (hf _ i (by omega)).trans (f2 i hi)) ?_; clear f2; intro f2))
   by_cases hfit : A * B < 9223372036854775808 ∧ C * D < 9223372036854775808
   ·obtain ⟨y1, y2⟩ := hfit
    obtain ⟨rfl, rfl, rfl⟩ := hr2 y1 y2
    have v1 : hi64 (A * B) = 0 := by unfold hi64; omega
    have v2 : lo64 (A * B) = A * B := by unfold lo64; omega
    have v3 : hi64 (C * D) = 0 := by unfold hi64; omega
    have v4 : lo64 (C * D) = C * D := by unfold lo64; omega
    clear hr2 hr3
    generalize hDD : C * D = DD at *
    generalize hM : A * B = M at *
    go_wp2_with fail
    refine wp_region_plan 15 (.one [0, 1, 2, 3, 4, 5, 6, 7, 8, 9, 10] 11 (.one [] 12 (.one [13, 14] 15 (.done [16])))) (by kernel_rfl) (by kernel_rfl) (fun _ _ d _ _ h => by cases d <;> exact h) ?_
    repeat' (first
     | ((first | refine plan_done (fun K hK => ?_) | refine plan_one (by rfl) (fun K hK => ?_)); (first | (simp only [zq9]; repeat (go_big_quiet_step (fail))) | simp only [pick_nil]); refine wpQuiet_nil (hK _ ?_); clear hK K)
     | ((with_reducible refine at_list ?_); go_wp2_with (first | (go_at_call 192; refine (times_any _ _ _ (by omega) (by omega) (by omega) (by omega)).mono ?_; rw [hDD]; rintro e w8 ⟨rfl, hb8⟩; obtain ⟨hc, hf⟩ := bcell hb8; have hz := Later.size hb8; (try simp only [World.size_alloc, World.size_drew, World.heap_drewN, World.size_setCell] at hz); (repeat (first | (with_reducible refine use_of (Later.undrew hb8) ?_; intro hb8) | (with_reducible refine use_of (Later.undrewN hb8) ?_; intro hb8) | (with_reducible refine use_of (Later.unalloc hb8) ?_; intro hb8))); obtain ⟨hc, hf⟩ := bcell hb8; (try (refine use_of (fun i => (hc _ i (by omega)).trans (c0 i)) ?_; clear c0; intro c0)); (try (refine use_of (fun i => (hc _ i (by omega)).trans (c1 i)) ?_; clear c1; intro c1)); (try (refine use_of (fun i => (hc _ i (by omega)).trans (c2 i)) ?_; clear c2; intro c2)); (try (refine use_of (fun i => (hc _ i (by omega)).trans (oc i)) ?_; clear oc; intro oc)); (try (refine use_of (fun i hi => (hf _ i (by omega)).trans (f2 i hi)) ?_; clear f2; intro f2))) | (go_at_call 193; refine (made_fits _ _ _ _ (by omega) (by omega) (by omega) (by omega)).mono ?_; rintro e w9 ⟨rfl, hb9⟩; obtain ⟨hc, hf⟩ := bcell hb9; have hz := Later.size hb9; (try simp only [World.size_alloc, World.size_drew, World.heap_drewN, World.size_setCell] at hz); (repeat (first | (with_reducible refine use_of (Later.undrew hb9) ?_; intro hb9) | (with_reducible refine use_of (Later.undrewN hb9) ?_; intro hb9) | (with_reducible refine use_of (Later.unalloc hb9) ?_; intro hb9))); obtain ⟨hc, hf⟩ := bcell hb9; (try (refine use_of (fun i => (hc _ i (by omega)).trans (c0 i)) ?_; clear c0; intro c0)); (try (refine use_of (fun i => (hc _ i (by omega)).trans (c1 i)) ?_; clear c1; intro c1)); (try (refine use_of (fun i => (hc _ i (by omega)).trans (c2 i)) ?_; clear c2; intro c2)); (try (refine use_of (fun i => (hc _ i (by omega)).trans (oc i)) ?_; clear oc; intro oc)); (try (refine use_of (fun i hi => (hf _ i (by omega)).trans (f2 i hi)) ?_; clear f2; intro f2)))); first | refine behind_store (t := 15) (by decide) ?_ | refine behind (by with_reducible repeat (first | exact zq1 _ | assumption | refine zq2 ?_ | refine zq5 ?_ _ | refine zq6 ?_ _ | refine zq7 ?_ | refine zq8 ?_ (by assumption))) ?_))
    go_wp2_with fail
    exact bodyPost_ret (v := .tuple #[.agg #[.int .i64 (signI (sgn an bn) M), .int .i64 DD], .int .i64 0]) (by simp [results, Tryz.results174, go_sem, c2]) rfl ⟨by rw [hM, hDD], by repeat (first | with_reducible (first | exact zq1 _ | assumption | refine zq2 ?_ | refine zq4 ?_ ?_ _ | refine zq5 ?_ _ | refine zq6 ?_ _ | refine zq7 ?_ | refine zq8 ?_ (by assumption)) | (simp only [zq10]; omega) | (simp; done) | (simp; omega))⟩
   ·obtain ⟨rfl, rfl, rfl⟩ := hr3 hfit
    have v1 := lo_bd (A * B)
    have v2 := hi_bd (A * B) M0 (by omega)
    have v3 := lo_bd (C * D)
    have v4 := hi_bd (C * D) N0 (by omega)
    have t1 := two_parts (A * B)
    have t2 := two_parts (C * D)
    have hov : ¬ (hi64 (A * B) = 0 ∧ hi64 (C * D) = 0 ∧ lo64 (A * B) < 9223372036854775808 ∧ lo64 (C * D) < 9223372036854775808) := by
     unfold two64 at t1 t2
     rintro ⟨o1, o2, o3, o4⟩
     rw [o1] at t1; rw [o2] at t2
     exact hfit ⟨by omega, by omega⟩
    have HOV := Lib.hid hov
    obtain ⟨v11, v12⟩ := v1
    obtain ⟨v21, v22⟩ := v2
    obtain ⟨v31, v32⟩ := v3
    obtain ⟨v41, v42⟩ := v4
    clear t1 t2 hov hfit hr2 hr3
    generalize hDD : C * D = DD at *
    generalize A * B = M at *
    go_wp2_with fail
    refine wp_region_plan 15 (.one [0, 1, 2, 3, 4, 5, 6, 7, 8, 9, 10] 11 (.one [] 12 (.one [13, 14] 15 (.done [16])))) (by kernel_rfl) (by kernel_rfl) (fun _ _ d _ _ h => by cases d <;> exact h) ?_
    repeat' (first
     | ((first | refine plan_done (fun K hK => ?_) | refine plan_one (by rfl) (fun K hK => ?_)); (first | (simp only [zq9]; repeat (go_big_quiet_step (fail))) | simp only [pick_nil]); refine wpQuiet_nil (hK _ ?_); clear hK K)
     | ((with_reducible refine at_list ?_); go_wp2_with (first | (go_at_call 192; refine (times_any _ _ _ (by omega) (by omega) (by omega) (by omega)).mono ?_; rw [hDD]; rintro e w8 ⟨rfl, hb8⟩; obtain ⟨hc, hf⟩ := bcell hb8; have hz := Later.size hb8; (try simp only [World.size_alloc, World.size_drew, World.heap_drewN, World.size_setCell] at hz); (repeat (first | (with_reducible refine use_of (Later.undrew hb8) ?_; intro hb8) | (with_reducible refine use_of (Later.undrewN hb8) ?_; intro hb8) | (with_reducible refine use_of (Later.unalloc hb8) ?_; intro hb8))); obtain ⟨hc, hf⟩ := bcell hb8; (try (refine use_of (fun i => (hc _ i (by omega)).trans (c0 i)) ?_; clear c0; intro c0)); (try (refine use_of (fun i => (hc _ i (by omega)).trans (c1 i)) ?_; clear c1; intro c1)); (try (refine use_of (fun i => (hc _ i (by omega)).trans (c2 i)) ?_; clear c2; intro c2)); (try (refine use_of (fun i => (hc _ i (by omega)).trans (oc i)) ?_; clear oc; intro oc)); (try (refine use_of (fun i hi => (hf _ i (by omega)).trans (f2 i hi)) ?_; clear f2; intro f2))) | (go_at_call 193; refine (made_over _ _ _ _ _ _ (by omega) (by omega) (by omega) (by omega) (by omega) (by omega) (by omega) (by omega) (by simpa using HOV.out)).mono ?_; rintro e w9 ⟨rfl, hb9⟩; obtain ⟨hc, hf⟩ := bcell hb9; have hz := Later.size hb9; (try simp only [World.size_alloc, World.size_drew, World.heap_drewN, World.size_setCell] at hz); (repeat (first | (with_reducible refine use_of (Later.undrew hb9) ?_; intro hb9) | (with_reducible refine use_of (Later.undrewN hb9) ?_; intro hb9) | (with_reducible refine use_of (Later.unalloc hb9) ?_; intro hb9))); obtain ⟨hc, hf⟩ := bcell hb9; (try (refine use_of (fun i => (hc _ i (by omega)).trans (c0 i)) ?_; clear c0; intro c0)); (try (refine use_of (fun i => (hc _ i (by omega)).trans (c1 i)) ?_; clear c1; intro c1)); (try (refine use_of (fun i => (hc _ i (by omega)).trans (c2 i)) ?_; clear c2; intro c2)); (try (refine use_of (fun i => (hc _ i (by omega)).trans (oc i)) ?_; clear oc; intro oc)); (try (refine use_of (fun i hi => (hf _ i (by omega)).trans (f2 i hi)) ?_; clear f2; intro f2)))); first | refine behind_store (t := 15) (by decide) ?_ | refine behind (by with_reducible repeat (first | exact zq1 _ | assumption | refine zq2 ?_ | refine zq5 ?_ _ | refine zq6 ?_ _ | refine zq7 ?_ | refine zq8 ?_ (by assumption))) ?_))
    go_wp2_with fail
    exact bodyPost_ret (v := .tuple #[.agg #[.int .i64 0, .int .i64 0], .int .i64 11]) (by simp [results, Tryz.results174, go_sem, c2]) rfl ⟨rfl, by repeat (first | with_reducible (first | exact zq1 _ | assumption | refine zq2 ?_ | refine zq4 ?_ ?_ _ | refine zq5 ?_ _ | refine zq6 ?_ _ | refine zq7 ?_ | refine zq8 ?_ (by assumption)) | (simp only [zq10]; omega) | (simp; done) | (simp; omega))⟩
def chkE (n d : Int) : Int := if d = 0 then 12 else if d < 0 ∨ n = -9223372036854775808 ∨ gcdI n.natAbs d.natAbs ≠ 1 then 13 else 0
set_option maxHeartbeats 1000000 in
theorem check_any (n d : Int) (w : World) (n1 : -9223372036854775808 ≤ n) (n2 : n ≤ 9223372036854775807) (d1 : -9223372036854775808 ≤ d) (d2 : d ≤ 9223372036854775807) :
  Calls Tryz.prog 112 #[.agg #[.int .i64 n, .int .i64 d]] w fun e w' => e = .returned (.int .i64 (chkE n d)) ∧ Later w w' := by
 by_cases hd : d = 0
 ·subst hd
  have hE : chkE n 0 = 12 := by simp [chkE]
  rw [hE]
  go_enter Tryz.func112, Tryz.ntmps112
  go_wp2
  go_ret
  exact ⟨rfl, by repeat (first | with_reducible (first | exact zq1 _ | assumption | refine zq2 ?_ | refine zq4 ?_ ?_ _ | refine zq5 ?_ _ | refine zq6 ?_ _ | refine zq7 ?_ | refine zq8 ?_ (by assumption)) | (simp only [zq10]; omega) | (simp; done) | (simp; omega))⟩
 ·have hd0 : (d == 0) = false := by simpa using hd
  by_cases hneg : d < 0
  ·have hE : chkE n d = 13 := by simp [chkE, hd, hneg]
   rw [hE]
   have t1 : decide (d < 0) = true := by simpa using hneg
   clear hE hd
   go_enter Tryz.func112, Tryz.ntmps112
   go_wp2_with fail
   refine wp_opaque (fun w0 hb0 => ?_)
   obtain ⟨c0, f0, z1⟩ := own1 hb0
   refine wp_region_plan 19 (.one [0, 1, 2, 3, 4, 5, 6, 7, 8, 9, 10, 12, 13] 11 (.one [] 14 (.one [] 15 (.done [16, 17, 18])))) (by kernel_rfl) (by kernel_rfl) (fun _ _ d _ _ h => by cases d <;> exact h) ?_
   repeat' (first
    | ((first | refine plan_done (fun K hK => ?_) | refine plan_one (by rfl) (fun K hK => ?_)); (first | (simp only [zq9]; repeat (go_big_quiet_step (fail))) | simp only [pick_nil]); refine wpQuiet_nil (hK _ ?_); clear hK K)
    | ((with_reducible refine at_list ?_); go_wp2_with (fail); first | refine behind_store (t := 19) (by decide) ?_ | refine behind (by with_reducible repeat (first | exact zq1 _ | assumption | refine zq2 ?_ | refine zq5 ?_ _ | refine zq6 ?_ _ | refine zq7 ?_ | refine zq8 ?_ (by assumption))) ?_))
   go_wp2
   go_ret
   exact ⟨rfl, by repeat (first | with_reducible (first | exact zq1 _ | assumption | refine zq2 ?_ | refine zq4 ?_ ?_ _ | refine zq5 ?_ _ | refine zq6 ?_ _ | refine zq7 ?_ | refine zq8 ?_ (by assumption)) | (simp only [zq10]; omega) | (simp; done) | (simp; omega))⟩
  ·have t1 : decide (d < 0) = false := by simpa using hneg
   by_cases hl : n = -9223372036854775808
   ·have hE : chkE n d = 13 := by simp [chkE, hd, hl]
    rw [hE]
    subst hl
    clear hE hd
    go_enter Tryz.func112, Tryz.ntmps112
    go_wp2_with fail
    refine wp_opaque (fun w0 hb0 => ?_)
    obtain ⟨c0, f0, z1⟩ := own1 hb0
    refine wp_region_plan 19 (.one [0, 1, 2, 3, 4, 5, 6, 7, 8, 9, 10, 12, 13] 11 (.one [] 14 (.one [] 15 (.done [16, 17, 18])))) (by kernel_rfl) (by kernel_rfl) (fun _ _ d _ _ h => by cases d <;> exact h) ?_
    repeat' (first
     | ((first | refine plan_done (fun K hK => ?_) | refine plan_one (by rfl) (fun K hK => ?_)); (first | (simp only [zq9]; repeat (go_big_quiet_step (fail))) | simp only [pick_nil]); refine wpQuiet_nil (hK _ ?_); clear hK K)
     | ((with_reducible refine at_list ?_); go_wp2_with (fail); first | refine behind_store (t := 19) (by decide) ?_ | refine behind (by with_reducible repeat (first | exact zq1 _ | assumption | refine zq2 ?_ | refine zq5 ?_ _ | refine zq6 ?_ _ | refine zq7 ?_ | refine zq8 ?_ (by assumption))) ?_))
    go_wp2
    go_ret
    exact ⟨rfl, by repeat (first | with_reducible (first | exact zq1 _ | assumption | refine zq2 ?_ | refine zq4 ?_ ?_ _ | refine zq5 ?_ _ | refine zq6 ?_ _ | refine zq7 ?_ | refine zq8 ?_ (by assumption)) | (simp only [zq10]; omega) | (simp; done) | (simp; omega))⟩
   ·have t2 : (n == -9223372036854775808) = false := by simpa using hl
    have hE : chkE n d = if gcdI n.natAbs d.natAbs != 1 then 13 else 0 := by simp [chkE, hd, hneg, hl]
    have g1 := gcd_bd n.natAbs d.natAbs
    generalize hG : gcdI n.natAbs d.natAbs = G at *
    have HG := Lib.hid hG
    clear hG
    by_cases hg : G = 1
    ·subst hg
     simp at hE
     rw [hE]
     clear hE hd hl
     go_enter Tryz.func112, Tryz.ntmps112
     go_wp2_with fail
     refine wp_opaque (fun w0 hb0 => ?_)
     obtain ⟨c0, f0, z1⟩ := own1 hb0
     refine wp_region_plan 19 (.one [0, 1, 2, 3, 4, 5, 6, 7, 8, 9, 10, 12, 13] 11 (.one [] 14 (.one [] 15 (.done [16, 17, 18])))) (by kernel_rfl) (by kernel_rfl) (fun _ _ d _ _ h => by cases d <;> exact h) ?_
     repeat' (first
      | ((first | refine plan_done (fun K hK => ?_) | refine plan_one (by rfl) (fun K hK => ?_)); (first | (simp only [zq9]; repeat (go_big_quiet_step (fail))) | simp only [pick_nil]); refine wpQuiet_nil (hK _ ?_); clear hK K)
      | ((with_reducible refine at_list ?_); go_wp2_with (first | (go_at_call 161; refine (abs_any _ _ (by omega) (by omega)).mono ?_; rintro e w' ⟨rfl, rfl⟩) | (go_at_call 160; refine (common_any _ _ _ (by omega) (by omega) (by omega) (by omega)).mono ?_; rw [HG.out]; rintro e w1 ⟨rfl, hb1⟩; obtain ⟨hc, hf⟩ := bcell hb1; have hz := Later.size hb1; (try simp only [World.size_alloc, World.size_drew, World.heap_drewN, World.size_setCell] at hz))); first | refine behind_store (t := 19) (by decide) ?_ | refine behind (by with_reducible repeat (first | exact zq1 _ | assumption | refine zq2 ?_ | refine zq5 ?_ _ | refine zq6 ?_ _ | refine zq7 ?_ | refine zq8 ?_ (by assumption))) ?_))
     go_wp2
     go_ret
     exact ⟨rfl, by repeat (first | with_reducible (first | exact zq1 _ | assumption | refine zq2 ?_ | refine zq4 ?_ ?_ _ | refine zq5 ?_ _ | refine zq6 ?_ _ | refine zq7 ?_ | refine zq8 ?_ (by assumption)) | (simp only [zq10]; omega) | (simp; done) | (simp; omega))⟩
    ·have t3 : (G != 1) = true := by simpa using hg
     simp only [t3, if_true] at hE
     rw [hE]
     clear hE hd hg hl
     go_enter Tryz.func112, Tryz.ntmps112
     go_wp2_with fail
     refine wp_opaque (fun w0 hb0 => ?_)
     obtain ⟨c0, f0, z1⟩ := own1 hb0
     refine wp_region_plan 19 (.one [0, 1, 2, 3, 4, 5, 6, 7, 8, 9, 10, 12, 13] 11 (.one [] 14 (.one [] 15 (.done [16, 17, 18])))) (by kernel_rfl) (by kernel_rfl) (fun _ _ d _ _ h => by cases d <;> exact h) ?_
     repeat' (first
      | ((first | refine plan_done (fun K hK => ?_) | refine plan_one (by rfl) (fun K hK => ?_)); (first | (simp only [zq9]; repeat (go_big_quiet_step (fail))) | simp only [pick_nil]); refine wpQuiet_nil (hK _ ?_); clear hK K)
      | ((with_reducible refine at_list ?_); go_wp2_with (first | (go_at_call 161; refine (abs_any _ _ (by omega) (by omega)).mono ?_; rintro e w' ⟨rfl, rfl⟩) | (go_at_call 160; refine (common_any _ _ _ (by omega) (by omega) (by omega) (by omega)).mono ?_; rw [HG.out]; rintro e w1 ⟨rfl, hb1⟩; obtain ⟨hc, hf⟩ := bcell hb1; have hz := Later.size hb1; (try simp only [World.size_alloc, World.size_drew, World.heap_drewN, World.size_setCell] at hz))); first | refine behind_store (t := 19) (by decide) ?_ | refine behind (by with_reducible repeat (first | exact zq1 _ | assumption | refine zq2 ?_ | refine zq5 ?_ _ | refine zq6 ?_ _ | refine zq7 ?_ | refine zq8 ?_ (by assumption))) ?_))
     go_wp2
     go_ret
     exact ⟨rfl, by repeat (first | with_reducible (first | exact zq1 _ | assumption | refine zq2 ?_ | refine zq4 ?_ ?_ _ | refine zq5 ?_ _ | refine zq6 ?_ _ | refine zq7 ?_ | refine zq8 ?_ (by assumption)) | (simp only [zq10]; omega) | (simp; done) | (simp; omega))⟩
def nearQ (n d : Int) : Int := if d - n % d < n % d ∨ (d - n % d = n % d ∧ n / d % 2 = 1) then n / d + 1 else n / d
def roundI (n d : Int) : Int := if n < 0 then -nearQ n.natAbs d else nearQ n.natAbs d
theorem near_bd (n d : Int) (n0 : 0 ≤ n) (n1 : n ≤ 9223372036854775807) (d1 : 0 < d) : 0 ≤ n / d ∧ n / d ≤ 9223372036854775807 ∧ 0 ≤ nearQ n d ∧ nearQ n d ≤ 9223372036854775807 := by
 have h1 := Int.ediv_nonneg n0 (show 0 ≤ d by omega)
 have h2 := Int.ediv_le_self d n0
 refine ⟨h1, by omega, ?_, ?_⟩
 ·unfold nearQ; split <;> omega
 ·unfold nearQ
  split
  ·rename_i h
   have h3 := Int.emod_nonneg n (show d ≠ 0 by omega)
   have h4 := Int.emod_lt_of_pos n d1
   have h5 := Int.emod_add_mul_ediv n d
   have h6 : d ≠ 1 := by intro e; subst e; omega
   have h7 : 2 * (n / d) ≤ d * (n / d) := Int.mul_le_mul_of_nonneg_right (by omega) h1
   omega
  ·omega
set_option maxHeartbeats 1000000 in
theorem parts_one (n m d : Int) (w : World) (hm : m = 1) (n0 : 0 ≤ n) (n1 : n ≤ 9223372036854775807) (d1 : 0 < d) (d2 : d ≤ 9223372036854775807) :
  Calls Tryz.prog 190 #[.int .u64 n, .int .u64 m, .int .u64 d] w fun e w' => e = .returned (.tuple #[.int .u64 (n / d), .int .u64 (n % d), .bool true]) ∧ Later w w' := by
 subst hm
 have e1 : hi64 (n * 1) = 0 := by unfold hi64; omega
 have e2 : lo64 (n * 1) = n := by unfold lo64; omega
 have e3 : two64 0 n = n := by unfold two64; omega
 have H3 := Lib.hid e3
 clear e3
 go_enter Tryz.func190, Tryz.ntmps190
 go_wp2_with (first | (go_at_call 202; refine (mul64 _ _ _ (by omega) (by omega) (by omega) (by omega)).mono ?_; rw [e1, e2]; rintro e w' ⟨rfl, rfl⟩) | (go_at_call 203; refine (div64 _ _ _ _ (by omega) (by omega) (by omega) (by omega) (by omega)).mono ?_; rw [H3.out]; rintro e w' ⟨rfl, hb⟩))
 go_ret3
 exact ⟨rfl, by repeat (first | with_reducible (first | exact zq1 _ | assumption | refine zq2 ?_ | refine zq4 ?_ ?_ _ | refine zq5 ?_ _ | refine zq6 ?_ _ | refine zq7 ?_ | refine zq8 ?_ (by assumption)) | (simp only [zq10]; omega) | (simp; done) | (simp; omega))⟩
set_option maxHeartbeats 1000000 in
theorem signed_fits (s : Bool) (n : Int) (w : World) (n0 : 0 ≤ n) (n1 : n ≤ 9223372036854775807) :
  Calls Tryz.prog 191 #[.bool s, .int .u64 n] w fun e w' => e = .returned (.tuple #[.int .i64 (signI s n), .int .i64 0]) ∧ Later w w' := by
 have t1 : decide (n ≤ 9223372036854775808) = true := by simp; omega
 have t2 : decide (n < 9223372036854775808) = true := by simp; omega
 cases s
 ·go_enter Tryz.func191, Tryz.ntmps191
  go_wp2
  go_ret2
  exact ⟨rfl, by repeat (first | with_reducible (first | exact zq1 _ | assumption | refine zq2 ?_ | refine zq4 ?_ ?_ _ | refine zq5 ?_ _ | refine zq6 ?_ _ | refine zq7 ?_ | refine zq8 ?_ (by assumption)) | (simp only [zq10]; omega) | (simp; done) | (simp; omega))⟩
 ·have e1 : IntKind.i64.wrap (IntKind.u64.wrap (-n)) = -n := by simp only [wrap_u64, IntKind.wrap_i64]; omega
  go_enter Tryz.func191, Tryz.ntmps191
  go_wp2
  go_ret2
  exact ⟨rfl, by repeat (first | with_reducible (first | exact zq1 _ | assumption | refine zq2 ?_ | refine zq4 ?_ ?_ _ | refine zq5 ?_ _ | refine zq6 ?_ _ | refine zq7 ?_ | refine zq8 ?_ (by assumption)) | (simp only [zq10]; omega) | (simp; done) | (simp; omega))⟩
set_option maxHeartbeats 1000000 in
theorem muldiv_core (n d q r Q : Int) (s : Bool) (w : World) (n1 : -9223372036854775808 < n) (n2 : n ≤ 9223372036854775807) (d1 : 0 < d) (d2 : d ≤ 9223372036854775807)
  (hs : decide (n < 0) = s) (HP : Hid (∀ m w, m = 1 → Calls Tryz.prog 190 #[.int .u64 n.natAbs, .int .u64 m, .int .u64 d] w fun e w' => e = .returned (.tuple #[.int .u64 q, .int .u64 r, .bool true]) ∧ Later w w'))
  (q0 : 0 ≤ q) (q1 : q ≤ 9223372036854775807) (r0 : 0 ≤ r) (r1 : r < d) (Q0 : 0 ≤ Q) (Q1 : Q ≤ 9223372036854775807) (ha : bits BinOp.and IntKind.u64 q 1 = q % 2)
  (hQ : Q = if d - r < r ∨ (d - r = r ∧ q % 2 = 1) then q + 1 else q) :
  Calls Tryz.prog 171 #[.int .i64 n, .int .i64 1, .int .i64 d] w fun e w' => e = .returned (.tuple #[.int .i64 (signI s Q), .int .i64 0]) ∧ Later w w' := by
 have hdn : (d.natAbs : Int) = d := by omega
 by_cases c1 : d - r < r
 ·have hQ' : Q = q + 1 := by rw [hQ, if_pos (.inl c1)]
  subst hQ'
  clear hQ
  have t0 : (q + 1 == 0) = false := by simp; omega
  go_enter Tryz.func171, Tryz.ntmps171
  go_wp2_with (first | (go_at_call 189; refine (amount_abs _ _ (by omega) (by omega)).mono ?_; rintro e w' ⟨rfl, rfl⟩) | (go_at_call 190; refine (HP.out _ _ (by decide)).mono ?_; rintro e w' ⟨rfl, hb⟩) | (go_at_call 191; refine (signed_fits _ _ _ (by omega) (by omega)).mono ?_; rintro e w' ⟨rfl, hb2⟩))
  go_ret2
  exact ⟨by simp [show decide (d < 0) = false by simp; omega], by repeat (first | with_reducible (first | exact zq1 _ | assumption | refine zq2 ?_ | refine zq4 ?_ ?_ _ | refine zq5 ?_ _ | refine zq6 ?_ _ | refine zq7 ?_ | refine zq8 ?_ (by assumption)) | (simp only [zq10]; omega) | (simp; done) | (simp; omega))⟩
 ·have t1 : decide (d - r < r) = false := by simpa using c1
  by_cases c2 : d - r = r ∧ q % 2 = 1
  ·have hQ' : Q = q + 1 := by rw [hQ, if_pos (.inr c2)]
   obtain ⟨c3, c4⟩ := c2
   subst hQ'
   clear hQ c1
   have t0 : (q + 1 == 0) = false := by simp; omega
   have t2 : (r == d - r) = true := by simp; omega
   have t3 : (q % 2 == 1) = true := by simp; omega
   clear c3 c4
   go_enter Tryz.func171, Tryz.ntmps171
   go_wp2_with (first | (go_at_call 189; refine (amount_abs _ _ (by omega) (by omega)).mono ?_; rintro e w' ⟨rfl, rfl⟩) | (go_at_call 190; refine (HP.out _ _ (by decide)).mono ?_; rintro e w' ⟨rfl, hb⟩) | (go_at_call 191; refine (signed_fits _ _ _ (by omega) (by omega)).mono ?_; rintro e w' ⟨rfl, hb2⟩))
   go_ret2
   exact ⟨by simp [show decide (d < 0) = false by simp; omega], by repeat (first | with_reducible (first | exact zq1 _ | assumption | refine zq2 ?_ | refine zq4 ?_ ?_ _ | refine zq5 ?_ _ | refine zq6 ?_ _ | refine zq7 ?_ | refine zq8 ?_ (by assumption)) | (simp only [zq10]; omega) | (simp; done) | (simp; omega))⟩
  ·have hQ' : Q = q := by rw [hQ, if_neg (by intro h; exact h.elim c1 c2)]
   subst hQ'
   clear hQ c1
   by_cases c3 : d - r = r
   ·have t2 : (r == d - r) = true := by simp; omega
    have t3 : (Q % 2 == 1) = false := by simp; omega
    clear c2 c3
    go_enter Tryz.func171, Tryz.ntmps171
    go_wp2_with (first | (go_at_call 189; refine (amount_abs _ _ (by omega) (by omega)).mono ?_; rintro e w' ⟨rfl, rfl⟩) | (go_at_call 190; refine (HP.out _ _ (by decide)).mono ?_; rintro e w' ⟨rfl, hb⟩) | (go_at_call 191; refine (signed_fits _ _ _ (by omega) (by omega)).mono ?_; rintro e w' ⟨rfl, hb2⟩))
    go_ret2
    exact ⟨by simp [show decide (d < 0) = false by simp; omega], by repeat (first | with_reducible (first | exact zq1 _ | assumption | refine zq2 ?_ | refine zq4 ?_ ?_ _ | refine zq5 ?_ _ | refine zq6 ?_ _ | refine zq7 ?_ | refine zq8 ?_ (by assumption)) | (simp only [zq10]; omega) | (simp; done) | (simp; omega))⟩
   ·have t2 : (r == d - r) = false := by simp; omega
    clear c2 c3
    go_enter Tryz.func171, Tryz.ntmps171
    go_wp2_with (first | (go_at_call 189; refine (amount_abs _ _ (by omega) (by omega)).mono ?_; rintro e w' ⟨rfl, rfl⟩) | (go_at_call 190; refine (HP.out _ _ (by decide)).mono ?_; rintro e w' ⟨rfl, hb⟩) | (go_at_call 191; refine (signed_fits _ _ _ (by omega) (by omega)).mono ?_; rintro e w' ⟨rfl, hb2⟩))
    go_ret2
    exact ⟨by simp [show decide (d < 0) = false by simp; omega], by repeat (first | with_reducible (first | exact zq1 _ | assumption | refine zq2 ?_ | refine zq4 ?_ ?_ _ | refine zq5 ?_ _ | refine zq6 ?_ _ | refine zq7 ?_ | refine zq8 ?_ (by assumption)) | (simp only [zq10]; omega) | (simp; done) | (simp; omega))⟩
theorem muldiv_one (n d : Int) (w : World) (n1 : -9223372036854775808 < n) (n2 : n ≤ 9223372036854775807) (d1 : 0 < d) (d2 : d ≤ 9223372036854775807) :
  Calls Tryz.prog 171 #[.int .i64 n, .int .i64 1, .int .i64 d] w fun e w' => e = .returned (.tuple #[.int .i64 (roundI n d), .int .i64 0]) ∧ Later w w' := by
 obtain ⟨b0, b1, b2, b3⟩ := near_bd n.natAbs d (by omega) (by omega) d1
 have hR : roundI n d = signI (decide (n < 0)) (nearQ n.natAbs d) := by unfold roundI signI; by_cases h : n < 0 <;> simp [h]
 rw [hR]
 exact muldiv_core n d (n.natAbs / d) (n.natAbs % d) _ _ w n1 n2 d1 d2 rfl (Lib.hid fun m w hm => parts_one n.natAbs m d w hm (by omega) (by omega) d1 d2) b0 b1
  (Int.emod_nonneg _ (by omega)) (Int.emod_lt_of_pos _ d1) b2 b3 (and_one_u64 _ b0 (by omega)) rfl
end Go.Proofs.YtkjabiabeemfhaaGreatDoor
end
