/- Of, Neg, Round, Compare, by their walks -/
import Derived.Test.YtkpadahpepeaoaaDoorJd
import Derived.Deep.DeepCutAuto
set_option linter.all false
namespace Go.Proofs.YtkpadahpepeaoaaDoor
open Go.RowKit
set_option maxRecDepth 100000

theorem of_red (num den : Int) (hd : den ≠ 0) (g A D : Int) (hg : gcdI num.natAbs den.natAbs = g) (eA : (num.natAbs : Int) / g = A) (eD : (den.natAbs : Int) / g = D) :
    0 < g ∧ 0 ≤ A ∧ A ≤ num.natAbs ∧ 0 < D ∧ D ≤ den.natAbs ∧
    (A < 9223372036854775808 → D < 9223372036854775808 → rN num den = signI (sgn num den) A ∧ rD num den = D ∧ rE num den = 0) ∧ (¬ (A < 9223372036854775808 ∧ D < 9223372036854775808) → rN num den = 0 ∧ rD num den = 0 ∧ rE num den = 11) := by
  have gd := gcdI_dvd num.natAbs den.natAbs
  have g0 : 0 < g := by
    have := Int.gcd_pos_of_ne_zero_right num.natAbs (show (den.natAbs : Int) ≠ 0 by omega)
    rw [← hg]; unfold gcdI; omega
  have hgn : Nat.gcd num.natAbs den.natAbs = g.natAbs := by have := hg; unfold gcdI Int.gcd at this; simp at this; omega
  rw [hg] at gd
  have fA : (num.natAbs : Int) = g * A := by rw [← eA]; exact (Int.mul_ediv_cancel' gd.1).symm
  have fD : (den.natAbs : Int) = g * D := by rw [← eD]; exact (Int.mul_ediv_cancel' gd.2).symm
  have A0 : 0 ≤ A := by rw [← eA]; exact Int.ediv_nonneg (by omega) (by omega)
  have A1 : A ≤ num.natAbs := by rw [← eA]; exact Int.ediv_le_self _ (by omega)
  have rd := ediv_range (show (0 : Int) < den.natAbs by omega) gd.2 g0
  rw [eD] at rd
  have nA : num.natAbs = g.natAbs * A.natAbs := by rw [← Int.natAbs_mul, ← fA]; rfl
  have nD : den.natAbs = g.natAbs * D.natAbs := by rw [← Int.natAbs_mul, ← fD]; rfl
  have cAD : Nat.Coprime A.natAbs D.natAbs := by
    have := hgn; rw [nA, nD, Nat.gcd_mul_left] at this
    exact Nat.eq_of_mul_eq_mul_left (show 0 < g.natAbs by omega) (by omega)
  have co : ∀ s, Nat.Coprime (signI s A).natAbs D.natAbs := fun s => by rw [signI_abs]; exact cAD
  refine ⟨g0, A0, A1, by omega, rd.2, ?_⟩
  have key : ∀ n d : Int, n.natAbs = num.natAbs → d.natAbs = den.natAbs → 0 < d → (A < 9223372036854775808 → D < 9223372036854775808 → rN n d = signI (decide (n < 0)) A ∧ rD n d = D ∧ rE n d = 0) ∧ (¬ (A < 9223372036854775808 ∧ D < 9223372036854775808) → rN n d = 0 ∧ rD n d = 0 ∧ rE n d = 11) := by
    intro n d hn hdd hp
    have E1 : n = g * signI (decide (n < 0)) A := by
      unfold signI
      by_cases h : n < 0
      · simp only [h, decide_true, if_true]; rw [Int.mul_neg, ← fA]; omega
      · simp only [h, decide_false]; rw [if_neg (by decide), ← fA]; omega
    have R := r_of g0 (show 0 < D by omega) E1 (show d = g * D by rw [← fD]; omega) (co _)
    refine ⟨fun a b => R.1 (by rw [signI_abs]; omega) b, fun h => R.2 (fun hx => h ⟨by have := hx.1; rw [signI_abs] at this; omega, hx.2⟩)⟩
  by_cases hp : 0 < den
  · have := key num den rfl rfl hp
    rwa [show sgn num den = decide (num < 0) by unfold sgn; simp [show ¬ den < 0 by omega]]
  · have := key (-num) (-den) (by omega) (by omega) (by omega)
    have R := r_neg num den
    rw [R.1, R.2.1, R.2.2] at this
    by_cases hz : num = 0
    · subst hz
      have hA0 : A = 0 := by rw [← eA]; simp
      subst hA0
      have s0 : ∀ s, signI s 0 = 0 := fun s => by unfold signI; split <;> rfl
      simp only [s0] at this ⊢
      exact this
    · rwa [show sgn num den = decide (-num < 0) by unfold sgn; rw [show decide (den < 0) = true by simp; omega]; by_cases h : num < 0 <;> simp [h] <;> omega]

set_option maxHeartbeats 1000000 in
theorem neg_bad (n d E : Int) (w : World) (n1 : -9223372036854775808 ≤ n) (n2 : n ≤ 9223372036854775807) (d1 : -9223372036854775808 ≤ d) (d2 : d ≤ 9223372036854775807) (HE : Hid (chkE n d = E)) (he : (E != 0) = true) :
    Calls Tryd.prog 69 #[.agg #[.int .i64 n, .int .i64 d]] w fun e w' => e = .returned (.tuple #[.agg #[.int .i64 0, .int .i64 0], .int .i64 E]) ∧ Later w w' := by
  go_enter Tryd.func69, Tryd.ntmps69
  go_wp2_with (go_at_call 42; refine (check_any _ _ _ n1 n2 d1 d2).mono ?_; rw [HE.out]; rintro e w1 ⟨rfl, hb1⟩; obtain ⟨c0, f0, c1, f1, z1⟩ := own2 hb1)
  exact bodyPost_ret (v := .tuple #[.agg #[.int .i64 0, .int .i64 0], .int .i64 E]) (by simp [results, Tryd.results69, go_sem, c1]) rfl ⟨rfl, by repeat (first | with_reducible exact Later.refl _ | with_reducible assumption | with_reducible refine Later.ofdrew ?_ | with_reducible refine Later.ofdrewN ?_ | with_reducible refine Later.setCell ?_ ?_ _ | with_reducible refine Later.alloc ?_ _ | with_reducible refine Later.drewN ?_ _ | with_reducible refine Later.drew ?_ | (with_reducible refine Later.trans ?_ (by assumption)) | (simp only [World.size_setCell, World.size_alloc, World.heap_drewN]; omega) | (simp; done) | (simp; omega))⟩

set_option maxHeartbeats 1000000 in
theorem neg_good (n d : Int) (w : World) (hV : Valid n d) :
    Calls Tryd.prog 69 #[.agg #[.int .i64 n, .int .i64 d]] w fun e w' => e = .returned (.tuple #[.agg #[.int .i64 (-n), .int .i64 d], .int .i64 0]) ∧ Later w w' := by
  have n0 := hV.n0; have n1 := hV.n1; have d0 := hV.d0; have d1 := hV.d1
  have HE := Lib.hid ((chk_valid (by omega) n1 d1).2 hV)
  go_enter Tryd.func69, Tryd.ntmps69
  go_wp2_with (go_at_call 42; refine (check_any _ _ _ (by omega) n1 (by omega) d1).mono ?_; rw [HE.out]; rintro e w1 ⟨rfl, hb1⟩; obtain ⟨c0, f0, c1, f1, z1⟩ := own2 hb1)
  exact bodyPost_ret (v := .tuple #[.agg #[.int .i64 (-n), .int .i64 d], .int .i64 0]) (by simp [results, Tryd.results69, go_sem, c1]) rfl ⟨rfl, by repeat (first | with_reducible exact Later.refl _ | with_reducible assumption | with_reducible refine Later.ofdrew ?_ | with_reducible refine Later.ofdrewN ?_ | with_reducible refine Later.setCell ?_ ?_ _ | with_reducible refine Later.alloc ?_ _ | with_reducible refine Later.drewN ?_ _ | with_reducible refine Later.drew ?_ | (with_reducible refine Later.trans ?_ (by assumption)) | (simp only [World.size_setCell, World.size_alloc, World.heap_drewN]; omega) | (simp; done) | (simp; omega))⟩

end Go.Proofs.YtkpadahpepeaoaaDoor

/- Compare, by its walk -/
namespace Go.Proofs.YtkpadahpepeaoaaDoor
open Go.RowKit
set_option maxRecDepth 100000

def cmpI (x y : Int) : Int := if x < y then -1 else if x = y then 0 else 1

set_option maxHeartbeats 1000000 in
theorem compare_bad (an ad bn bd E : Int) (w : World) (an1 : -9223372036854775808 ≤ an) (an2 : an ≤ 9223372036854775807) (ad1 : -9223372036854775808 ≤ ad) (ad2 : ad ≤ 9223372036854775807)
    (bn1 : -9223372036854775808 ≤ bn) (bn2 : bn ≤ 9223372036854775807) (bd1 : -9223372036854775808 ≤ bd) (bd2 : bd ≤ 9223372036854775807) (HE : Hid (firstE an ad bn bd = E)) (he : (E != 0) = true) :
    Calls Tryd.prog 68 #[.agg #[.int .i64 an, .int .i64 ad], .agg #[.int .i64 bn, .int .i64 bd]] w fun e w' => e = .returned (.tuple #[.int .i64 0, .int .i64 E]) ∧ Later w w' := by
  go_enter Tryd.func68, Tryd.ntmps68
  go_wp2_with fail
  refine (first_any an ad bn bd _ _ an1 an2 ad1 ad2 bn1 bn2 bd1 bd2 (by simp) (fun i => by simp [go_sem])).mono ?_
  rw [HE.out]
  rintro e w1 ⟨rfl, hb1⟩
  go_wp2_with fail
  go_ret2
  exact ⟨rfl, by repeat (first | with_reducible exact Later.refl _ | with_reducible assumption | with_reducible refine Later.ofdrew ?_ | with_reducible refine Later.ofdrewN ?_ | with_reducible refine Later.setCell ?_ ?_ _ | with_reducible refine Later.alloc ?_ _ | with_reducible refine Later.drewN ?_ _ | with_reducible refine Later.drew ?_ | (with_reducible refine Later.trans ?_ (by assumption)) | (simp only [World.size_setCell, World.size_alloc, World.heap_drewN]; omega) | (simp; done) | (simp; omega))⟩

set_option maxHeartbeats 2000000 in
theorem compare_walk (an ad bn bd M c : Int) (S : Bool) (w : World) (an1 : -9223372036854775808 < an) (an2 : an ≤ 9223372036854775807) (ad1 : 0 < ad) (ad2 : ad ≤ 9223372036854775807)
    (bn1 : -9223372036854775808 < bn) (bn2 : bn ≤ 9223372036854775807) (bd1 : 0 < bd) (bd2 : bd ≤ 9223372036854775807) (HE : Hid (firstE an ad bn bd = 0))
    (HM : Hid (plusM (an.natAbs * bd.natAbs) (sgn an bd) (bn.natAbs * ad.natAbs) (sgn (-bn) ad) = M)) (HS : Hid (plusS (an.natAbs * bd.natAbs) (sgn an bd) (bn.natAbs * ad.natAbs) (sgn (-bn) ad) = S)) (M0 : 0 ≤ M) (M1 : M ≤ 170141183460469231731687303715884105727)
    (h0 : M = 0 → c = 0) (h1 : M ≠ 0 → S = true → c = -1) (h2 : M ≠ 0 → S = false → c = 1) :
    Calls Tryd.prog 68 #[.agg #[.int .i64 an, .int .i64 ad], .agg #[.int .i64 bn, .int .i64 bd]] w fun e w' => e = .returned (.tuple #[.int .i64 c, .int .i64 0]) ∧ Later w w' := by
  go_enter Tryd.func68, Tryd.ntmps68
  go_wp2_with fail
  refine (first_any an ad bn bd _ _ (by omega) an2 (by omega) ad2 (by omega) bn2 (by omega) bd2 (by simp) (fun i => by simp [go_sem])).mono ?_
  rw [HE.out]
  rintro e w1 ⟨rfl, hb1⟩
  obtain ⟨c0, f0, c1, f1, z1⟩ := own2 (Later.unalloc hb1)
  go_upto_region 4 with fail
  go_cut [7] (fun s7 wx => ∃ p : Nat, s7 = .pointer (some ⟨p, 0, none⟩) ∧ (∀ i, wx.cell? ⟨p, i, none⟩ = #[Value.int .u64 (hi64 M), .int .u64 (lo64 M), .bool S][i]?) ∧ Later w1 wx)
  case first =>
    refine wp_region_plan 13 (.two [0, 1, 2, 3, 5, 6, 7, 8, 9] 4 (.two [] 10 (.two [] 11 (.one [] 12 (.one [] 13 (.done []))) 12 (.one [] 11 (.one [] 13 (.done [])))) 12 (.one [] 10 (.one [] 11 (.one [] 13 (.done []))))) 12 (.one [] 4 (.one [] 10 (.one [] 11 (.one [] 13 (.done [])))))) (by kernel_rfl) (by kernel_rfl) (fun _ _ d _ _ h => by cases d <;> exact h) ?_
    repeat' (first
      | (refine plan_done (fun K hK => ?_); (first | (simp only [pick_cons, pick_nil, toList_some_append, List.getElem?_toArray, List.getElem?_cons_zero, List.getElem?_cons_succ]; repeat (go_big_quiet_step (fail))) | simp only [pick_nil]); refine wpQuiet_nil (hK _ ?_); clear hK K)
      | (refine plan_one (by rfl) (fun K hK => ?_); (first | (simp only [pick_cons, pick_nil, toList_some_append, List.getElem?_toArray, List.getElem?_cons_zero, List.getElem?_cons_succ]; repeat (go_big_quiet_step (fail))) | simp only [pick_nil]); refine wpQuiet_nil (hK _ ?_); clear hK K)
      | (refine plan_two (by rfl) (by rfl) (fun K hK => ?_); (first | (simp only [pick_cons, pick_nil, toList_some_append, List.getElem?_toArray, List.getElem?_cons_zero, List.getElem?_cons_succ]; repeat (go_big_quiet_step (fail))) | simp only [pick_nil]); refine wpQuiet_nil (hK _ ?_); clear hK K; refine ⟨?_, ?_⟩)
      | ((with_reducible refine at_list ?_); go_wp2_with (first | (go_at_call 82; refine (cross_any _ _ _ (by omega) (by omega) (by omega) (by omega)).mono ?_; rintro e w2 ⟨rfl, hb2⟩; obtain ⟨hc, hf⟩ := bcell hb2; have hz := Later.size hb2; (try simp only [World.size_alloc, World.size_drew, World.heap_drewN, World.size_setCell] at hz); (first | (with_reducible refine use_own1 hb2 ?_; intro oc of oz) | (with_reducible refine use_own1 (Later.undrew hb2) ?_; intro oc of oz) | skip); (repeat (first | (with_reducible refine use_of (Later.undrew hb2) ?_; intro hb2) | (with_reducible refine use_of (Later.undrewN hb2) ?_; intro hb2) | (with_reducible refine use_of (Later.unalloc hb2) ?_; intro hb2))); obtain ⟨hc, hf⟩ := bcell hb2; (try (refine use_of (fun i => (hc _ i (by omega)).trans (oc i)) ?_; clear oc; intro oc)); (try (refine use_of (fun i hi => (hf _ i (by omega)).trans (of i hi)) ?_; clear of; intro of))) | (go_at_call 83; refine (plus_any _ _ _ _ _ (mul_natAbs_nonneg _ _) (mul_natAbs_nonneg _ _) (mul_natAbs_le _ _ _ _ (by omega) (by omega) (by omega) (by omega))).mono ?_; rw [HM.out, HS.out]; rintro e w3 ⟨rfl, hb3⟩; obtain ⟨hc, hf⟩ := bcell hb3; have hz := Later.size hb3; (try simp only [World.size_alloc, World.size_drew, World.heap_drewN, World.size_setCell] at hz); (first | (with_reducible refine use_own1 hb3 ?_; intro oc of oz) | (with_reducible refine use_own1 (Later.undrew hb3) ?_; intro oc of oz) | skip); (repeat (first | (with_reducible refine use_of (Later.undrew hb3) ?_; intro hb3) | (with_reducible refine use_of (Later.undrewN hb3) ?_; intro hb3) | (with_reducible refine use_of (Later.unalloc hb3) ?_; intro hb3))); obtain ⟨hc, hf⟩ := bcell hb3; (try (refine use_of (fun i => (hc _ i (by omega)).trans (oc i)) ?_; clear oc; intro oc)); (try (refine use_of (fun i hi => (hf _ i (by omega)).trans (of i hi)) ?_; clear of; intro of)))); first | refine behind_store (t := 13) (by decide) ?_ | refine behind (by repeat (first | with_reducible exact Later.refl _ | with_reducible assumption | with_reducible refine Later.ofdrew ?_ | with_reducible refine Later.ofdrewN ?_ | with_reducible refine Later.alloc ?_ _ | with_reducible refine Later.drewN ?_ _ | with_reducible refine Later.drew ?_ | (with_reducible refine Later.trans ?_ (by assumption)))) ?_))
    all_goals
      go_wp2_with fail
      go_meet
      refine ⟨_, rfl, fun i => ?_, ?_⟩
      · first | (simp [go_sem]; done) | (match i with | 0 => (simp [go_sem, oc]; done) | 1 => (simp [go_sem, oc]; done) | 2 => (simp [go_sem, oc]; done) | j + 3 => (simp [go_sem, oc]; done))
      · repeat (first | with_reducible exact Later.refl _ | with_reducible assumption | with_reducible refine Later.ofdrew ?_ | with_reducible refine Later.ofdrewN ?_ | with_reducible refine Later.setCell ?_ ?_ _ | with_reducible refine Later.alloc ?_ _ | with_reducible refine Later.drewN ?_ _ | with_reducible refine Later.drew ?_ | (with_reducible refine Later.trans ?_ (by assumption)) | (simp only [World.size_setCell, World.size_alloc, World.heap_drewN]; omega) | (simp; done) | (simp; omega))
  case rest =>
    obtain ⟨p, rfl, oc, hl⟩ := hcut
    by_cases hz : M = 0
    · have hc := h0 hz
      subst hc
      have v1 : hi64 M = 0 := by subst hz; simp [hi64]
      have v2 : lo64 M = 0 := by subst hz; simp [lo64]
      clear h0 h1 h2 hz
      go_wp2_with fail
      go_ret2
      exact ⟨rfl, by repeat (first | with_reducible exact Later.refl _ | with_reducible assumption | with_reducible refine Later.ofdrew ?_ | with_reducible refine Later.ofdrewN ?_ | with_reducible refine Later.setCell ?_ ?_ _ | with_reducible refine Later.alloc ?_ _ | with_reducible refine Later.drewN ?_ _ | with_reducible refine Later.drew ?_ | (with_reducible refine Later.trans ?_ (by assumption)) | (simp only [World.size_setCell, World.size_alloc, World.heap_drewN]; omega) | (simp; done) | (simp; omega))⟩
    · have t := two_parts M
      have hne : ¬ (hi64 M = 0 ∧ lo64 M = 0) := by
        unfold two64 at t
        rintro ⟨o1, o2⟩
        rw [o1, o2] at t
        omega
      have hc : c = if S then -1 else 1 := by cases S <;> simp [h1 hz, h2 hz]
      clear h0 h1 h2 hz t
      by_cases hh : hi64 M = 0
      · have hl0 : (lo64 M == 0) = false := by simpa using fun h => hne ⟨hh, h⟩
        clear hne
        cases S
        · simp at hc; subst hc
          go_wp2_with fail
          go_ret2
          exact ⟨rfl, by repeat (first | with_reducible exact Later.refl _ | with_reducible assumption | with_reducible refine Later.ofdrew ?_ | with_reducible refine Later.ofdrewN ?_ | with_reducible refine Later.setCell ?_ ?_ _ | with_reducible refine Later.alloc ?_ _ | with_reducible refine Later.drewN ?_ _ | with_reducible refine Later.drew ?_ | (with_reducible refine Later.trans ?_ (by assumption)) | (simp only [World.size_setCell, World.size_alloc, World.heap_drewN]; omega) | (simp; done) | (simp; omega))⟩
        · simp at hc; subst hc
          go_wp2_with fail
          go_ret2
          exact ⟨rfl, by repeat (first | with_reducible exact Later.refl _ | with_reducible assumption | with_reducible refine Later.ofdrew ?_ | with_reducible refine Later.ofdrewN ?_ | with_reducible refine Later.setCell ?_ ?_ _ | with_reducible refine Later.alloc ?_ _ | with_reducible refine Later.drewN ?_ _ | with_reducible refine Later.drew ?_ | (with_reducible refine Later.trans ?_ (by assumption)) | (simp only [World.size_setCell, World.size_alloc, World.heap_drewN]; omega) | (simp; done) | (simp; omega))⟩
      · have hh0 : (hi64 M == 0) = false := by simpa using hh
        clear hne hh
        cases S
        · simp at hc; subst hc
          go_wp2_with fail
          go_ret2
          exact ⟨rfl, by repeat (first | with_reducible exact Later.refl _ | with_reducible assumption | with_reducible refine Later.ofdrew ?_ | with_reducible refine Later.ofdrewN ?_ | with_reducible refine Later.setCell ?_ ?_ _ | with_reducible refine Later.alloc ?_ _ | with_reducible refine Later.drewN ?_ _ | with_reducible refine Later.drew ?_ | (with_reducible refine Later.trans ?_ (by assumption)) | (simp only [World.size_setCell, World.size_alloc, World.heap_drewN]; omega) | (simp; done) | (simp; omega))⟩
        · simp at hc; subst hc
          go_wp2_with fail
          go_ret2
          exact ⟨rfl, by repeat (first | with_reducible exact Later.refl _ | with_reducible assumption | with_reducible refine Later.ofdrew ?_ | with_reducible refine Later.ofdrewN ?_ | with_reducible refine Later.setCell ?_ ?_ _ | with_reducible refine Later.alloc ?_ _ | with_reducible refine Later.drewN ?_ _ | with_reducible refine Later.drew ?_ | (with_reducible refine Later.trans ?_ (by assumption)) | (simp only [World.size_setCell, World.size_alloc, World.heap_drewN]; omega) | (simp; done) | (simp; omega))⟩

theorem compare_good (an ad bn bd : Int) (w : World) (hA : Valid an ad) (hB : Valid bn bd) :
    Calls Tryd.prog 68 #[.agg #[.int .i64 an, .int .i64 ad], .agg #[.int .i64 bn, .int .i64 bd]] w fun e w' => e = .returned (.tuple #[.int .i64 (cmpI (an * bd) (bn * ad)), .int .i64 0]) ∧ Later w w' := by
  have ad0 := hA.d0; have ad1 := hA.d1; have an0 := hA.n0; have an1 := hA.n1
  have bd0 := hB.d0; have bd1 := hB.d1; have bn0 := hB.n0; have bn1 := hB.n1
  obtain ⟨M, hM⟩ : ∃ M, plusM (an.natAbs * bd.natAbs) (sgn an bd) (bn.natAbs * ad.natAbs) (sgn (-bn) ad) = M := ⟨_, rfl⟩
  obtain ⟨S, hS⟩ : ∃ S, plusS (an.natAbs * bd.natAbs) (sgn an bd) (bn.natAbs * ad.natAbs) (sgn (-bn) ad) = S := ⟨_, rfl⟩
  have hs : signI S M = an * bd + -bn * ad := by rw [← hS, ← hM, plus_signed, sgn_mul, ← Int.natAbs_neg bn, sgn_mul]
  rw [Int.neg_mul] at hs
  have pb := plus_bd (sgn an bd) (sgn (-bn) ad) (mul_natAbs_nonneg an bd) (mul_natAbs_nonneg bn ad)
  rw [hM] at pb
  have hmul : (an.natAbs : Int) * bd.natAbs ≤ 9223372036854775807 * 9223372036854775807 := Int.mul_le_mul (by omega) (by omega) (by omega) (by omega)
  have hmul2 : (bn.natAbs : Int) * ad.natAbs ≤ 9223372036854775807 * 9223372036854775807 := Int.mul_le_mul (by omega) (by omega) (by omega) (by omega)
  generalize an * bd = x at *
  generalize bn * ad = y at *
  refine compare_walk an ad bn bd M _ S w an0 an1 ad0 ad1 bn0 bn1 bd0 bd1 (Lib.hid ((first_zero (by omega) an1 ad1 (by omega) bn1 bd1).2 ⟨hA, hB⟩)) (Lib.hid hM) (Lib.hid hS) pb.1 (by omega) ?_ ?_ ?_
  · intro h
    have h0 : signI S M = 0 := by rw [h]; unfold signI; split <;> rfl
    unfold cmpI; rw [if_neg (by omega), if_pos (by omega)]
  · intro h h'
    rw [h'] at hs
    simp only [signI, if_true] at hs
    unfold cmpI; rw [if_pos (by omega)]
  · intro h h'
    rw [h'] at hs
    simp [signI] at hs
    unfold cmpI; rw [if_neg (by omega), if_neg (by omega)]
end Go.Proofs.YtkpadahpepeaoaaDoor

/- plain arithmetic: what the laws on ratios say of numbers -/
namespace Go.Proofs.YtkpadahpepeaoaaDoor
open Go.RowKit
set_option maxRecDepth 100000

/-- Of a ratio that fits: it may be, and it is what it is made of. -/
theorem r_spec {n d : Int} (hd : 0 < d) (h : rE n d = 0) : ∃ k : Int, 0 < k ∧ n = k * rN n d ∧ d = k * rD n d ∧ Valid (rN n d) (rD n d) := by
  have g0 : 0 < gcdI n d := by
    unfold gcdI
    have := Int.gcd_pos_of_ne_zero_right n (show d ≠ 0 by omega)
    omega
  have gd := gcdI_dvd n d
  have e1 : rN n d = n / gcdI n d := by unfold rN redN; rw [if_pos h, if_neg (by omega)]
  have e2 : rD n d = d / gcdI n d := by unfold rD redD; rw [if_pos h]; congr 1; omega
  have f1 : n = gcdI n d * (n / gcdI n d) := (Int.mul_ediv_cancel' gd.1).symm
  have f2 : d = gcdI n d * (d / gcdI n d) := (Int.mul_ediv_cancel' gd.2).symm
  have dp := ediv_range hd gd.2 g0
  have hb : (n / gcdI n d).natAbs < 9223372036854775808 ∧ d / gcdI n d < 9223372036854775808 := by
    unfold rE at h
    rw [if_neg (by omega)] at h
    by_cases hc : (redN n d).natAbs < 9223372036854775808 ∧ redD n d < 9223372036854775808
    · unfold redN redD at hc
      rw [if_neg (by omega), show (d.natAbs : Int) = d by omega] at hc
      exact hc
    · rw [if_neg hc] at h; cases h
  refine ⟨gcdI n d, g0, by rw [e1]; exact f1, by rw [e2]; exact f2, ?_⟩
  rw [e1, e2]
  refine ⟨by omega, by omega, by omega, by omega, ?_⟩
  have hg : Nat.gcd n.natAbs d.natAbs = (gcdI n d).natAbs := by unfold gcdI Int.gcd; omega
  have := Nat.coprime_div_gcd_div_gcd (m := n.natAbs) (n := d.natAbs) (by omega)
  rw [hg] at this
  rwa [Int.natAbs_ediv_of_dvd gd.1, Int.natAbs_ediv_of_dvd gd.2]

theorem cancel_pos {a b c : Int} (h : 0 < a) (e : a * b = a * c) : b = c := Int.eq_of_mul_eq_mul_left (by omega) e

/-- Two ratios that may be and are one number are one. -/
theorem valid_unique {n d n' d' : Int} (h : Valid n d) (h' : Valid n' d') (e : n * d' = n' * d) : n = n' ∧ d = d' := by
  have hd := h.d0
  have hd' := h'.d0
  have a1 : d.natAbs ∣ d'.natAbs := by
    refine h.co.symm.dvd_of_dvd_mul_left (m := n.natAbs) ?_
    rw [← Int.natAbs_mul, e, Int.natAbs_mul]
    exact Nat.dvd_mul_left _ _
  have a2 : d'.natAbs ∣ d.natAbs := by
    refine h'.co.symm.dvd_of_dvd_mul_left (m := n'.natAbs) ?_
    rw [← Int.natAbs_mul, ← e, Int.natAbs_mul]
    exact Nat.dvd_mul_left _ _
  have a3 := Nat.dvd_antisymm a1 a2
  have a4 : d = d' := by omega
  subst a4
  refine ⟨?_, rfl⟩
  rw [Int.mul_comm n, Int.mul_comm n'] at e
  exact cancel_pos hd e

/-- A ratio that may be, met again out of another form of its number. -/
theorem valid_r {n d N D : Int} (h : Valid n d) (hD : 0 < D) (e : n * D = N * d) : rN N D = n ∧ rD N D = d ∧ rE N D = 0 := by
  have hd := h.d0
  have a1 : d.natAbs ∣ D.natAbs := by
    refine h.co.symm.dvd_of_dvd_mul_left (m := n.natAbs) ?_
    rw [← Int.natAbs_mul, e, Int.natAbs_mul]
    exact Nat.dvd_mul_left _ _
  have a2 : d ∣ D := Int.natAbs_dvd_natAbs.1 a1
  obtain ⟨k, hk⟩ := a2
  have hk0 : 0 < k := by rw [hk] at hD; exact pos_right hD hd
  have hN : N = k * n := by
    rw [hk] at e
    refine cancel_pos hd ?_
    grind
  have n0 := h.n0; have n1 := h.n1; have d1 := h.d1
  exact (r_of hk0 hd hN (by rw [hk, Int.mul_comm]) h.co).1 (by omega) (by omega)

theorem valid_r_neg {n d N D : Int} (h : Valid n d) (hD : D < 0) (e : n * D = N * d) : rN N D = n ∧ rD N D = d ∧ rE N D = 0 := by
  have := valid_r (N := -N) (D := -D) h (by omega) (by grind)
  have R := r_neg N D
  rw [R.1, R.2.1, R.2.2] at this
  exact this

theorem mul_pos' {a b : Int} (h : 0 < a) (h' : 0 < b) : 0 < a * b := Int.mul_pos h h'

theorem cmp_cases (x y : Int) : (x < y ∧ cmpI x y = -1 ∧ cmpI y x = 1) ∨ (x = y ∧ cmpI x y = 0 ∧ cmpI y x = 0) ∨ (y < x ∧ cmpI x y = 1 ∧ cmpI y x = -1) := by
  unfold cmpI
  rcases Int.lt_trichotomy x y with h | h | h
  · exact .inl ⟨h, by rw [if_pos h], by rw [if_neg (by omega), if_neg (by omega)]⟩
  · exact .inr (.inl ⟨h, by rw [if_neg (by omega), if_pos h], by rw [if_neg (by omega), if_pos h.symm]⟩)
  · exact .inr (.inr ⟨h, by rw [if_neg (by omega), if_neg (by omega)], by rw [if_pos h]⟩)

/-- The nearest number is no farther than a half. -/
theorem round_near (n d : Int) (hd : 0 < d) : 2 * (roundI n d * d) - d ≤ 2 * n ∧ 2 * n ≤ 2 * (roundI n d * d) + d := by
  have key : ∀ m : Int, 0 ≤ m → 2 * (nearQ m d * d) - d ≤ 2 * m ∧ 2 * m ≤ 2 * (nearQ m d * d) + d := by
    intro m hm
    have h3 := Int.emod_nonneg m (show d ≠ 0 by omega)
    have h4 := Int.emod_lt_of_pos m hd
    have h5 := Int.emod_add_mul_ediv m d
    have h6 : m / d * d = d * (m / d) := Int.mul_comm _ _
    unfold nearQ
    split
    · rw [Int.add_mul, Int.one_mul, h6]; omega
    · rw [h6]; omega
  unfold roundI
  split
  · have := key n.natAbs (by omega)
    rw [Int.neg_mul]; omega
  · have := key n.natAbs (by omega)
    omega

theorem round_mono {n d m e : Int} (hd : 0 < d) (he : 0 < e) (h : n * e < m * d) : roundI n d ≤ roundI m e := by
  have h1 := (round_near n d hd).1
  have h2 := (round_near m e he).2
  generalize roundI n d = q at *
  generalize roundI m e = q' at *
  by_cases hc : q ≤ q'
  · exact hc
  · exfalso
    have a1 : (2 * (q * d) - d) * e ≤ 2 * n * e := Int.mul_le_mul_of_nonneg_right h1 (by omega)
    have a2 : 2 * m * d ≤ (2 * (q' * e) + e) * d := Int.mul_le_mul_of_nonneg_right h2 (by omega)
    have a3 : (2 * (q * d) - d) * e = (2 * q - 1) * (d * e) := by grind
    have a4 : (2 * (q' * e) + e) * d = (2 * q' + 1) * (d * e) := by grind
    have a5 : 2 * n * e = 2 * (n * e) := by grind
    have a6 : 2 * m * d = 2 * (m * d) := by grind
    have a7 : (2 * q' + 1) * (d * e) ≤ (2 * q - 1) * (d * e) := Int.mul_le_mul_of_nonneg_right (by omega) (by have := Int.mul_pos hd he; omega)
    omega

/-- The sign of a number in lowest terms. -/
theorem sign_r {n d : Int} (hd : 0 < d) (h : rE n d = 0) : (rN n d < 0 ↔ n < 0) ∧ (rN n d = 0 ↔ n = 0) ∧ (0 < rN n d ↔ 0 < n) := by
  obtain ⟨k, hk, e1, _, _⟩ := r_spec hd h
  generalize rN n d = m at *
  subst e1
  refine ⟨⟨fun h => Int.mul_neg_of_pos_of_neg hk h, fun h => ?_⟩, ⟨fun h => by rw [h]; simp, fun h => ?_⟩, ⟨fun h => Int.mul_pos hk h, fun h => pos_right h hk⟩⟩
  · by_cases hm : m < 0
    · exact hm
    · have := Int.mul_nonneg (show 0 ≤ k by omega) (show 0 ≤ m by omega); omega
  · rcases Int.mul_eq_zero.1 h with h | h
    · omega
    · exact h

/-- What is less stays less, if something is added to both. -/
theorem cmp_add {an ad bn bd cn cd : Int} (hA : Valid an ad) (hB : Valid bn bd) (hC : Valid cn cd) (h1 : rE (an * cd + cn * ad) (ad * cd) = 0) (h2 : rE (bn * cd + cn * bd) (bd * cd) = 0) :
    cmpI (rN (an * cd + cn * ad) (ad * cd) * rD (bn * cd + cn * bd) (bd * cd)) (rN (bn * cd + cn * bd) (bd * cd) * rD (an * cd + cn * ad) (ad * cd)) = cmpI (an * bd) (bn * ad) := by
  have ha := hA.d0; have hb := hB.d0; have hc := hC.d0
  obtain ⟨k, hk, e1, e2, _⟩ := r_spec (mul_pos' ha hc) h1
  obtain ⟨k', hk', e3, e4, _⟩ := r_spec (mul_pos' hb hc) h2
  generalize rN (an * cd + cn * ad) (ad * cd) = p at *
  generalize rD (an * cd + cn * ad) (ad * cd) = q at *
  generalize rN (bn * cd + cn * bd) (bd * cd) = r at *
  generalize rD (bn * cd + cn * bd) (bd * cd) = s at *
  have E : k * k' * (p * s - r * q) = cd * cd * (an * bd - bn * ad) := by
    have : (an * cd + cn * ad) * (bd * cd) - (bn * cd + cn * bd) * (ad * cd) = cd * cd * (an * bd - bn * ad) := by grind
    rw [← this]
    grind
  have K := mul_pos' hk hk'
  have L := mul_pos' hc hc
  generalize k * k' = u at *
  generalize cd * cd = v at *
  generalize an * bd = x at *
  generalize bn * ad = y at *
  generalize p * s = x' at *
  generalize r * q = y' at *
  have s1 : x' - y' = 0 ↔ x - y = 0 := by
    constructor
    · intro h; rw [h, Int.mul_zero] at E; rcases Int.mul_eq_zero.1 E.symm with h | h <;> omega
    · intro h; rw [h, Int.mul_zero] at E; rcases Int.mul_eq_zero.1 E with h | h <;> omega
  have s2 : 0 < x' - y' ↔ 0 < x - y := by
    constructor
    · intro h; have := mul_pos' K h; rw [E] at this; exact pos_right this L
    · intro h; have := mul_pos' L h; rw [← E] at this; exact pos_right this K
  unfold cmpI
  rcases Int.lt_trichotomy x y with h | h | h
  · rw [if_pos (show x' < y' by omega), if_pos h]
  · rw [if_neg (show ¬ x' < y' by omega), if_pos (show x' = y' by omega), if_neg (show ¬ x < y by omega), if_pos h]
  · rw [if_neg (show ¬ x' < y' by omega), if_neg (show ¬ x' = y' by omega), if_neg (show ¬ x < y by omega), if_neg (show ¬ x = y by omega)]

theorem sub_back {an ad bn bd : Int} (hA : Valid an ad) (hB : Valid bn bd) (h : rE (an * bd + bn * ad) (ad * bd) = 0) :
    rN (rN (an * bd + bn * ad) (ad * bd) * bd + -bn * rD (an * bd + bn * ad) (ad * bd)) (rD (an * bd + bn * ad) (ad * bd) * bd) = an ∧ rD (rN (an * bd + bn * ad) (ad * bd) * bd + -bn * rD (an * bd + bn * ad) (ad * bd)) (rD (an * bd + bn * ad) (ad * bd) * bd) = ad ∧
    rE (rN (an * bd + bn * ad) (ad * bd) * bd + -bn * rD (an * bd + bn * ad) (ad * bd)) (rD (an * bd + bn * ad) (ad * bd) * bd) = 0 := by
  have ha := hA.d0; have hb := hB.d0
  obtain ⟨k, hk, e1, e2, V⟩ := r_spec (mul_pos' ha hb) h
  generalize rN (an * bd + bn * ad) (ad * bd) = p at *
  generalize rD (an * bd + bn * ad) (ad * bd) = q at *
  refine valid_r hA (mul_pos' V.d0 hb) ?_
  refine cancel_pos hk ?_
  grind

theorem div_back {an ad bn bd : Int} (hA : Valid an ad) (hB : Valid bn bd) (hb0 : bn ≠ 0) (h : rE (an * bn) (ad * bd) = 0) :
    rN (rN (an * bn) (ad * bd) * bd) (rD (an * bn) (ad * bd) * bn) = an ∧ rD (rN (an * bn) (ad * bd) * bd) (rD (an * bn) (ad * bd) * bn) = ad ∧ rE (rN (an * bn) (ad * bd) * bd) (rD (an * bn) (ad * bd) * bn) = 0 := by
  have ha := hA.d0; have hb := hB.d0
  obtain ⟨k, hk, e1, e2, V⟩ := r_spec (mul_pos' ha hb) h
  generalize rN (an * bn) (ad * bd) = p at *
  generalize rD (an * bn) (ad * bd) = q at *
  have vq := V.d0
  have E : an * (q * bn) = p * bd * ad := by
    refine cancel_pos hk ?_
    grind
  by_cases hp : 0 < bn
  · exact valid_r hA (mul_pos' vq hp) E
  · exact valid_r_neg hA (by have := mul_pos' vq (show 0 < -bn by omega); rw [Int.mul_neg] at this; omega) E

/-- A product of a sum is the sum of products, where all fit. -/
theorem distr {an ad bn bd cn cd : Int} (hA : Valid an ad) (hB : Valid bn bd) (hC : Valid cn cd) (he : rE (an * bd + bn * ad) (ad * bd) = 0)
    {sN sD yN yD zN zD : Int} (hsN : sN = rN (an * bd + bn * ad) (ad * bd)) (hsD : sD = rD (an * bd + bn * ad) (ad * bd)) (hyN : yN = rN (an * cn) (ad * cd)) (hyD : yD = rD (an * cn) (ad * cd)) (hzN : zN = rN (bn * cn) (bd * cd)) (hzD : zD = rD (bn * cn) (bd * cd))
    (hi : rE (sN * cn) (sD * cd) = 0) (hj : rE (an * cn) (ad * cd) = 0) (hk : rE (bn * cn) (bd * cd) = 0) (hl : rE (yN * zD + zN * yD) (yD * zD) = 0) :
    rN (sN * cn) (sD * cd) = rN (yN * zD + zN * yD) (yD * zD) ∧ rD (sN * cn) (sD * cd) = rD (yN * zD + zN * yD) (yD * zD) := by
  have ha := hA.d0; have hb := hB.d0; have hc := hC.d0
  obtain ⟨k1, p1, a1, b1, V1⟩ := r_spec (mul_pos' ha hb) he
  obtain ⟨k2, p2, a2, b2, V2⟩ := r_spec (mul_pos' ha hc) hj
  obtain ⟨k3, p3, a3, b3, V3⟩ := r_spec (mul_pos' hb hc) hk
  rw [← hsN, ← hsD] at V1; rw [← hsN] at a1; rw [← hsD] at b1
  rw [← hyN, ← hyD] at V2; rw [← hyN] at a2; rw [← hyD] at b2
  rw [← hzN, ← hzD] at V3; rw [← hzN] at a3; rw [← hzD] at b3
  obtain ⟨k4, p4, a4, b4, V4⟩ := r_spec (mul_pos' V1.d0 hc) hi
  obtain ⟨k5, p5, a5, b5, V5⟩ := r_spec (mul_pos' V2.d0 V3.d0) hl
  clear hsN hsD hyN hyD hzN hzD he hi hj hk hl
  generalize rN (sN * cn) (sD * cd) = x at *
  generalize rD (sN * cn) (sD * cd) = xd at *
  generalize rN (yN * zD + zN * yD) (yD * zD) = u at *
  generalize rD (yN * zD + zN * yD) (yD * zD) = ud at *
  refine valid_unique V4 V5 ?_
  -- s = a + b, y = a c, z = b c, x = s c, u = y + z
  have hs : sN * (ad * bd) = (an * bd + bn * ad) * sD := cancel_pos p1 (by grind)
  have hy : yN * (ad * cd) = an * cn * yD := cancel_pos p2 (by grind)
  have hz : zN * (bd * cd) = bn * cn * zD := cancel_pos p3 (by grind)
  have hx : x * (sD * cd) = sN * cn * xd := cancel_pos p4 (by grind)
  have hu : u * (yD * zD) = (yN * zD + zN * yD) * ud := cancel_pos p5 (by grind)
  have P := mul_pos' (mul_pos' (mul_pos' V1.d0 hc) (mul_pos' V2.d0 V3.d0)) (mul_pos' (mul_pos' ha hb) hc)
  refine cancel_pos P ?_
  have g1 : sD * cd * (yD * zD) * (ad * bd * cd) * (x * ud) = sN * cn * xd * ud * (yD * zD) * (ad * bd * cd) := by grind
  have g2 : sD * cd * (yD * zD) * (ad * bd * cd) * (u * xd) = (yN * zD + zN * yD) * ud * xd * (sD * cd) * (ad * bd * cd) := by grind
  rw [g1, g2]
  grind

/-- Sums do not hang on how they are put together. -/
theorem assoc {an ad bn bd cn cd : Int} (hA : Valid an ad) (hB : Valid bn bd) (hC : Valid cn cd) (he : rE (an * bd + bn * ad) (ad * bd) = 0) (hm : rE (bn * cd + cn * bd) (bd * cd) = 0)
    {sN sD vN vD : Int} (hsN : sN = rN (an * bd + bn * ad) (ad * bd)) (hsD : sD = rD (an * bd + bn * ad) (ad * bd)) (hvN : vN = rN (bn * cd + cn * bd) (bd * cd)) (hvD : vD = rD (bn * cd + cn * bd) (bd * cd))
    (hn : rE (sN * cd + cn * sD) (sD * cd) = 0) (ho : rE (an * vD + vN * ad) (ad * vD) = 0) :
    rN (sN * cd + cn * sD) (sD * cd) = rN (an * vD + vN * ad) (ad * vD) ∧ rD (sN * cd + cn * sD) (sD * cd) = rD (an * vD + vN * ad) (ad * vD) := by
  have ha := hA.d0; have hb := hB.d0; have hc := hC.d0
  obtain ⟨k1, p1, a1, b1, V1⟩ := r_spec (mul_pos' ha hb) he
  obtain ⟨k2, p2, a2, b2, V2⟩ := r_spec (mul_pos' hb hc) hm
  rw [← hsN, ← hsD] at V1; rw [← hsN] at a1; rw [← hsD] at b1
  rw [← hvN, ← hvD] at V2; rw [← hvN] at a2; rw [← hvD] at b2
  obtain ⟨k4, p4, a4, b4, V4⟩ := r_spec (mul_pos' V1.d0 hc) hn
  obtain ⟨k5, p5, a5, b5, V5⟩ := r_spec (mul_pos' ha V2.d0) ho
  clear hsN hsD hvN hvD he hm hn ho
  generalize rN (sN * cd + cn * sD) (sD * cd) = x at *
  generalize rD (sN * cd + cn * sD) (sD * cd) = xd at *
  generalize rN (an * vD + vN * ad) (ad * vD) = u at *
  generalize rD (an * vD + vN * ad) (ad * vD) = ud at *
  refine valid_unique V4 V5 ?_
  have hs : sN * (ad * bd) = (an * bd + bn * ad) * sD := cancel_pos p1 (by grind)
  have hv : vN * (bd * cd) = (bn * cd + cn * bd) * vD := cancel_pos p2 (by grind)
  have hx : x * (sD * cd) = (sN * cd + cn * sD) * xd := cancel_pos p4 (by grind)
  have hu : u * (ad * vD) = (an * vD + vN * ad) * ud := cancel_pos p5 (by grind)
  have P := mul_pos' (mul_pos' (mul_pos' V1.d0 hc) (mul_pos' ha V2.d0)) (mul_pos' (mul_pos' ha hb) hc)
  refine cancel_pos P ?_
  have g1 : sD * cd * (ad * vD) * (ad * bd * cd) * (x * ud) = (sN * cd + cn * sD) * xd * ud * (ad * vD) * (ad * bd * cd) := by grind
  have g2 : sD * cd * (ad * vD) * (ad * bd * cd) * (u * xd) = (an * vD + vN * ad) * ud * xd * (sD * cd) * (ad * bd * cd) := by grind
  rw [g1, g2]
  grind
end Go.Proofs.YtkpadahpepeaoaaDoor

/- the contracts of ratio's functions at any two ratios -/
namespace Go.Proofs.YtkpadahpepeaoaaDoor
open Go.RowKit
set_option maxRecDepth 100000

/-- What stands if no error came before; else 0. -/
def okI (F x : Int) : Int := if F = 0 then x else 0
/-- The first error of two. -/
def orI (F x : Int) : Int := if F = 0 then x else F
theorem okI_zero (x : Int) : okI 0 x = x := by unfold okI; rw [if_pos rfl]
theorem orI_zero (x : Int) : orI 0 x = x := by unfold orI; rw [if_pos rfl]
theorem okI_ne {F : Int} (h : F ≠ 0) (x : Int) : okI F x = 0 := by unfold okI; rw [if_neg h]
theorem orI_ne {F : Int} (h : F ≠ 0) (x : Int) : orI F x = F := by unfold orI; rw [if_neg h]
theorem orI_eq_zero {F x : Int} (h : orI F x = 0) : F = 0 ∧ x = 0 := by
  unfold orI at h
  split at h
  · exact ⟨‹_›, h⟩
  · exact absurd h ‹_›

theorem Add_total (an ad bn bd : Int) (w : World) (an1 : -9223372036854775808 ≤ an ∧ an ≤ 9223372036854775807) (ad1 : -9223372036854775808 ≤ ad ∧ ad ≤ 9223372036854775807)
    (bn1 : -9223372036854775808 ≤ bn ∧ bn ≤ 9223372036854775807) (bd1 : -9223372036854775808 ≤ bd ∧ bd ≤ 9223372036854775807) :
    Calls Tryd.prog 70 #[.agg #[.int .i64 an, .int .i64 ad], .agg #[.int .i64 bn, .int .i64 bd]] w fun e' w' =>
      e' = .returned (.tuple #[.agg #[.int .i64 (okI (firstE an ad bn bd) (rN (an * bd + bn * ad) (ad * bd))), .int .i64 (okI (firstE an ad bn bd) (rD (an * bd + bn * ad) (ad * bd)))], .int .i64 (orI (firstE an ad bn bd) (rE (an * bd + bn * ad) (ad * bd)))]) ∧ Later w w' := by
  by_cases h : firstE an ad bn bd = 0
  · obtain ⟨hA, hB⟩ := (first_zero an1.1 an1.2 ad1.2 bn1.1 bn1.2 bd1.2).1 h
    rw [h, okI_zero, okI_zero, orI_zero]
    exact Add_good an ad bn bd w hA hB
  · rw [okI_ne h, okI_ne h, orI_ne h]
    exact Add_bad an ad bn bd _ w an1.1 an1.2 ad1.1 ad1.2 bn1.1 bn1.2 bd1.1 bd1.2 rfl h

theorem Mul_total (an ad bn bd : Int) (w : World) (an1 : -9223372036854775808 ≤ an ∧ an ≤ 9223372036854775807) (ad1 : -9223372036854775808 ≤ ad ∧ ad ≤ 9223372036854775807)
    (bn1 : -9223372036854775808 ≤ bn ∧ bn ≤ 9223372036854775807) (bd1 : -9223372036854775808 ≤ bd ∧ bd ≤ 9223372036854775807) :
    Calls Tryd.prog 72 #[.agg #[.int .i64 an, .int .i64 ad], .agg #[.int .i64 bn, .int .i64 bd]] w fun e' w' =>
      e' = .returned (.tuple #[.agg #[.int .i64 (okI (firstE an ad bn bd) (rN (an * bn) (ad * bd))), .int .i64 (okI (firstE an ad bn bd) (rD (an * bn) (ad * bd)))], .int .i64 (orI (firstE an ad bn bd) (rE (an * bn) (ad * bd)))]) ∧ Later w w' := by
  by_cases h : firstE an ad bn bd = 0
  · obtain ⟨hA, hB⟩ := (first_zero an1.1 an1.2 ad1.2 bn1.1 bn1.2 bd1.2).1 h
    rw [h, okI_zero, okI_zero, orI_zero]
    exact Mul_good an ad bn bd w hA hB
  · rw [okI_ne h, okI_ne h, orI_ne h]
    exact Mul_bad an ad bn bd _ w an1.1 an1.2 ad1.1 ad1.2 bn1.1 bn1.2 bd1.1 bd1.2 rfl h

theorem Sub_total (an ad bn bd : Int) (w : World) (an1 : -9223372036854775808 ≤ an ∧ an ≤ 9223372036854775807) (ad1 : -9223372036854775808 ≤ ad ∧ ad ≤ 9223372036854775807)
    (bn1 : -9223372036854775808 ≤ bn ∧ bn ≤ 9223372036854775807) (bd1 : -9223372036854775808 ≤ bd ∧ bd ≤ 9223372036854775807) :
    Calls Tryd.prog 71 #[.agg #[.int .i64 an, .int .i64 ad], .agg #[.int .i64 bn, .int .i64 bd]] w fun e' w' =>
      e' = .returned (.tuple #[.agg #[.int .i64 (okI (firstE an ad bn bd) (rN (an * bd + -bn * ad) (ad * bd))), .int .i64 (okI (firstE an ad bn bd) (rD (an * bd + -bn * ad) (ad * bd)))], .int .i64 (orI (firstE an ad bn bd) (rE (an * bd + -bn * ad) (ad * bd)))]) ∧ Later w w' := by
  by_cases h : firstE an ad bn bd = 0
  · obtain ⟨hA, hB⟩ := (first_zero an1.1 an1.2 ad1.2 bn1.1 bn1.2 bd1.2).1 h
    rw [h, okI_zero, okI_zero, orI_zero]
    exact Sub_good an ad bn bd w hA hB
  · rw [okI_ne h, okI_ne h, orI_ne h]
    exact Sub_bad an ad bn bd _ w an1.1 an1.2 ad1.1 ad1.2 bn1.1 bn1.2 bd1.1 bd1.2 rfl h

theorem first_ne {an ad bn bd : Int} (an1 : -9223372036854775808 ≤ an ∧ an ≤ 9223372036854775807) (ad1 : -9223372036854775808 ≤ ad ∧ ad ≤ 9223372036854775807)
    (bn1 : -9223372036854775808 ≤ bn ∧ bn ≤ 9223372036854775807) (bd1 : -9223372036854775808 ≤ bd ∧ bd ≤ 9223372036854775807) (h : ¬ (Valid an ad ∧ Valid bn bd)) : firstE an ad bn bd ≠ 0 :=
  fun e => h ((first_zero an1.1 an1.2 ad1.2 bn1.1 bn1.2 bd1.2).1 e)

/-- The range of what a sum, a product .. is. -/
theorem r_range (n d : Int) : (-9223372036854775808 ≤ rN n d ∧ rN n d ≤ 9223372036854775807) ∧ (-9223372036854775808 ≤ rD n d ∧ rD n d ≤ 9223372036854775807) := by
  unfold rN rD
  by_cases h : rE n d = 0
  · rw [if_pos h, if_pos h]
    unfold rE at h
    split at h
    · cases h
    · split at h
      · rename_i h1 h2
        have : 0 ≤ redD n d := by unfold redD; exact Int.ediv_nonneg (by omega) (gcd_bd n d)
        omega
      · cases h
  · rw [if_neg h, if_neg h]; decide
theorem ok_range {F x : Int} (h : -9223372036854775808 ≤ x ∧ x ≤ 9223372036854775807) : -9223372036854775808 ≤ okI F x ∧ okI F x ≤ 9223372036854775807 := by
  unfold okI; split
  · exact h
  · decide
end Go.Proofs.YtkpadahpepeaoaaDoor
