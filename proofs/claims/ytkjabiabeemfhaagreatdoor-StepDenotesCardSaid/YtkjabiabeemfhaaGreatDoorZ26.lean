/- step: what a turn does by two numbers (printed by gen_turns.py) -/
import Derived.Test.YtkjabiabeemfhaaGreatDoorZ23
set_option linter.all false
set_option linter.all false
section
namespace Go.Proofs.YtkjabiabeemfhaaGreatDoor
open Go.RowKit
set_option maxRecDepth 100000
set_option maxHeartbeats 8000000 in
theorem tco_15 {w0 : World} {ts : List Nd} {T : Tm} {tv : Value} {fx : FxL} {ch : ChL} {p m1 m2 : Nat} (hJ : JobAt w0 ts T tv fx ch p m1 m2) (w : World) (hw0 : Later w0 w) (b : Nat) (tod : Int) (ht0 : -1 ≤ tod) (ht1 : tod ≤ 73048) (nv kv fv wv : Value) (H K : List Hd) (F : List Fl) (W : List Wt)
  (hst : TurnAt w0.heap.size w b tv tod (.pointer (some ⟨p, 0, none⟩)) nv kv fv wv H K F W) (hH : H.length ≤ 1000) (hK : K.length ≤ 1000) (hF : F.length ≤ 1000) (hW : W.length ≤ 90000) (a b' vn vd : Int) (l : List Tm) (pl : Nat) (day n d : Int) (hh : HdOk ts ⟨.node ⟨15, a, b', vn, vd⟩ l, pl, day, n, d⟩) (hdt : ¬ tod < day)
  (bv : Value) (hB : IsInts w bv (placesI pl l 4)) (hBz : ∀ k, bv.ownBlock = some k → k ≠ b ∧ nv.ownBlock ≠ some k) :
  Calls Tryz.prog 128 #[.pointer (some ⟨b, 0, none⟩), .agg #[.int .i64 pl, .int .i64 day, .int .i64 n, .int .i64 d], bv] w (TurnEnd (stepT (envT fx ch) tod ⟨15, a, b', vn, vd⟩ l pl day n d) (keptH (envT fx ch) tod ⟨.node ⟨15, a, b', vn, vd⟩ l, pl, day, n, d⟩) w0 b tv tod (.pointer (some ⟨p, 0, none⟩)) H K F W) := by
 obtain ⟨hT, hso, hmk, hd0, hd1, hva⟩ := hh
 simp only at hT hso hmk hd0 hd1 hva
 have hl : l.length = 4 := by have := hT.root.2.2.2; simpa [manyN] using this
 have hk : pl < ts.length := by have := hT.le; have := (Tm.node ⟨15, a, b', vn, vd⟩ l).size_pos; omega
 have hnd : ts[pl] = ⟨15, a, b', vn, vd⟩ := by have := hT.root.1; rw [List.getElem?_eq_getElem hk] at this; exact Option.some.inj this
 have hfld : fieldsB ⟨15, a, b', vn, vd⟩ = true := by rw [← hnd]; exact hJ.good.fields _ (List.getElem_mem hk)
 have hnok : (⟨15, a, b', vn, vd⟩ : Nd).ok := by rw [← hnd]; exact hJ.ok _ (List.getElem_mem hk)
 obtain ⟨tb, tq, tc, rfl, -, -, -⟩ := hJ.nodes.full hk
 have HJ := Lib.hid hJ
 have HN0 := Lib.hid (fun W1 (hl1 : Later w0 W1) => (hJ.nodes.later hl1).full hk)
 rw [hnd] at HN0
 have HST := Lib.hid hst
 have HT := Lib.hid hT
 have HSO := Lib.hid hso
 have HVA := Lib.hid hva
 have HLL := Lib.hid hl
 have HFLD := Lib.hid hfld
 have HNOK := Lib.hid hnok
 have HLEN := Lib.hid (show H.length ≤ 1000 ∧ K.length ≤ 1000 ∧ F.length ≤ 1000 ∧ W.length ≤ 90000 from ⟨hH, hK, hF, hW⟩)
 have HKH := Lib.hid (keptH_node (envT fx ch) tod ⟨15, a, b', vn, vd⟩ l pl day n d)
 have HDT := Lib.hid hdt
 have HPL := Lib.hid (placesI_length pl l 4)
 obtain ⟨PL, hPL⟩ : ∃ P, placesI pl l 4 = P := ⟨_, rfl⟩
 rw [hPL] at HPL hB
 have HPLE := Lib.hid hPL
 obtain ⟨bp, bc, rfl⟩ := hB.form
 rw [HPL.out] at hB hBz ⊢
 have HI := Lib.hid hB
 have HBZ := Lib.hid hBz
 have hzb : b < w.heap.size := hst.own.1.1
 have hlo := hw0.size
 have hkI : (pl : Int) < (ts.length : Int) := by omega
 have HDD := Lib.hid (show (0 ≤ day ∧ day ≤ 73048) ∧ (-1 ≤ tod ∧ tod ≤ 73048) from ⟨⟨hd0, hd1⟩, ht0, ht1⟩)
 clear hst hT hso hmk hva hl hnd hJ hfld hnok hH hF hW hK hdt hPL hB hBz hd0 hd1 ht0 ht1
 generalize ts.length = L at *
 have hl0 : 0 < l.length := by rw [HLL.out]; decide
 have HK0 : Hid (PL[0]'(by rw [HPL.out]; decide) = (placeN pl l 0 : Int)) := Lib.hid (by have := HPLE.out; subst this; simp [placesI])
 obtain ⟨K0, hK0⟩ : ∃ K : Nat, placeN pl l 0 = K := ⟨_, rfl⟩
 rw [hK0] at HK0
 obtain ⟨vb0, vo0, vc0, hv0, hvb0, g0⟩ := HI.out.full (j := 0) (by rw [HPL.out]; decide)
 rw [HK0.out] at g0
 rw [HPL.out] at hv0
 cases hv0
 rw [Nat.add_zero] at g0
 have HBV0 : Hid (vb0 < w.heap.size) := Lib.hid hvb0
 have hl1 : 1 < l.length := by rw [HLL.out]; decide
 have HK1 : Hid (PL[1]'(by rw [HPL.out]; decide) = (placeN pl l 1 : Int)) := Lib.hid (by have := HPLE.out; subst this; simp [placesI])
 obtain ⟨K1, hK1⟩ : ∃ K : Nat, placeN pl l 1 = K := ⟨_, rfl⟩
 rw [hK1] at HK1
 obtain ⟨vb1, vo1, vc1, hv1, hvb1, g1⟩ := HI.out.full (j := 1) (by rw [HPL.out]; decide)
 rw [HK1.out] at g1
 rw [HPL.out] at hv1
 cases hv1
 have hl2 : 2 < l.length := by rw [HLL.out]; decide
 have HK2 : Hid (PL[2]'(by rw [HPL.out]; decide) = (placeN pl l 2 : Int)) := Lib.hid (by have := HPLE.out; subst this; simp [placesI])
 obtain ⟨K2, hK2⟩ : ∃ K : Nat, placeN pl l 2 = K := ⟨_, rfl⟩
 rw [hK2] at HK2
 obtain ⟨vb2, vo2, vc2, hv2, hvb2, g2⟩ := HI.out.full (j := 2) (by rw [HPL.out]; decide)
 rw [HK2.out] at g2
 rw [HPL.out] at hv2
 cases hv2
 have hl3 : 3 < l.length := by rw [HLL.out]; decide
 have HK3 : Hid (PL[3]'(by rw [HPL.out]; decide) = (placeN pl l 3 : Int)) := Lib.hid (by have := HPLE.out; subst this; simp [placesI])
 obtain ⟨K3, hK3⟩ : ∃ K : Nat, placeN pl l 3 = K := ⟨_, rfl⟩
 rw [hK3] at HK3
 obtain ⟨vb3, vo3, vc3, hv3, hvb3, g3⟩ := HI.out.full (j := 3) (by rw [HPL.out]; decide)
 rw [HK3.out] at g3
 rw [HPL.out] at hv3
 cases hv3
 obtain ⟨⟨hd0, hd1⟩, -⟩ := HDD.out
 obtain ⟨n10, n20, n30⟩ := kid_num HJ.out.good HJ.out.ok HT.out HSO.out hl0 (show belI 15 0 = 1 by decide)
 rw [hK0] at n10 n30
 obtain ⟨R0, hR0⟩ : ∃ R, valT (getF fx day) l[0] = R := ⟨_, rfl⟩
 have hres0 := valT_res (getOk_of HJ.out.fo day) n20
 rw [hR0] at hres0
 have HNT0 : Hid (numT (envT fx ch) day l 0 = R0) := Lib.hid (by unfold numT; rw [List.getElem?_eq_getElem hl0]; exact hR0)
 have HASK0 : Hid (askI (envT fx ch) day l 0 = asksT (envT fx ch) day l[0]) := Lib.hid (by unfold askI; rw [List.getElem?_eq_getElem hl0])
 have HNA0 : Hid (TmAt ts K0 l[0] ∧ NumT l[0] ∧ wrongV ts (K0 : Nat) = 0) := Lib.hid ⟨n10, n20, n30⟩
 have HAT0 : Hid (∀ W, Later w0 W → Calls Tryz.prog 169 #[.slice (some ⟨tb, tq, none⟩) L tc, .int .i64 (K0 : Nat), .int .i64 day, .pointer (some ⟨p, 0, none⟩)] W fun e w' => e = .returned (.tuple #[valR R0, .int .i64 R0.1]) ∧ Later W w') := Lib.hid (fun W hW => by
  have := vat_any ts fx ch p m1 m2 (K0 : Nat) day _ W HJ.out.len HJ.out.ok ⟨by omega, by omega⟩ (getOk_of HJ.out.fo day) (HJ.out.sh.later hW) (HJ.out.nodes.later hW) (HJ.out.facts.later hW)
  rw [vat_place n10 n30 hd0 hd1, hR0] at this
  exact this)
 unfold valR at HAT0
 obtain ⟨E0, hE0⟩ : ∃ x, R0.1 = x := ⟨_, rfl⟩
 obtain ⟨B0, hB0⟩ : ∃ x, R0.2.isSome = x := ⟨_, rfl⟩
 obtain ⟨N0, hN0⟩ : ∃ x, outN R0 = x := ⟨_, rfl⟩
 obtain ⟨D0, hD0⟩ : ∃ x, outD R0 = x := ⟨_, rfl⟩
 rw [hE0, hB0, hN0, hD0] at HAT0
 have HRR0 := Lib.hid (show E0 = R0.1 ∧ B0 = R0.2.isSome ∧ N0 = outN R0 ∧ D0 = outD R0 from ⟨hE0.symm, hB0.symm, hN0.symm, hD0.symm⟩)
 have HRC0 := Lib.hid hres0.cases
 clear n10 n20 n30 hR0 hE0 hB0 hN0 hD0 hres0
 obtain ⟨n11, n21, n31⟩ := kid_num HJ.out.good HJ.out.ok HT.out HSO.out hl1 (show belI 15 1 = 1 by decide)
 rw [hK1] at n11 n31
 obtain ⟨R1, hR1⟩ : ∃ R, valT (getF fx day) l[1] = R := ⟨_, rfl⟩
 have hres1 := valT_res (getOk_of HJ.out.fo day) n21
 rw [hR1] at hres1
 have HNT1 : Hid (numT (envT fx ch) day l 1 = R1) := Lib.hid (by unfold numT; rw [List.getElem?_eq_getElem hl1]; exact hR1)
 have HASK1 : Hid (askI (envT fx ch) day l 1 = asksT (envT fx ch) day l[1]) := Lib.hid (by unfold askI; rw [List.getElem?_eq_getElem hl1])
 have HNA1 : Hid (TmAt ts K1 l[1] ∧ NumT l[1] ∧ wrongV ts (K1 : Nat) = 0) := Lib.hid ⟨n11, n21, n31⟩
 have HAT1 : Hid (∀ W, Later w0 W → Calls Tryz.prog 169 #[.slice (some ⟨tb, tq, none⟩) L tc, .int .i64 (K1 : Nat), .int .i64 day, .pointer (some ⟨p, 0, none⟩)] W fun e w' => e = .returned (.tuple #[valR R1, .int .i64 R1.1]) ∧ Later W w') := Lib.hid (fun W hW => by
  have := vat_any ts fx ch p m1 m2 (K1 : Nat) day _ W HJ.out.len HJ.out.ok ⟨by omega, by omega⟩ (getOk_of HJ.out.fo day) (HJ.out.sh.later hW) (HJ.out.nodes.later hW) (HJ.out.facts.later hW)
  rw [vat_place n11 n31 hd0 hd1, hR1] at this
  exact this)
 unfold valR at HAT1
 obtain ⟨E1, hE1⟩ : ∃ x, R1.1 = x := ⟨_, rfl⟩
 obtain ⟨B1, hB1⟩ : ∃ x, R1.2.isSome = x := ⟨_, rfl⟩
 obtain ⟨N1, hN1⟩ : ∃ x, outN R1 = x := ⟨_, rfl⟩
 obtain ⟨D1, hD1⟩ : ∃ x, outD R1 = x := ⟨_, rfl⟩
 rw [hE1, hB1, hN1, hD1] at HAT1
 have HRR1 := Lib.hid (show E1 = R1.1 ∧ B1 = R1.2.isSome ∧ N1 = outN R1 ∧ D1 = outD R1 from ⟨hE1.symm, hB1.symm, hN1.symm, hD1.symm⟩)
 have HRC1 := Lib.hid hres1.cases
 clear n11 n21 n31 hR1 hE1 hB1 hN1 hD1 hres1
 clear hd0 hd1
 go_enter Tryz.func128, Tryz.ntmps128
 go_upto_region 1 with (fail)
 refine wp_opaque (fun w1 hb1 => ?_)
 have hO1 := Own.one hb1
 have hl1 : Later w w1 := hb1.un1
 clear hb1
 obtain ⟨A, hA⟩ : ∃ A, w.heap.size = A := ⟨_, rfl⟩
 rw [hA] at hO1 ⊢
 have HOA1 := Lib.hid hO1
 obtain ⟨⟨zA, cA, fA⟩, -⟩ := hO1
 have k0 : w1.cell? ⟨A, 0, none⟩ = some (.int .i64 pl) := cA 0
 have k1 : w1.cell? ⟨A, 1, none⟩ = some (.int .i64 day) := cA 1
 have k2 : w1.cell? ⟨A, 2, none⟩ = some (.int .i64 n) := cA 2
 have k3 : w1.cell? ⟨A, 3, none⟩ = some (.int .i64 d) := cA 3
 have kf1 : w1.frozen? ⟨A, 1, none⟩ = false := fA 1 (by simp)
 have kf2 : w1.frozen? ⟨A, 2, none⟩ = false := fA 2 (by simp)
 have kf3 : w1.frozen? ⟨A, 3, none⟩ = false := fA 3 (by simp)
 have s4 : w1.cell? ⟨b, 4, none⟩ = some (.slice (some ⟨tb, tq, none⟩) L tc) := (HST.out.later hl1).own.1.2.1 4
 have s6 : w1.cell? ⟨b, 6, none⟩ = some (.pointer (some ⟨p, 0, none⟩)) := (HST.out.later hl1).own.1.2.1 6
 have hzb1 : b < w1.heap.size := Nat.lt_of_lt_of_le hzb hl1.size
 have hl01 := hw0.trans hl1
 have HS1 := Lib.hid (HST.out.later hl1)
 have hz1 := hl1.size
 rw [hA] at hz1 hlo
 have HAW : Hid (w.heap.size = A) := Lib.hid hA
 have hbA : b < A := by omega
 clear cA fA
 have hgv0 : w1.cell? ⟨vb0, vo0, none⟩ = some (.int .i64 (K0 : Int)) := (bcell hl1).1 _ _ hvb0 |>.trans g0
 have hgv1 : w1.cell? ⟨vb0, vo0 + 1, none⟩ = some (.int .i64 (K1 : Int)) := (bcell hl1).1 _ _ hvb1 |>.trans g1
 have hgv2 : w1.cell? ⟨vb0, vo0 + 2, none⟩ = some (.int .i64 (K2 : Int)) := (bcell hl1).1 _ _ hvb2 |>.trans g2
 have hgv3 : w1.cell? ⟨vb0, vo0 + 3, none⟩ = some (.int .i64 (K3 : Int)) := (bcell hl1).1 _ _ hvb3 |>.trans g3
 have hgz : vb0 < w1.heap.size := Nat.lt_of_lt_of_le hvb0 hl1.size
 have HG23 := Lib.hid (And.intro hgv2 hgv3)
 clear g0 g1 g2 g3 hvb0 hvb1 hvb2 hvb3 hgv2 hgv3 kf1 kf2 kf3
 go_cut [7, 8] (fun s7 s8 wx => ∃ bb, s7 = .pointer (some ⟨bb, 0, none⟩) ∧ s8 = .int .i64 E0 ∧ Own wx [(bb, #[.bool B0, .int .i64 N0, .int .i64 D0])] ∧ w1.heap.size ≤ bb ∧ Later w1 wx)
 case first =>
  clear HOA1 hA HS1 k0 k2 k3 hgv1 HG23
  refine U.wp_region_plan 18 (.three [0, 4, 5, 6, 7, 8, 9] 1 (.two [2, 3] 10 (.two [11, 12] 13 (.one [14, 15, 16] 17 (.one [] 18 (.done [19]))) 17 (.one [] 13 (.one [14, 15, 16] 18 (.done [19])))) 17 (.one [] 10 (.one [11, 12] 13 (.one [14, 15, 16] 18 (.done [19]))))) 10 (.two [11, 12] 1 (.two [2, 3] 13 (.one [14, 15, 16] 17 (.one [] 18 (.done [19]))) 17 (.one [] 13 (.one [14, 15, 16] 18 (.done [19])))) 17 (.one [] 1 (.one [2, 3] 13 (.one [14, 15, 16] 18 (.done [19]))))) 17 (.two [] 1 (.one [2, 3] 10 (.one [11, 12] 13 (.one [14, 15, 16] 18 (.done [19])))) 10 (.one [11, 12] 1 (.one [2, 3] 13 (.one [14, 15, 16] 18 (.done [19])))))) (by kernel_rfl) (by kernel_rfl) (fun _ _ d _ _ h => by cases d <;> exact h) ?_
  repeat' (first
   | ((first | refine plan_done (fun K hK => ?_) | refine plan_one (by rfl) (fun K hK => ?_)); (first | (simp only [zq9]; repeat (go_big_quiet_step (fail))) | simp only [pick_nil]); refine wpQuiet_nil (hK _ ?_); clear hK K)
   | (refine plan_two (by rfl) (by rfl) (fun K hK => ?_); (first | (simp only [zq9]; repeat (go_big_quiet_step (fail))) | simp only [pick_nil]); refine wpQuiet_nil (hK _ ?_); clear hK K; refine ⟨?_, ?_⟩)
   | (refine plan_three (by rfl) (by rfl) (by rfl) (fun K hK => ?_); (first | (simp only [zq9]; repeat (go_big_quiet_step (fail))) | simp only [pick_nil]); refine wpQuiet_nil (hK _ ?_); clear hK K; refine ⟨?_, ?_, ?_⟩)
   | ((with_reducible refine at_list ?_); go_wp2_with ((go_at_call 169; go_must (refine (HAT0.out _ (hl01.trans (by repeat (first | with_reducible (first | exact zq1 _ | assumption | refine zq2 ?_ | refine zq4 ?_ ?_ _ | refine zq5 ?_ _ | refine zq6 ?_ _ | refine zq7 ?_ | refine zq8 ?_ (by assumption)) | (simp only [zq10]; omega) | (simp; done) | (simp; omega))))).mono ?_; rintro e ua ⟨rfl, hua⟩; (first | (with_reducible have hx5 := Own.one hua) | (with_reducible have hx5 := own_one_d hua) | skip); (first | have hy5 := own_get hx5 | skip); (first | have cx5 := hy5.2.1 | skip); (first | have fx5 := hy5.2.2 | skip); have hzhua := Later.size hua; (try simp only [World.size_alloc, World.size_drew] at hzhua)))); first | refine behind_store (t := 18) (by decide) ?_ | refine behind (by with_reducible repeat (first | exact zq1 _ | assumption | refine zq2 ?_ | refine zq5 ?_ _ | refine zq6 ?_ _ | refine zq7 ?_ | refine zq8 ?_ (by assumption))) ?_))
  all_goals
   go_wp2_with fail
   go_meet
   first
    | exact ⟨_, rfl, rfl, own_alloc _ _ _, by first | exact Nat.le_refl _ | exact hzhua | omega, by repeat (first | with_reducible (first | exact zq1 _ | assumption | refine zq2 ?_ | refine zq4 ?_ ?_ _ | refine zq5 ?_ _ | refine zq6 ?_ _ | refine zq7 ?_ | refine zq8 ?_ (by assumption)) | (simp only [zq10]; omega) | (simp; done) | (simp; omega))⟩
    | exact ⟨_, rfl, rfl, own_set3 hx5, by first | exact Nat.le_refl _ | omega, by repeat (first | with_reducible (first | exact zq1 _ | assumption | refine zq2 ?_ | refine zq4 ?_ ?_ _ | refine zq5 ?_ _ | refine zq6 ?_ _ | refine zq7 ?_ | refine zq8 ?_ (by assumption)) | (simp only [zq10]; omega) | (simp; done) | (simp; omega))⟩
 case rest =>
  obtain ⟨bb, rfl, rfl, hob, hbb, hlx⟩ := hcut
  obtain ⟨w2, rfl⟩ : ∃ x, x = wc := ⟨_, rfl⟩
  replace k0 := (bcell hlx).1 _ 0 zA |>.trans k0
  replace k1 := (bcell hlx).1 _ 1 zA |>.trans k1
  replace k2 := (bcell hlx).1 _ 2 zA |>.trans k2
  replace k3 := (bcell hlx).1 _ 3 zA |>.trans k3
  replace s4 := (bcell hlx).1 _ 4 hzb1 |>.trans s4
  replace s6 := (bcell hlx).1 _ 6 hzb1 |>.trans s6
  have hgv1' := (bcell hlx).1 _ _ hgz |>.trans hgv1
  have zA2 := Nat.lt_of_lt_of_le zA hlx.size
  have hzb2 := Nat.lt_of_lt_of_le hzb1 hlx.size
  have hgz2 := Nat.lt_of_lt_of_le hgz hlx.size
  have hl02 := hl01.trans hlx
  have HOB := Lib.hid hob
  clear HAT0 hob
  go_upto_region 2 with (fail)
  go_cut [9, 10] (fun s9 s10 wx => ∃ bc, s9 = .pointer (some ⟨bc, 0, none⟩) ∧ s10 = .int .i64 E1 ∧ Own wx [(bc, #[.bool B1, .int .i64 N1, .int .i64 D1])] ∧ w2.heap.size ≤ bc ∧ Later w2 wx)
  case first =>
   clear HOA1 HS1 k0 k2 k3 HG23 hgv0 hgv1 HOB zA hzb1 hgz
   refine U.wp_region_plan 18 (.three [0, 4, 5, 6, 7, 8, 9] 1 (.two [2, 3] 10 (.two [11, 12] 13 (.one [14, 15, 16] 17 (.one [] 18 (.done [19]))) 17 (.one [] 13 (.one [14, 15, 16] 18 (.done [19])))) 17 (.one [] 10 (.one [11, 12] 13 (.one [14, 15, 16] 18 (.done [19]))))) 10 (.two [11, 12] 1 (.two [2, 3] 13 (.one [14, 15, 16] 17 (.one [] 18 (.done [19]))) 17 (.one [] 13 (.one [14, 15, 16] 18 (.done [19])))) 17 (.one [] 1 (.one [2, 3] 13 (.one [14, 15, 16] 18 (.done [19]))))) 17 (.two [] 1 (.one [2, 3] 10 (.one [11, 12] 13 (.one [14, 15, 16] 18 (.done [19])))) 10 (.one [11, 12] 1 (.one [2, 3] 13 (.one [14, 15, 16] 18 (.done [19])))))) (by kernel_rfl) (by kernel_rfl) (fun _ _ d _ _ h => by cases d <;> exact h) ?_
   repeat' (first
    | ((first | refine plan_done (fun K hK => ?_) | refine plan_one (by rfl) (fun K hK => ?_)); (first | (simp only [zq9]; repeat (go_big_quiet_step (fail))) | simp only [pick_nil]); refine wpQuiet_nil (hK _ ?_); clear hK K)
    | (refine plan_two (by rfl) (by rfl) (fun K hK => ?_); (first | (simp only [zq9]; repeat (go_big_quiet_step (fail))) | simp only [pick_nil]); refine wpQuiet_nil (hK _ ?_); clear hK K; refine ⟨?_, ?_⟩)
    | (refine plan_three (by rfl) (by rfl) (by rfl) (fun K hK => ?_); (first | (simp only [zq9]; repeat (go_big_quiet_step (fail))) | simp only [pick_nil]); refine wpQuiet_nil (hK _ ?_); clear hK K; refine ⟨?_, ?_, ?_⟩)
    | ((with_reducible refine at_list ?_); go_wp2_with ((go_at_call 169; go_must (refine (HAT1.out _ (hl02.trans (by repeat (first | with_reducible (first | exact zq1 _ | assumption | refine zq2 ?_ | refine zq4 ?_ ?_ _ | refine zq5 ?_ _ | refine zq6 ?_ _ | refine zq7 ?_ | refine zq8 ?_ (by assumption)) | (simp only [zq10]; omega) | (simp; done) | (simp; omega))))).mono ?_; rintro e ua ⟨rfl, hua⟩; (first | (with_reducible have hx5 := Own.one hua) | (with_reducible have hx5 := own_one_d hua) | skip); (first | have hy5 := own_get hx5 | skip); (first | have cx5 := hy5.2.1 | skip); (first | have fx5 := hy5.2.2 | skip); have hzhua := Later.size hua; (try simp only [World.size_alloc, World.size_drew] at hzhua)))); first | refine behind_store (t := 18) (by decide) ?_ | refine behind (by with_reducible repeat (first | exact zq1 _ | assumption | refine zq2 ?_ | refine zq5 ?_ _ | refine zq6 ?_ _ | refine zq7 ?_ | refine zq8 ?_ (by assumption))) ?_))
   all_goals
    go_wp2_with fail
    go_meet
    first
     | exact ⟨_, rfl, rfl, own_alloc _ _ _, by first | exact Nat.le_refl _ | exact hzhua | omega, by repeat (first | with_reducible (first | exact zq1 _ | assumption | refine zq2 ?_ | refine zq4 ?_ ?_ _ | refine zq5 ?_ _ | refine zq6 ?_ _ | refine zq7 ?_ | refine zq8 ?_ (by assumption)) | (simp only [zq10]; omega) | (simp; done) | (simp; omega))⟩
     | exact ⟨_, rfl, rfl, own_set3 hx5, by first | exact Nat.le_refl _ | omega, by repeat (first | with_reducible (first | exact zq1 _ | assumption | refine zq2 ?_ | refine zq4 ?_ ?_ _ | refine zq5 ?_ _ | refine zq6 ?_ _ | refine zq7 ?_ | refine zq8 ?_ (by assumption)) | (simp only [zq10]; omega) | (simp; done) | (simp; omega))⟩
  case rest =>
   obtain ⟨bc', rfl, rfl, hoc, hbc, hly⟩ := hcut
   obtain ⟨w4, rfl⟩ : ∃ x, x = wc := ⟨_, rfl⟩
   have hl14 := hlx.trans hly
   have hl4 := hl1.trans hl14
   have HS4 := Lib.hid (HS1.out.later hl14)
   have hl04 := hl01.trans hl14
   have zA4 := Nat.lt_of_lt_of_le zA2 hly.size
   have zb4 := Nat.lt_of_lt_of_le hzb2 hly.size
   have hgz4 := Nat.lt_of_lt_of_le hgz2 hly.size
   replace k0 := (bcell hly).1 _ 0 zA2 |>.trans k0
   replace k1 := (bcell hly).1 _ 1 zA2 |>.trans k1
   replace k2 := (bcell hly).1 _ 2 zA2 |>.trans k2
   replace k3 := (bcell hly).1 _ 3 zA2 |>.trans k3
   have G0 := Lib.hid ((bcell hl14).1 _ _ hgz |>.trans hgv0)
   have G1 := Lib.hid ((bcell hl14).1 _ _ hgz |>.trans hgv1)
   have G2 := Lib.hid ((bcell hl14).1 _ _ hgz |>.trans HG23.out.1)
   have G3 := Lib.hid ((bcell hl14).1 _ _ hgz |>.trans HG23.out.2)
   obtain ⟨zB, cB, -⟩ := own_get (HOB.out.later hly)
   have x0 := cB 0
   have x1 := cB 1
   have x2 := cB 2
   obtain ⟨zC, cC, -⟩ := own_get hoc
   have y0 := cC 0
   have y1 := cC 1
   have y2 := cC 2
   simp only [List.getElem?_toArray, List.getElem?_cons_zero, List.getElem?_cons_succ] at x0 x1 x2 y0 y1 y2
   clear HS1 HOA1 hoc cB cC hl1 hl01 hlx hly hl02 zA zA2 hzb1 hzb2 hgz hgz2 s4 s6 HAT1 HOB HG23 hgv0 hgv1 hgv1' hl14 hbb hbc
   have HK5 := HKH
   have hnot : (13 : Int) ≠ 15 := by decide
   by_cases he : E0 = 0 ∧ E1 = 0
   ·obtain ⟨rfl, rfl⟩ := he
    by_cases hy : B0 = true ∧ B1 = true
    ·obtain ⟨rfl, rfl⟩ := hy
     obtain ⟨un, ud, hr0, hvu⟩ : ∃ un ud, R0 = (0, some (un, ud)) ∧ Valid un ud := by
      rcases HRC0.out with h | h | ⟨un, ud, h, hv⟩
      ·have := HRR0.out.1; rw [h] at this; cases this
      ·have := HRR0.out.2.1; rw [h] at this; cases this
      ·exact ⟨un, ud, h, hv⟩
     obtain ⟨en, ed, hr1, hve⟩ : ∃ un ud, R1 = (0, some (un, ud)) ∧ Valid un ud := by
      rcases HRC1.out with h | h | ⟨un, ud, h, hv⟩
      ·have := HRR1.out.1; rw [h] at this; cases this
      ·have := HRR1.out.2.1; rw [h] at this; cases this
      ·exact ⟨un, ud, h, hv⟩
     obtain ⟨-, -, rfl, rfl⟩ := HRR0.out
     obtain ⟨-, -, rfl, rfl⟩ := HRR1.out
     subst hr0 hr1
     replace x1 : w4.cell? ⟨bb, 1, none⟩ = some (.int .i64 un) := x1
     replace x2 : w4.cell? ⟨bb, 2, none⟩ = some (.int .i64 ud) := x2
     replace y1 : w4.cell? ⟨bc', 1, none⟩ = some (.int .i64 en) := y1
     replace y2 : w4.cell? ⟨bc', 2, none⟩ = some (.int .i64 ed) := y2
     have HCM := Lib.hid (fun W1 => compare_good un ud en ed W1 hvu hve)
     have HST5 : Hid (stepT (envT fx ch) tod ⟨15, a, b', vn, vd⟩ l pl day n d = (0, kidH l pl (if un * ed < en * ud then 2 else 3) day n d, [], [])) := Lib.hid (by simp [stepT, condT, HNT0.out, HNT1.out])
     have HKN : Hid (keptH (envT fx ch) tod ⟨.node ⟨15, a, b', vn, vd⟩ l, pl, day, n, d⟩ = []) := Lib.hid (by rw [HKH.out, if_neg (show ¬ tod < day by have := HDT.out; omega)]; simp [HNT0.out, HNT1.out])
     obtain ⟨x, hx⟩ : ∃ x, un * ed = x := ⟨_, rfl⟩
     obtain ⟨y, hy⟩ : ∃ y, en * ud = y := ⟨_, rfl⟩
     rw [hx, hy] at HCM HST5
     obtain ⟨c, hc⟩ : ∃ c, cmpI x y = c := ⟨_, rfl⟩
     rw [hc] at HCM
     have hcc : (c = -1 ∧ (if x < y then 2 else 3) = 2) ∨ (c = 0 ∧ (if x < y then 2 else 3) = 3) ∨ (c = 1 ∧ (if x < y then 2 else 3) = 3) := by
      rcases cmp_cases x y with ⟨h1, h2, -⟩ | ⟨h1, h2, -⟩ | ⟨h1, h2, -⟩
      ·exact .inl ⟨hc.symm.trans h2, by rw [if_pos h1]⟩
      ·exact .inr (.inl ⟨hc.symm.trans h2, by rw [if_neg (by omega)]⟩)
      ·exact .inr (.inr ⟨hc.symm.trans h2, by rw [if_neg (by omega)]⟩)
     have g2 := G2.out
     have g3 := G3.out
     clear hx hy hc HRC0 HRC1 HRR0 HRR1 HNT0 HNT1 HASK0 HASK1 HNA0 HNA1 HKH HK5 hvu hve G0 G1 G2 G3 hnot
     rcases hcc with ⟨rfl, hif⟩ | ⟨rfl, hif⟩ | ⟨rfl, hif⟩
     ·have HST6 : Hid (stepT (envT fx ch) tod ⟨15, a, b', vn, vd⟩ l pl day n d = (0, kidH l pl 2 day n d, [], [])) := Lib.hid (by rw [HST5.out, hif])
      have HPUT := Lib.hid (fun W1 (hl : Later w4 W1) => tthen_later (b := b) hl04.size (by have := HLEN.out; omega) HS4.out ⟨l[2], placeN pl l 2, day, n, d⟩ (pl : Int) (K2 : Int) (by rw [hK2]) W1 hl)
      clear hif HST5 g3
      go_upto_region 10 with (go_at_call 137; go_must (refine (HCM.out _).mono ?_; rintro e w5 ⟨rfl, hb5⟩; replace k0 := (bcell hb5).1 _ 0 zA4 |>.trans k0; replace k1 := (bcell hb5).1 _ 1 zA4 |>.trans k1; replace k2 := (bcell hb5).1 _ 2 zA4 |>.trans k2; replace k3 := (bcell hb5).1 _ 3 zA4 |>.trans k3; replace g2 := (bcell hb5).1 _ _ hgz4 |>.trans g2; have zA5 := Nat.lt_of_lt_of_le zA4 hb5.size; have hgz5 := Nat.lt_of_lt_of_le hgz4 hb5.size))
      clear x0 x1 x2 y0 y1 y2 zB zC HCM
      refine V.wp_region_plan 7 (.one [0, 3, 4, 5, 6] 1 (.one [2] 7 (.done []))) (by kernel_rfl) (by kernel_rfl) (fun _ _ d _ _ h => by cases d <;> exact h) ?_
      repeat' (first
       | ((first | refine plan_done (fun K hK => ?_) | refine plan_one (by rfl) (fun K hK => ?_)); (first | (simp only [zq9]; repeat (go_big_quiet_step (fail))) | simp only [pick_nil]); refine wpQuiet_nil (hK _ ?_); clear hK K)
       | ((with_reducible refine at_list ?_); go_wp2_with ((go_at_call 168; go_must (refine (HPUT.out _ (hb5.trans (by repeat (first | with_reducible (first | exact zq1 _ | assumption | refine zq2 ?_ | refine zq4 ?_ ?_ _ | refine zq5 ?_ _ | refine zq6 ?_ _ | refine zq7 ?_ | refine zq8 ?_ (by assumption)) | (simp only [zq10]; omega) | (simp; done) | (simp; omega))))).mono ?_; rintro e w9 ⟨rfl, nv9, hs9, hz9, hf9⟩))); first | refine behind_store (t := 7) (by decide) ?_ | refine behind (by with_reducible repeat (first | exact zq1 _ | assumption | refine zq2 ?_ | refine zq5 ?_ _ | refine zq6 ?_ _ | refine zq7 ?_ | refine zq8 ?_ (by assumption))) ?_))
      have hfin : Later w0 w9 := lat_base hz9 (by first | exact (hl04.trans hb5).drew | exact hl04.trans hb5) (fun k hk => hk.elim (fun e => e ▸ HS4.out.lob) (fun e => (HS4.out.next.lo k e).1))
      go_wp2_with fail
      go_ret
      exact turn_end (r := (0, [⟨l[2], placeN pl l 2, day, n, d⟩], [], [])) (kp := []) hs9 (by rw [HST6.out, kidH_at hl2]) HKN.out (by simp) (by simp) (by simp) (by simp) hfin
     ·have HST6 : Hid (stepT (envT fx ch) tod ⟨15, a, b', vn, vd⟩ l pl day n d = (0, kidH l pl 3 day n d, [], [])) := Lib.hid (by rw [HST5.out, hif])
      have HPUT := Lib.hid (fun W1 (hl : Later w4 W1) => tthen_later (b := b) hl04.size (by have := HLEN.out; omega) HS4.out ⟨l[3], placeN pl l 3, day, n, d⟩ (pl : Int) (K3 : Int) (by rw [hK3]) W1 hl)
      clear hif HST5 g2
      go_upto_region 11 with (go_at_call 137; go_must (refine (HCM.out _).mono ?_; rintro e w5 ⟨rfl, hb5⟩; replace k0 := (bcell hb5).1 _ 0 zA4 |>.trans k0; replace k1 := (bcell hb5).1 _ 1 zA4 |>.trans k1; replace k2 := (bcell hb5).1 _ 2 zA4 |>.trans k2; replace k3 := (bcell hb5).1 _ 3 zA4 |>.trans k3; replace g3 := (bcell hb5).1 _ _ hgz4 |>.trans g3; have zA5 := Nat.lt_of_lt_of_le zA4 hb5.size; have hgz5 := Nat.lt_of_lt_of_le hgz4 hb5.size))
      clear x0 x1 x2 y0 y1 y2 zB zC HCM
      refine V.wp_region_plan 7 (.one [0, 3, 4, 5, 6] 1 (.one [2] 7 (.done []))) (by kernel_rfl) (by kernel_rfl) (fun _ _ d _ _ h => by cases d <;> exact h) ?_
      repeat' (first
       | ((first | refine plan_done (fun K hK => ?_) | refine plan_one (by rfl) (fun K hK => ?_)); (first | (simp only [zq9]; repeat (go_big_quiet_step (fail))) | simp only [pick_nil]); refine wpQuiet_nil (hK _ ?_); clear hK K)
       | ((with_reducible refine at_list ?_); go_wp2_with ((go_at_call 168; go_must (refine (HPUT.out _ (hb5.trans (by repeat (first | with_reducible (first | exact zq1 _ | assumption | refine zq2 ?_ | refine zq4 ?_ ?_ _ | refine zq5 ?_ _ | refine zq6 ?_ _ | refine zq7 ?_ | refine zq8 ?_ (by assumption)) | (simp only [zq10]; omega) | (simp; done) | (simp; omega))))).mono ?_; rintro e w9 ⟨rfl, nv9, hs9, hz9, hf9⟩))); first | refine behind_store (t := 7) (by decide) ?_ | refine behind (by with_reducible repeat (first | exact zq1 _ | assumption | refine zq2 ?_ | refine zq5 ?_ _ | refine zq6 ?_ _ | refine zq7 ?_ | refine zq8 ?_ (by assumption))) ?_))
      have hfin : Later w0 w9 := lat_base hz9 (by first | exact (hl04.trans hb5).drew | exact hl04.trans hb5) (fun k hk => hk.elim (fun e => e ▸ HS4.out.lob) (fun e => (HS4.out.next.lo k e).1))
      go_wp2_with fail
      go_ret
      exact turn_end (r := (0, [⟨l[3], placeN pl l 3, day, n, d⟩], [], [])) (kp := []) hs9 (by rw [HST6.out, kidH_at hl3]) HKN.out (by simp) (by simp) (by simp) (by simp) hfin
     ·have HST6 : Hid (stepT (envT fx ch) tod ⟨15, a, b', vn, vd⟩ l pl day n d = (0, kidH l pl 3 day n d, [], [])) := Lib.hid (by rw [HST5.out, hif])
      have HPUT := Lib.hid (fun W1 (hl : Later w4 W1) => tthen_later (b := b) hl04.size (by have := HLEN.out; omega) HS4.out ⟨l[3], placeN pl l 3, day, n, d⟩ (pl : Int) (K3 : Int) (by rw [hK3]) W1 hl)
      clear hif HST5 g2
      go_upto_region 11 with (go_at_call 137; go_must (refine (HCM.out _).mono ?_; rintro e w5 ⟨rfl, hb5⟩; replace k0 := (bcell hb5).1 _ 0 zA4 |>.trans k0; replace k1 := (bcell hb5).1 _ 1 zA4 |>.trans k1; replace k2 := (bcell hb5).1 _ 2 zA4 |>.trans k2; replace k3 := (bcell hb5).1 _ 3 zA4 |>.trans k3; replace g3 := (bcell hb5).1 _ _ hgz4 |>.trans g3; have zA5 := Nat.lt_of_lt_of_le zA4 hb5.size; have hgz5 := Nat.lt_of_lt_of_le hgz4 hb5.size))
      clear x0 x1 x2 y0 y1 y2 zB zC HCM
      refine V.wp_region_plan 7 (.one [0, 3, 4, 5, 6] 1 (.one [2] 7 (.done []))) (by kernel_rfl) (by kernel_rfl) (fun _ _ d _ _ h => by cases d <;> exact h) ?_
      repeat' (first
       | ((first | refine plan_done (fun K hK => ?_) | refine plan_one (by rfl) (fun K hK => ?_)); (first | (simp only [zq9]; repeat (go_big_quiet_step (fail))) | simp only [pick_nil]); refine wpQuiet_nil (hK _ ?_); clear hK K)
       | ((with_reducible refine at_list ?_); go_wp2_with ((go_at_call 168; go_must (refine (HPUT.out _ (hb5.trans (by repeat (first | with_reducible (first | exact zq1 _ | assumption | refine zq2 ?_ | refine zq4 ?_ ?_ _ | refine zq5 ?_ _ | refine zq6 ?_ _ | refine zq7 ?_ | refine zq8 ?_ (by assumption)) | (simp only [zq10]; omega) | (simp; done) | (simp; omega))))).mono ?_; rintro e w9 ⟨rfl, nv9, hs9, hz9, hf9⟩))); first | refine behind_store (t := 7) (by decide) ?_ | refine behind (by with_reducible repeat (first | exact zq1 _ | assumption | refine zq2 ?_ | refine zq5 ?_ _ | refine zq6 ?_ _ | refine zq7 ?_ | refine zq8 ?_ (by assumption))) ?_))
      have hfin : Later w0 w9 := lat_base hz9 (by first | exact (hl04.trans hb5).drew | exact hl04.trans hb5) (fun k hk => hk.elim (fun e => e ▸ HS4.out.lob) (fun e => (HS4.out.next.lo k e).1))
      go_wp2_with fail
      go_ret
      exact turn_end (r := (0, [⟨l[3], placeN pl l 3, day, n, d⟩], [], [])) (kp := []) hs9 (by rw [HST6.out, kidH_at hl3]) HKN.out (by simp) (by simp) (by simp) (by simp) hfin
    ·have hbb' : (B0 && B1) = false := by
      cases B0
      ·rfl
      ·cases B1
       ·rfl
       ·exact absurd ⟨rfl, rfl⟩ hy
     obtain ⟨AL, hAL⟩ : ∃ A, asksT (envT fx ch) day l[0] ++ asksT (envT fx ch) day l[1] = A := ⟨_, rfl⟩
     have HASKS := Lib.hid (fun W1 (hl : Later w4 W1) (pv : Value) (hp : IsInts W1 pv [(K0 : Int), (K1 : Int)]) => tasks_at HJ.out hl04 HS4.out HDD.out.1.1 HDD.out.1.2 [(K0, l[0]), (K1, l[1])] (by simp) (numsAt_two HNA0.out HNA1.out) (AL := AL) (by simpa using hAL) W1 hl pv hp)
     have hAF : AL.length ≤ 128 := by
      rw [← hAL, List.length_append]
      have h1 := asks_few (envT fx ch) day l[0]
      have h2 := asks_few (envT fx ch) day l[1]
      omega
     obtain ⟨NA, hNA⟩ : ∃ n, AL.length = n := ⟨_, rfl⟩
     have hsome : ((numT (envT fx ch) day l 0).2.isNone || (numT (envT fx ch) day l 1).2.isNone) = true := by
      rw [HNT0.out, HNT1.out]
      have h0 := HRR0.out.2.1
      have h1 := HRR1.out.2.1
      rw [h0, h1] at hbb'
      cases h2 : R0.2 <;> cases h3 : R1.2 <;> simp [h2, h3] at hbb' ⊢
     have HAL := Lib.hid (show AL.length = NA ∧ NA ≤ 128 ∧ askI (envT fx ch) day l 0 ++ askI (envT fx ch) day l 1 = AL from ⟨hNA, by omega, by rw [HASK0.out, HASK1.out, hAL]⟩)
     have HKP : Hid (keptH (envT fx ch) tod ⟨.node ⟨15, a, b', vn, vd⟩ l, pl, day, n, d⟩ = [⟨.node ⟨15, a, b', vn, vd⟩ l, pl, day, n, d⟩] ∧ stepT (envT fx ch) tod ⟨15, a, b', vn, vd⟩ l pl day n d = (0, [], [], AL)) := Lib.hid (by
      have e0 : (numT (envT fx ch) day l 0).1 = 0 := by rw [HNT0.out]; exact HRR0.out.1.symm
      have e1 : (numT (envT fx ch) day l 1).1 = 0 := by rw [HNT1.out]; exact HRR1.out.1.symm
      refine ⟨?_, ?_⟩
      ·rw [HKH.out, if_neg (show ¬ tod < day by have := HDT.out; omega)]
       simp only [e0, e1, hsome, and_self, if_true]
       rfl
      ·have : stepT (envT fx ch) tod ⟨15, a, b', vn, vd⟩ l pl day n d = condT (envT fx ch) l pl day n d := by simp [stepT]
       rw [this]
       unfold condT
       rw [if_neg (by rw [e0]; simp), if_neg (by rw [e1]; simp), HAL.out.2.2]
       cases h2 : (numT (envT fx ch) day l 0).2 with
       | none => rfl
       | some v =>
        cases h3 : (numT (envT fx ch) day l 1).2 with
        | none => rfl
        | some u => rw [h2, h3] at hsome; cases hsome)
     have HKEEP := Lib.hid (fun (av : Value) W1 (hl : Later w4 W1) hA hAb => tkeep_later (b := b) hl04.size (by have := HLEN.out; omega) AL (by have := HLEN.out; omega) HS4.out ⟨.node ⟨15, a, b', vn, vd⟩ l, pl, day, n, d⟩ (pl : Int) rfl av W1 hl hA hAb)
     have g0 := G0.out
     have g1 := G1.out
     clear hAL hNA hAF HASK0 HNA0 HASK1 HNA1 HNT0 HNT1 HRC0 HRC1 HRR0 HRR1 hsome HKH HK5 hnot x1 x2 y1 y2 G0 G1 G2 G3
     rcases Bool.eq_false_or_eq_true B0 with hB | hB
     ·subst hB
      obtain rfl : B1 = false := by simpa using hbb'
      clear hy hbb'
      go_upto_region 6 with (fail)
      clear x0 y0 zB zC
      refine V.wp_region_plan 15 (.two [0, 3, 4, 5, 6, 7, 8, 9, 10, 11, 12] 1 (.one [2] 13 (.one [] 14 (.one [] 15 (.done [])))) 13 (.two [] 1 (.one [2] 14 (.one [] 15 (.done []))) 14 (.one [] 1 (.one [2] 15 (.done []))))) (by kernel_rfl) (by kernel_rfl) (fun _ _ d _ _ h => by cases d <;> exact h) ?_
      repeat' (first
       | ((first | refine plan_done (fun K hK => ?_) | refine plan_one (by rfl) (fun K hK => ?_)); (first | (simp only [zq9]; repeat (go_big_quiet_step (fail))) | simp only [pick_nil]); refine wpQuiet_nil (hK _ ?_); clear hK K)
       | (refine plan_two (by rfl) (by rfl) (fun K hK => ?_); (first | (simp only [zq9]; repeat (go_big_quiet_step (fail))) | simp only [pick_nil]); refine wpQuiet_nil (hK _ ?_); clear hK K; refine ⟨?_, ?_⟩)
       | ((with_reducible refine at_list ?_); go_wp2_with (first | (go_at_call 170; go_must (with_reducible refine Calls.mono (HASKS.out _ (by repeat (first | with_reducible (first | exact zq1 _ | assumption | refine zq2 ?_ | refine zq4 ?_ ?_ _ | refine zq5 ?_ _ | refine zq6 ?_ _ | refine zq7 ?_ | refine zq8 ?_ (by assumption)) | (simp only [zq10]; omega) | (simp; done) | (simp; omega))) _ (ints2d _ _ rfl)) ?_; rintro e w5 ⟨v5, rfl, hi5, hb5, hf5⟩; obtain ⟨p5, c5, rfl⟩ := hi5.form; rw [HAL.out.1] at hi5 hf5 ⊢)) | (go_at_call 124; go_must (with_reducible refine Calls.mono (HKEEP.out _ _ (by repeat (first | with_reducible (first | exact zq1 _ | assumption | refine zq2 ?_ | refine zq4 ?_ ?_ _ | refine zq5 ?_ _ | refine zq6 ?_ _ | refine zq7 ?_ | refine zq8 ?_ (by assumption)) | (simp only [zq10]; omega) | (simp; done) | (simp; omega))) hi5 hf5) ?_; rintro e w9 ⟨rfl, kv9, wv9, hs9, hz9⟩))); first | refine behind_store (t := 15) (by decide) ?_ | refine behind (by with_reducible repeat (first | exact zq1 _ | assumption | refine zq2 ?_ | refine zq5 ?_ _ | refine zq6 ?_ _ | refine zq7 ?_ | refine zq8 ?_ (by assumption))) ?_))
      all_goals
       have hfin : Later w0 w9 := lat_base hz9 (hl04.trans (by repeat (first | with_reducible (first | exact zq1 _ | assumption | refine zq2 ?_ | refine zq4 ?_ ?_ _ | refine zq5 ?_ _ | refine zq6 ?_ _ | refine zq7 ?_ | refine zq8 ?_ (by assumption)) | (simp only [zq10]; omega) | (simp; done) | (simp; omega)))) (fun k hk => hk.elim (fun e => e ▸ HS4.out.lob) (fun e => e.elim (fun e => (HS4.out.kept.lo k e).1) (fun e => (HS4.out.waits.lo k e).1)))
       go_wp2_with fail
       go_ret
       exact turn_end (r := (0, [], [], AL)) (kp := [⟨.node ⟨15, a, b', vn, vd⟩ l, pl, day, n, d⟩]) hs9 HKP.out.2 HKP.out.1 (by simp) (by simp) (by simp) (by simp) hfin
     ·subst hB
      clear hy hbb'
      go_upto_region 6 with (fail)
      clear x0 y0 zB zC
      refine V.wp_region_plan 15 (.two [0, 3, 4, 5, 6, 7, 8, 9, 10, 11, 12] 1 (.one [2] 13 (.one [] 14 (.one [] 15 (.done [])))) 13 (.two [] 1 (.one [2] 14 (.one [] 15 (.done []))) 14 (.one [] 1 (.one [2] 15 (.done []))))) (by kernel_rfl) (by kernel_rfl) (fun _ _ d _ _ h => by cases d <;> exact h) ?_
      repeat' (first
       | ((first | refine plan_done (fun K hK => ?_) | refine plan_one (by rfl) (fun K hK => ?_)); (first | (simp only [zq9]; repeat (go_big_quiet_step (fail))) | simp only [pick_nil]); refine wpQuiet_nil (hK _ ?_); clear hK K)
       | (refine plan_two (by rfl) (by rfl) (fun K hK => ?_); (first | (simp only [zq9]; repeat (go_big_quiet_step (fail))) | simp only [pick_nil]); refine wpQuiet_nil (hK _ ?_); clear hK K; refine ⟨?_, ?_⟩)
       | ((with_reducible refine at_list ?_); go_wp2_with (first | (go_at_call 170; go_must (with_reducible refine Calls.mono (HASKS.out _ (by repeat (first | with_reducible (first | exact zq1 _ | assumption | refine zq2 ?_ | refine zq4 ?_ ?_ _ | refine zq5 ?_ _ | refine zq6 ?_ _ | refine zq7 ?_ | refine zq8 ?_ (by assumption)) | (simp only [zq10]; omega) | (simp; done) | (simp; omega))) _ (ints2d _ _ rfl)) ?_; rintro e w5 ⟨v5, rfl, hi5, hb5, hf5⟩; obtain ⟨p5, c5, rfl⟩ := hi5.form; rw [HAL.out.1] at hi5 hf5 ⊢)) | (go_at_call 124; go_must (with_reducible refine Calls.mono (HKEEP.out _ _ (by repeat (first | with_reducible (first | exact zq1 _ | assumption | refine zq2 ?_ | refine zq4 ?_ ?_ _ | refine zq5 ?_ _ | refine zq6 ?_ _ | refine zq7 ?_ | refine zq8 ?_ (by assumption)) | (simp only [zq10]; omega) | (simp; done) | (simp; omega))) hi5 hf5) ?_; rintro e w9 ⟨rfl, kv9, wv9, hs9, hz9⟩))); first | refine behind_store (t := 15) (by decide) ?_ | refine behind (by with_reducible repeat (first | exact zq1 _ | assumption | refine zq2 ?_ | refine zq5 ?_ _ | refine zq6 ?_ _ | refine zq7 ?_ | refine zq8 ?_ (by assumption))) ?_))
      all_goals
       have hfin : Later w0 w9 := lat_base hz9 (hl04.trans (by repeat (first | with_reducible (first | exact zq1 _ | assumption | refine zq2 ?_ | refine zq4 ?_ ?_ _ | refine zq5 ?_ _ | refine zq6 ?_ _ | refine zq7 ?_ | refine zq8 ?_ (by assumption)) | (simp only [zq10]; omega) | (simp; done) | (simp; omega)))) (fun k hk => hk.elim (fun e => e ▸ HS4.out.lob) (fun e => e.elim (fun e => (HS4.out.kept.lo k e).1) (fun e => (HS4.out.waits.lo k e).1)))
       go_wp2_with fail
       go_ret
       exact turn_end (r := (0, [], [], AL)) (kp := [⟨.node ⟨15, a, b', vn, vd⟩ l, pl, day, n, d⟩]) hs9 HKP.out.2 HKP.out.1 (by simp) (by simp) (by simp) (by simp) hfin
   ·have HER : Hid (stepT (envT fx ch) tod ⟨15, a, b', vn, vd⟩ l pl day n d = (11, [], [], []) ∧ keptH (envT fx ch) tod ⟨.node ⟨15, a, b', vn, vd⟩ l, pl, day, n, d⟩ = []) := Lib.hid (by
     have h0 : R0.1 = 0 ∨ R0.1 = 11 := by rcases HRC0.out with h | h | ⟨un, ud, h, hv⟩ <;> rw [h] <;> simp
     have h1 : R1.1 = 0 ∨ R1.1 = 11 := by rcases HRC1.out with h | h | ⟨un, ud, h, hv⟩ <;> rw [h] <;> simp
     have e0 := HRR0.out.1
     have e1 := HRR1.out.1
     have hst : stepT (envT fx ch) tod ⟨15, a, b', vn, vd⟩ l pl day n d = condT (envT fx ch) l pl day n d := by simp [stepT]
     rw [hst, HKH.out, if_neg (show ¬ tod < day by have := HDT.out; omega)]
     unfold condT
     rw [HNT0.out, HNT1.out]
     rcases h0 with h0 | h0
     ·have h2 : R1.1 = 11 := by
       rcases h1 with h1 | h1
       ·exact absurd ⟨by rw [e0, h0], by rw [e1, h1]⟩ he
       ·exact h1
      simp [h0, h2]
     ·simp [h0])
    by_cases he0 : E0 = 0
    ·subst he0
     have he1 : E1 ≠ 0 := fun e => he ⟨rfl, e⟩
     have hb1 : (E1 == 0) = false := by simpa using he1
     have hb2 : (E1 != 0) = true := by simpa using he1
     clear he he1
     go_wp2_with fail
     go_ret
     exact turn_end (r := (11, [], [], [])) (kp := []) HS4.out HER.out.1 HER.out.2 (by simp) (by simp) (by simp) (by simp) hl04
    ·have hb1 : (E0 == 0) = false := by simpa using he0
     have hb2 : (E0 != 0) = true := by simpa using he0
     clear he he0
     go_wp2_with fail
     go_ret
     exact turn_end (r := (11, [], [], [])) (kp := []) HS4.out HER.out.1 HER.out.2 (by simp) (by simp) (by simp) (by simp) hl04
end Go.Proofs.YtkjabiabeemfhaaGreatDoor
end
