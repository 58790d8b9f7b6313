/- step: what a turn does with what is scaled (printed by gen_turns.py) -/
import Derived.Test.YtkjabiabeemfhaaGreatDoorZ23
set_option linter.all false
set_option linter.all false
section
namespace Go.Proofs.YtkjabiabeemfhaaGreatDoor
open Go.RowKit
set_option maxRecDepth 100000
set_option maxHeartbeats 8000000 in
theorem tsc_13 {w0 : World} {ts : List Nd} {T : Tm} {tv : Value} {fx : FxL} {ch : ChL} {p m1 m2 : Nat} (hJ : JobAt w0 ts T tv fx ch p m1 m2) (w : World) (hw0 : Later w0 w) (b : Nat) (tod : Int) (ht0 : -1 ≤ tod) (ht1 : tod ≤ 73048) (nv kv fv wv : Value) (H K : List Hd) (F : List Fl) (W : List Wt)
  (hst : TurnAt w0.heap.size w b tv tod (.pointer (some ⟨p, 0, none⟩)) nv kv fv wv H K F W) (hH : H.length ≤ 1000) (hK : K.length ≤ 1000) (hF : F.length ≤ 1000) (hW : W.length ≤ 90000) (a b' vn vd : Int) (l : List Tm) (pl : Nat) (day n d : Int) (hh : HdOk ts ⟨.node ⟨13, a, b', vn, vd⟩ l, pl, day, n, d⟩) (hdt : ¬ tod < day)
  (bv : Value) (hB : IsInts w bv (placesI pl l 2)) (hBz : ∀ k, bv.ownBlock = some k → k ≠ b ∧ nv.ownBlock ≠ some k) :
  Calls Tryz.prog 127 #[.pointer (some ⟨b, 0, none⟩), .agg #[.int .i64 pl, .int .i64 day, .int .i64 n, .int .i64 d], bv] w (TurnEnd (stepT (envT fx ch) tod ⟨13, a, b', vn, vd⟩ l pl day n d) (keptH (envT fx ch) tod ⟨.node ⟨13, a, b', vn, vd⟩ l, pl, day, n, d⟩) w0 b tv tod (.pointer (some ⟨p, 0, none⟩)) H K F W) := by
 obtain ⟨hT, hso, hmk, hd0, hd1, hva⟩ := hh
 simp only at hT hso hmk hd0 hd1 hva
 have hl : l.length = 2 := by have := hT.root.2.2.2; simpa [manyN] using this
 have hk : pl < ts.length := by have := hT.le; have := (Tm.node ⟨13, a, b', vn, vd⟩ l).size_pos; omega
 have hnd : ts[pl] = ⟨13, a, b', vn, vd⟩ := by have := hT.root.1; rw [List.getElem?_eq_getElem hk] at this; exact Option.some.inj this
 have hfld : fieldsB ⟨13, a, b', vn, vd⟩ = true := by rw [← hnd]; exact hJ.good.fields _ (List.getElem_mem hk)
 have hnok : (⟨13, a, b', vn, vd⟩ : Nd).ok := by rw [← hnd]; exact hJ.ok _ (List.getElem_mem hk)
 obtain ⟨tb, tq, tc, rfl, -, -, -⟩ := hJ.nodes.full hk
 have HJ := Lib.hid hJ
 have HN0 := Lib.hid (fun W1 (hl1 : Later w0 W1) => (hJ.nodes.later hl1).full hk)
 rw [hnd] at HN0
 have HST := Lib.hid hst
 have HT := Lib.hid hT
 have HSO := Lib.hid hso
 have HVA := Lib.hid hva
 have HLL := Lib.hid hl
 have HFLD := Lib.hid hfld
 have HNOK := Lib.hid hnok
 have HLEN := Lib.hid (show H.length ≤ 1000 ∧ K.length ≤ 1000 ∧ F.length ≤ 1000 ∧ W.length ≤ 90000 from ⟨hH, hK, hF, hW⟩)
 have HKH := Lib.hid (keptH_node (envT fx ch) tod ⟨13, a, b', vn, vd⟩ l pl day n d)
 have HDT := Lib.hid hdt
 have HPL := Lib.hid (placesI_length pl l 2)
 obtain ⟨PL, hPL⟩ : ∃ P, placesI pl l 2 = P := ⟨_, rfl⟩
 rw [hPL] at HPL hB
 have HPLE := Lib.hid hPL
 obtain ⟨bp, bc, rfl⟩ := hB.form
 rw [HPL.out] at hB hBz ⊢
 have HI := Lib.hid hB
 have HBZ := Lib.hid hBz
 have hzb : b < w.heap.size := hst.own.1.1
 have hlo := hw0.size
 have hkI : (pl : Int) < (ts.length : Int) := by omega
 have HDD := Lib.hid (show (0 ≤ day ∧ day ≤ 73048) ∧ (-1 ≤ tod ∧ tod ≤ 73048) from ⟨⟨hd0, hd1⟩, ht0, ht1⟩)
 clear hst hT hso hmk hva hl hnd hJ hfld hnok hH hF hW hK hdt hPL hB hBz hd0 hd1 ht0 ht1
 generalize ts.length = L at *
 have hl0 : 0 < l.length := by rw [HLL.out]; decide
 have HK0 : Hid (PL[0]'(by rw [HPL.out]; decide) = (placeN pl l 0 : Int)) := Lib.hid (by have := HPLE.out; subst this; simp [placesI])
 obtain ⟨K0, hK0⟩ : ∃ K : Nat, placeN pl l 0 = K := ⟨_, rfl⟩
 rw [hK0] at HK0
 obtain ⟨vb0, vo0, vc0, hv0, hvb0, g0⟩ := HI.out.full (j := 0) (by rw [HPL.out]; decide)
 rw [HK0.out] at g0
 rw [HPL.out] at hv0
 cases hv0
 rw [Nat.add_zero] at g0
 have HBV0 : Hid (vb0 < w.heap.size) := Lib.hid hvb0
 have hl1 : 1 < l.length := by rw [HLL.out]; decide
 have HK1 : Hid (PL[1]'(by rw [HPL.out]; decide) = (placeN pl l 1 : Int)) := Lib.hid (by have := HPLE.out; subst this; simp [placesI])
 obtain ⟨K1, hK1⟩ : ∃ K : Nat, placeN pl l 1 = K := ⟨_, rfl⟩
 rw [hK1] at HK1
 obtain ⟨vb1, vo1, vc1, hv1, hvb1, g1⟩ := HI.out.full (j := 1) (by rw [HPL.out]; decide)
 rw [HK1.out] at g1
 rw [HPL.out] at hv1
 cases hv1
 obtain ⟨⟨hd0, hd1⟩, -⟩ := HDD.out
 obtain ⟨n10, n20, n30⟩ := kid_num HJ.out.good HJ.out.ok HT.out HSO.out hl0 (show belI 13 0 = 1 by decide)
 rw [hK0] at n10 n30
 obtain ⟨R0, hR0⟩ : ∃ R, valT (getF fx day) l[0] = R := ⟨_, rfl⟩
 have hres0 := valT_res (getOk_of HJ.out.fo day) n20
 rw [hR0] at hres0
 have HNT0 : Hid (numT (envT fx ch) day l 0 = R0) := Lib.hid (by unfold numT; rw [List.getElem?_eq_getElem hl0]; exact hR0)
 have HASK0 : Hid (askI (envT fx ch) day l 0 = asksT (envT fx ch) day l[0]) := Lib.hid (by unfold askI; rw [List.getElem?_eq_getElem hl0])
 have HNA0 : Hid (TmAt ts K0 l[0] ∧ NumT l[0] ∧ wrongV ts (K0 : Nat) = 0) := Lib.hid ⟨n10, n20, n30⟩
 have HAT0 : Hid (∀ W, Later w0 W → Calls Tryz.prog 169 #[.slice (some ⟨tb, tq, none⟩) L tc, .int .i64 (K0 : Nat), .int .i64 day, .pointer (some ⟨p, 0, none⟩)] W fun e w' => e = .returned (.tuple #[valR R0, .int .i64 R0.1]) ∧ Later W w') := Lib.hid (fun W hW => by
  have := vat_any ts fx ch p m1 m2 (K0 : Nat) day _ W HJ.out.len HJ.out.ok ⟨by omega, by omega⟩ (getOk_of HJ.out.fo day) (HJ.out.sh.later hW) (HJ.out.nodes.later hW) (HJ.out.facts.later hW)
  rw [vat_place n10 n30 hd0 hd1, hR0] at this
  exact this)
 unfold valR at HAT0
 obtain ⟨E0, hE0⟩ : ∃ x, R0.1 = x := ⟨_, rfl⟩
 obtain ⟨B0, hB0⟩ : ∃ x, R0.2.isSome = x := ⟨_, rfl⟩
 obtain ⟨N0, hN0⟩ : ∃ x, outN R0 = x := ⟨_, rfl⟩
 obtain ⟨D0, hD0⟩ : ∃ x, outD R0 = x := ⟨_, rfl⟩
 rw [hE0, hB0, hN0, hD0] at HAT0
 have HRR0 := Lib.hid (show E0 = R0.1 ∧ B0 = R0.2.isSome ∧ N0 = outN R0 ∧ D0 = outD R0 from ⟨hE0.symm, hB0.symm, hN0.symm, hD0.symm⟩)
 have HRC0 := Lib.hid hres0.cases
 clear n10 n20 n30 hR0 hE0 hB0 hN0 hD0 hres0
 clear hd0 hd1
 go_enter Tryz.func127, Tryz.ntmps127
 go_upto_region 1 with (fail)
 refine wp_opaque (fun w1 hb1 => ?_)
 have hO1 := Own.one hb1
 have hl1 : Later w w1 := hb1.un1
 clear hb1
 obtain ⟨A, hA⟩ : ∃ A, w.heap.size = A := ⟨_, rfl⟩
 rw [hA] at hO1 ⊢
 have HOA1 := Lib.hid hO1
 obtain ⟨⟨zA, cA, fA⟩, -⟩ := hO1
 have k0 : w1.cell? ⟨A, 0, none⟩ = some (.int .i64 pl) := cA 0
 have k1 : w1.cell? ⟨A, 1, none⟩ = some (.int .i64 day) := cA 1
 have k2 : w1.cell? ⟨A, 2, none⟩ = some (.int .i64 n) := cA 2
 have k3 : w1.cell? ⟨A, 3, none⟩ = some (.int .i64 d) := cA 3
 have kf1 : w1.frozen? ⟨A, 1, none⟩ = false := fA 1 (by simp)
 have kf2 : w1.frozen? ⟨A, 2, none⟩ = false := fA 2 (by simp)
 have kf3 : w1.frozen? ⟨A, 3, none⟩ = false := fA 3 (by simp)
 have s4 : w1.cell? ⟨b, 4, none⟩ = some (.slice (some ⟨tb, tq, none⟩) L tc) := (HST.out.later hl1).own.1.2.1 4
 have s6 : w1.cell? ⟨b, 6, none⟩ = some (.pointer (some ⟨p, 0, none⟩)) := (HST.out.later hl1).own.1.2.1 6
 have hzb1 : b < w1.heap.size := Nat.lt_of_lt_of_le hzb hl1.size
 have hl01 := hw0.trans hl1
 have HS1 := Lib.hid (HST.out.later hl1)
 have hz1 := hl1.size
 rw [hA] at hz1 hlo
 have HAW : Hid (w.heap.size = A) := Lib.hid hA
 have hbA : b < A := by omega
 clear cA fA
 go_cut [7, 8] (fun s7 s8 wx => ∃ bb, s7 = .pointer (some ⟨bb, 0, none⟩) ∧ s8 = .int .i64 E0 ∧ Own wx [(bb, #[.bool B0, .int .i64 N0, .int .i64 D0])] ∧ w1.heap.size ≤ bb ∧ Later w1 wx)
 case first =>
  clear HOA1 hA HS1 k0 k2 k3 kf1 kf2 kf3 g1
  have hgv0 : w1.cell? ⟨vb0, vo0, none⟩ = some (.int .i64 (K0 : Int)) := (bcell hl1).1 _ _ hvb0 |>.trans g0
  have hgz : vb0 < w1.heap.size := Nat.lt_of_lt_of_le hvb0 hl1.size
  refine U.wp_region_plan 18 (.three [0, 4, 5, 6, 7, 8, 9] 1 (.two [2, 3] 10 (.two [11, 12] 13 (.one [14, 15, 16] 17 (.one [] 18 (.done [19]))) 17 (.one [] 13 (.one [14, 15, 16] 18 (.done [19])))) 17 (.one [] 10 (.one [11, 12] 13 (.one [14, 15, 16] 18 (.done [19]))))) 10 (.two [11, 12] 1 (.two [2, 3] 13 (.one [14, 15, 16] 17 (.one [] 18 (.done [19]))) 17 (.one [] 13 (.one [14, 15, 16] 18 (.done [19])))) 17 (.one [] 1 (.one [2, 3] 13 (.one [14, 15, 16] 18 (.done [19]))))) 17 (.two [] 1 (.one [2, 3] 10 (.one [11, 12] 13 (.one [14, 15, 16] 18 (.done [19])))) 10 (.one [11, 12] 1 (.one [2, 3] 13 (.one [14, 15, 16] 18 (.done [19])))))) (by kernel_rfl) (by kernel_rfl) (fun _ _ d _ _ h => by cases d <;> exact h) ?_
  repeat' (first
   | ((first | refine plan_done (fun K hK => ?_) | refine plan_one (by rfl) (fun K hK => ?_)); (first | (simp only [zq9]; repeat (go_big_quiet_step (fail))) | simp only [pick_nil]); refine wpQuiet_nil (hK _ ?_); clear hK K)
   | (refine plan_two (by rfl) (by rfl) (fun K hK => ?_); (first | (simp only [zq9]; repeat (go_big_quiet_step (fail))) | simp only [pick_nil]); refine wpQuiet_nil (hK _ ?_); clear hK K; refine ⟨?_, ?_⟩)
   | (refine plan_three (by rfl) (by rfl) (by rfl) (fun K hK => ?_); (first | (simp only [zq9]; repeat (go_big_quiet_step (fail))) | simp only [pick_nil]); refine wpQuiet_nil (hK _ ?_); clear hK K; refine ⟨?_, ?_, ?_⟩)
   | ((with_reducible refine at_list ?_); go_wp2_with ((go_at_call 169; go_must (refine (HAT0.out _ (hl01.trans (by repeat (first | with_reducible (first | exact zq1 _ | assumption | refine zq2 ?_ | refine zq4 ?_ ?_ _ | refine zq5 ?_ _ | refine zq6 ?_ _ | refine zq7 ?_ | refine zq8 ?_ (by assumption)) | (simp only [zq10]; omega) | (simp; done) | (simp; omega))))).mono ?_; rintro e ua ⟨rfl, hua⟩; (first | (with_reducible have hx5 := Own.one hua) | (with_reducible have hx5 := own_one_d hua) | skip); (first | have hy5 := own_get hx5 | skip); (first | have cx5 := hy5.2.1 | skip); (first | have fx5 := hy5.2.2 | skip); have hzhua := Later.size hua; (try simp only [World.size_alloc, World.size_drew] at hzhua)))); first | refine behind_store (t := 18) (by decide) ?_ | refine behind (by with_reducible repeat (first | exact zq1 _ | assumption | refine zq2 ?_ | refine zq5 ?_ _ | refine zq6 ?_ _ | refine zq7 ?_ | refine zq8 ?_ (by assumption))) ?_))
  all_goals
   go_wp2_with fail
   go_meet
   first
    | exact ⟨_, rfl, rfl, own_alloc _ _ _, by first | exact Nat.le_refl _ | exact hzhua | omega, by repeat (first | with_reducible (first | exact zq1 _ | assumption | refine zq2 ?_ | refine zq4 ?_ ?_ _ | refine zq5 ?_ _ | refine zq6 ?_ _ | refine zq7 ?_ | refine zq8 ?_ (by assumption)) | (simp only [zq10]; omega) | (simp; done) | (simp; omega))⟩
    | exact ⟨_, rfl, rfl, own_set3 hx5, by first | exact Nat.le_refl _ | omega, by repeat (first | with_reducible (first | exact zq1 _ | assumption | refine zq2 ?_ | refine zq4 ?_ ?_ _ | refine zq5 ?_ _ | refine zq6 ?_ _ | refine zq7 ?_ | refine zq8 ?_ (by assumption)) | (simp only [zq10]; omega) | (simp; done) | (simp; omega))⟩
 case rest =>
  obtain ⟨bb, rfl, rfl, hob, hbb, hlx⟩ := hcut
  obtain ⟨w4, rfl⟩ : ∃ x, x = wc := ⟨_, rfl⟩
  have hl4 := hl1.trans hlx
  have HS4 := Lib.hid (HS1.out.later hlx)
  have hl04 := hl01.trans hlx
  have HOA := Lib.hid (HOA1.out.later hlx)
  have zA4 := Nat.lt_of_lt_of_le zA hlx.size
  have zb4 := Nat.lt_of_lt_of_le hzb1 hlx.size
  replace k0 := (bcell hlx).1 _ 0 zA |>.trans k0
  replace k1 := (bcell hlx).1 _ 1 zA |>.trans k1
  replace k2 := (bcell hlx).1 _ 2 zA |>.trans k2
  replace k3 := (bcell hlx).1 _ 3 zA |>.trans k3
  replace kf2 := (bcell hlx).2 _ 2 zA |>.trans kf2
  replace kf3 := (bcell hlx).2 _ 3 zA |>.trans kf3
  replace g0 := (bcell hl4).1 _ _ hvb0 |>.trans g0
  replace g1 := (bcell hl4).1 _ _ hvb1 |>.trans g1
  replace hvb0 := Nat.lt_of_lt_of_le hvb0 hl4.size
  obtain ⟨zB, cB, -⟩ := own_get hob
  have x0 := cB 0
  have x1 := cB 1
  have x2 := cB 2
  simp only [List.getElem?_toArray, List.getElem?_cons_zero, List.getElem?_cons_succ] at x0 x1 x2
  clear HS1 HOA1 hob cB hl1 hl01 hlx zA hzb1 s4 s6 kf1 HAT0
  rcases HRC0.out with hr | hr | ⟨un, ud, hr, hvu⟩
  ·obtain ⟨rfl, rfl, rfl, rfl⟩ := HRR0.out
   subst hr
   go_wp2_with fail
   go_ret
   exact turn_end (r := (11, [], [], [])) (kp := []) HS4.out (by simp [stepT, scaleT, HNT0.out]) (by rw [HKH.out, if_neg (show ¬ tod < day by have := HDT.out; omega)]; simp [HNT0.out]) (by simp) (by simp) (by simp) (by simp) hl04
  ·obtain ⟨rfl, rfl, rfl, rfl⟩ := HRR0.out
   subst hr
   obtain ⟨AL, hAL⟩ : ∃ A, asksT (envT fx ch) day l[0] = A := ⟨_, rfl⟩
   have HASKS := Lib.hid (fun W1 (hl : Later w4 W1) (pv : Value) (hp : IsInts W1 pv [(K0 : Int)]) => tasks_at HJ.out hl04 HS4.out HDD.out.1.1 HDD.out.1.2 [(K0, l[0])] (by simp) (numsAt_one HNA0.out) (AL := AL) (by simpa using hAL) W1 hl pv hp)
   have hAF : AL.length ≤ 64 := by rw [← hAL]; exact asks_few _ _ _
   obtain ⟨NA, hNA⟩ : ∃ n, AL.length = n := ⟨_, rfl⟩
   have HAL := Lib.hid (show AL.length = NA ∧ NA ≤ 64 ∧ askI (envT fx ch) day l 0 = AL from ⟨hNA, by omega, by rw [HASK0.out, hAL]⟩)
   have HKEEP := Lib.hid (fun (av : Value) W1 (hl : Later w4 W1) hA hAb => tkeep_later (b := b) hl04.size (by have := HLEN.out; omega) AL (by have := HLEN.out; omega) HS4.out ⟨.node ⟨13, a, b', vn, vd⟩ l, pl, day, n, d⟩ (pl : Int) rfl av W1 hl hA hAb)
   clear hAL hNA hAF HASK0 HNA0 x1 x2 g1 kf2 kf3
   go_upto_region 5 with (fail)
   refine V.wp_region_plan 12 (.two [0, 3, 4, 5, 6, 7, 8, 9] 1 (.one [2] 10 (.one [] 11 (.one [] 12 (.done [])))) 10 (.two [] 1 (.one [2] 11 (.one [] 12 (.done []))) 11 (.one [] 1 (.one [2] 12 (.done []))))) (by kernel_rfl) (by kernel_rfl) (fun _ _ d _ _ h => by cases d <;> exact h) ?_
   repeat' (first
    | ((first | refine plan_done (fun K hK => ?_) | refine plan_one (by rfl) (fun K hK => ?_)); (first | (simp only [zq9]; repeat (go_big_quiet_step (fail))) | simp only [pick_nil]); refine wpQuiet_nil (hK _ ?_); clear hK K)
    | (refine plan_two (by rfl) (by rfl) (fun K hK => ?_); (first | (simp only [zq9]; repeat (go_big_quiet_step (fail))) | simp only [pick_nil]); refine wpQuiet_nil (hK _ ?_); clear hK K; refine ⟨?_, ?_⟩)
    | ((with_reducible refine at_list ?_); go_wp2_with (first | (go_at_call 170; go_must (with_reducible refine Calls.mono (HASKS.out _ (by repeat (first | with_reducible (first | exact zq1 _ | assumption | refine zq2 ?_ | refine zq4 ?_ ?_ _ | refine zq5 ?_ _ | refine zq6 ?_ _ | refine zq7 ?_ | refine zq8 ?_ (by assumption)) | (simp only [zq10]; omega) | (simp; done) | (simp; omega))) _ (ints1 _ rfl)) ?_; rintro e w5 ⟨v5, rfl, hi5, hb5, hf5⟩; obtain ⟨p5, c5, rfl⟩ := hi5.form; rw [HAL.out.1] at hi5 hf5 ⊢)) | (go_at_call 124; go_must (with_reducible refine Calls.mono (HKEEP.out _ _ (by repeat (first | with_reducible (first | exact zq1 _ | assumption | refine zq2 ?_ | refine zq4 ?_ ?_ _ | refine zq5 ?_ _ | refine zq6 ?_ _ | refine zq7 ?_ | refine zq8 ?_ (by assumption)) | (simp only [zq10]; omega) | (simp; done) | (simp; omega))) hi5 hf5) ?_; rintro e w9 ⟨rfl, kv9, wv9, hs9, hz9⟩))); first | refine behind_store (t := 12) (by decide) ?_ | refine behind (by with_reducible repeat (first | exact zq1 _ | assumption | refine zq2 ?_ | refine zq5 ?_ _ | refine zq6 ?_ _ | refine zq7 ?_ | refine zq8 ?_ (by assumption))) ?_))
   all_goals
    have hfin : Later w0 w9 := lat_base hz9 (hl04.trans (by repeat (first | with_reducible (first | exact zq1 _ | assumption | refine zq2 ?_ | refine zq4 ?_ ?_ _ | refine zq5 ?_ _ | refine zq6 ?_ _ | refine zq7 ?_ | refine zq8 ?_ (by assumption)) | (simp only [zq10]; omega) | (simp; done) | (simp; omega)))) (fun k hk => hk.elim (fun e => e ▸ HS4.out.lob) (fun e => e.elim (fun e => (HS4.out.kept.lo k e).1) (fun e => (HS4.out.waits.lo k e).1)))
    go_wp2_with fail
    go_ret
    exact turn_end (r := (0, [], [], AL)) (kp := [⟨.node ⟨13, a, b', vn, vd⟩ l, pl, day, n, d⟩]) hs9 (by simp [stepT, scaleT, HNT0.out, HAL.out.2.2]) (by rw [HKH.out, if_neg (show ¬ tod < day by have := HDT.out; omega)]; simp [HNT0.out]) (by simp) (by simp) (by simp) (by simp) hfin
  ·obtain ⟨rfl, rfl, rfl, rfl⟩ := HRR0.out
   subst hr
   have HML := Lib.hid (fun W1 => Mul_good n d un ud W1 HVA.out hvu)
   have HST5 : Hid (stepT (envT fx ch) tod ⟨13, a, b', vn, vd⟩ l pl day n d = if rE (n * un) (d * ud) ≠ 0 then (rE (n * un) (d * ud), [], [], []) else (0, [⟨l[1], placeN pl l 1, day, rN (n * un) (d * ud), rD (n * un) (d * ud)⟩], [], [])) := Lib.hid (by simp [stepT, scaleT, HNT0.out, kidH_at hl1])
   have HK5 : Hid (keptH (envT fx ch) tod ⟨.node ⟨13, a, b', vn, vd⟩ l, pl, day, n, d⟩ = []) := Lib.hid (by rw [HKH.out, if_neg (show ¬ tod < day by have := HDT.out; omega)]; simp [HNT0.out])
   obtain ⟨mN, hmN⟩ : ∃ x, rN (n * un) (d * ud) = x := ⟨_, rfl⟩
   obtain ⟨mD, hmD⟩ : ∃ x, rD (n * un) (d * ud) = x := ⟨_, rfl⟩
   obtain ⟨mE, hmE⟩ : ∃ x, rE (n * un) (d * ud) = x := ⟨_, rfl⟩
   rw [hmN, hmD, hmE] at HST5 HML
   replace x1 : w4.cell? ⟨bb, 1, none⟩ = some (.int .i64 un) := x1
   replace x2 : w4.cell? ⟨bb, 2, none⟩ = some (.int .i64 ud) := x2
   clear hmN hmD hmE HASK0 HNA0 HNT0 HKH hvu g0
   go_upto_region 8 with (go_at_call 136; go_must (refine (HML.out _).mono ?_; rintro e w5 ⟨rfl, hb5⟩; have kz5 := Nat.lt_of_lt_of_le zA4 hb5.size; replace kf2 := (bcell hb5).2 _ 2 zA4 |>.trans kf2; replace kf3 := (bcell hb5).2 _ 3 zA4 |>.trans kf3; have kc2 : w5.cell? ⟨A, 2, none⟩ = some (.int .i64 n) := (bcell hb5).1 _ 2 zA4 |>.trans k2; have kc3 : w5.cell? ⟨A, 3, none⟩ = some (.int .i64 d) := (bcell hb5).1 _ 3 zA4 |>.trans k3))
   have hOB := B.own_at (B.own_at (HOA.out.later hb5) (k := 2) (by simp) (.int .i64 mN)) (k := 3) (by simp) (.int .i64 mD)
   have hs6 := ((HS4.out.later hb5).set A 2 (fun k hk => by have := HST.out.base k hk; have := HAW.out; omega) (.int .i64 mN)).set A 3 (fun k hk => by have := HST.out.base k hk; have := HAW.out; omega) (.int .i64 mD)
   have hl6 : Later w0 ((w5.setCell ⟨A, 2, none⟩ (.int .i64 mN)).setCell ⟨A, 3, none⟩ (.int .i64 mD)) := ((hl04.trans hb5).putCell (by omega) _).putCell (by omega) _
   have hl46 : S.LatB (fun k => k = A) w4 ((w5.setCell ⟨A, 2, none⟩ (.int .i64 mN)).setCell ⟨A, 3, none⟩ (.int .i64 mD)) := S.LatB.setCell (S := fun k => k = A) (S.LatB.setCell (S := fun k => k = A) (S.LatB.of hb5) (.inl rfl) _) (.inl rfl) _
   obtain ⟨w6, hw6⟩ : ∃ x, (w5.setCell ⟨A, 2, none⟩ (.int .i64 mN)).setCell ⟨A, 3, none⟩ (.int .i64 mD) = x := ⟨_, rfl⟩
   rw [hw6] at hOB hs6 hl6 hl46 ⊢
   obtain ⟨zA6, cA6, -⟩ := own_get hOB
   have k0 := cA6 0
   have k1 := cA6 1
   have k2 := cA6 2
   have k3 := cA6 3
   simp at k0 k1 k2 k3
   have hnA : ¬ vb0 = A := fun e => by have := HBV0.out; have := HAW.out; omega
   replace g1 := (hl46.cell (p := ⟨vb0, _, none⟩) hvb0 hnA).trans g1
   have hgz6 := Nat.lt_of_lt_of_le hvb0 hl46.size
   have HS6 := Lib.hid hs6
   clear hw6 hOB cA6 hs6 kf2 kf3 kz5 kc2 kc3 x0 x1 x2
   by_cases hm : mE = 0
   ·subst hm
    have HPUT := Lib.hid (fun W1 (hl : Later w6 W1) => tthen_later (b := b) hl6.size (by have := HLEN.out; omega) HS6.out ⟨l[1], placeN pl l 1, day, mN, mD⟩ (pl : Int) (K1 : Int) (by rw [hK1]) W1 hl)
    go_upto_region 9 with (fail)
    refine V.wp_region_plan 7 (.one [0, 3, 4, 5, 6] 1 (.one [2] 7 (.done []))) (by kernel_rfl) (by kernel_rfl) (fun _ _ d _ _ h => by cases d <;> exact h) ?_
    repeat' (first
     | ((first | refine plan_done (fun K hK => ?_) | refine plan_one (by rfl) (fun K hK => ?_)); (first | (simp only [zq9]; repeat (go_big_quiet_step (fail))) | simp only [pick_nil]); refine wpQuiet_nil (hK _ ?_); clear hK K)
     | ((with_reducible refine at_list ?_); go_wp2_with ((go_at_call 168; go_must (refine (HPUT.out _ (by repeat (first | with_reducible (first | exact zq1 _ | assumption | refine zq2 ?_ | refine zq4 ?_ ?_ _ | refine zq5 ?_ _ | refine zq6 ?_ _ | refine zq7 ?_ | refine zq8 ?_ (by assumption)) | (simp only [zq10]; omega) | (simp; done) | (simp; omega)))).mono ?_; rintro e w9 ⟨rfl, nv9, hs9, hz9, hf9⟩))); first | refine behind_store (t := 7) (by decide) ?_ | refine behind (by with_reducible repeat (first | exact zq1 _ | assumption | refine zq2 ?_ | refine zq5 ?_ _ | refine zq6 ?_ _ | refine zq7 ?_ | refine zq8 ?_ (by assumption))) ?_))
    have hfin : Later w0 w9 := lat_base hz9 (by first | exact hl6.drew | exact hl6) (fun k hk => hk.elim (fun e => e ▸ HS4.out.lob) (fun e => (HS4.out.next.lo k e).1))
    go_wp2_with fail
    go_ret
    exact turn_end (r := (0, [⟨l[1], placeN pl l 1, day, mN, mD⟩], [], [])) (kp := []) hs9 (by rw [HST5.out]; rfl) HK5.out (by simp) (by simp) (by simp) (by simp) hfin
   ·have hb1 : (mE == 0) = false := by simpa using hm
    have hb2 : (mE != 0) = true := by simpa using hm
    go_wp2_with fail
    go_ret
    exact turn_end (r := (mE, [], [], [])) (kp := []) HS6.out (by rw [HST5.out, if_pos hm]) HK5.out (by simp) (by simp) (by simp) (by simp) hl6
end Go.Proofs.YtkjabiabeemfhaaGreatDoor
end
