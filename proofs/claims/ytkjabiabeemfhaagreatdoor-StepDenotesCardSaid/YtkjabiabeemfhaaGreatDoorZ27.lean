/- step: what a turn does by a choice (printed by gen_turns.py) -/
import Derived.Test.YtkjabiabeemfhaaGreatDoorZ23
set_option linter.all false
set_option linter.all false
section
namespace Go.Proofs.YtkjabiabeemfhaaGreatDoor
open Go.RowKit
set_option maxRecDepth 100000
set_option maxHeartbeats 8000000 in
theorem tch_16 {w0 : World} {ts : List Nd} {T : Tm} {tv : Value} {fx : FxL} {ch : ChL} {p m1 m2 : Nat} (hJ : JobAt w0 ts T tv fx ch p m1 m2) (w : World) (hw0 : Later w0 w) (b : Nat) (tod : Int) (ht0 : -1 ≤ tod) (ht1 : tod ≤ 73048) (nv kv fv wv : Value) (H K : List Hd) (F : List Fl) (W : List Wt)
  (hst : TurnAt w0.heap.size w b tv tod (.pointer (some ⟨p, 0, none⟩)) nv kv fv wv H K F W) (hH : H.length ≤ 1000) (hK : K.length ≤ 1000) (hF : F.length ≤ 1000) (hW : W.length ≤ 90000) (a b' vn vd : Int) (l : List Tm) (pl : Nat) (day n d : Int) (hh : HdOk ts ⟨.node ⟨16, a, b', vn, vd⟩ l, pl, day, n, d⟩) (hdt : ¬ tod < day)
  (bv : Value) (hB : IsInts w bv (placesI pl l 2)) (hBz : ∀ k, bv.ownBlock = some k → k ≠ b ∧ nv.ownBlock ≠ some k) :
  Calls Tryz.prog 129 #[.pointer (some ⟨b, 0, none⟩), .agg #[.int .i64 pl, .int .i64 day, .int .i64 n, .int .i64 d], bv] w (TurnEnd (stepT (envT fx ch) tod ⟨16, a, b', vn, vd⟩ l pl day n d) (keptH (envT fx ch) tod ⟨.node ⟨16, a, b', vn, vd⟩ l, pl, day, n, d⟩) w0 b tv tod (.pointer (some ⟨p, 0, none⟩)) H K F W) := by
 obtain ⟨hT, hso, hmk, hd0, hd1, hva⟩ := hh
 simp only at hT hso hmk hd0 hd1 hva
 have hl : l.length = 2 := by have := hT.root.2.2.2; simpa [manyN] using this
 have hk : pl < ts.length := by have := hT.le; have := (Tm.node ⟨16, a, b', vn, vd⟩ l).size_pos; omega
 have hnd : ts[pl] = ⟨16, a, b', vn, vd⟩ := by have := hT.root.1; rw [List.getElem?_eq_getElem hk] at this; exact Option.some.inj this
 have hfld : fieldsB ⟨16, a, b', vn, vd⟩ = true := by rw [← hnd]; exact hJ.good.fields _ (List.getElem_mem hk)
 have hnok : (⟨16, a, b', vn, vd⟩ : Nd).ok := by rw [← hnd]; exact hJ.ok _ (List.getElem_mem hk)
 obtain ⟨tb, tq, tc, rfl, -, -, -⟩ := hJ.nodes.full hk
 have HJ := Lib.hid hJ
 have HN0 := Lib.hid (fun W1 (hl1 : Later w0 W1) => (hJ.nodes.later hl1).full hk)
 rw [hnd] at HN0
 have HST := Lib.hid hst
 have HT := Lib.hid hT
 have HSO := Lib.hid hso
 have HVA := Lib.hid hva
 have HLL := Lib.hid hl
 have HFLD := Lib.hid hfld
 have HNOK := Lib.hid hnok
 have HLEN := Lib.hid (show H.length ≤ 1000 ∧ K.length ≤ 1000 ∧ F.length ≤ 1000 ∧ W.length ≤ 90000 from ⟨hH, hK, hF, hW⟩)
 have HKH := Lib.hid (keptH_node (envT fx ch) tod ⟨16, a, b', vn, vd⟩ l pl day n d)
 have HDT := Lib.hid hdt
 have HPL := Lib.hid (placesI_length pl l 2)
 obtain ⟨PL, hPL⟩ : ∃ P, placesI pl l 2 = P := ⟨_, rfl⟩
 rw [hPL] at HPL hB
 have HPLE := Lib.hid hPL
 obtain ⟨bp, bc, rfl⟩ := hB.form
 rw [HPL.out] at hB hBz ⊢
 have HI := Lib.hid hB
 have HBZ := Lib.hid hBz
 have hzb : b < w.heap.size := hst.own.1.1
 have hlo := hw0.size
 have hkI : (pl : Int) < (ts.length : Int) := by omega
 have HDD := Lib.hid (show (0 ≤ day ∧ day ≤ 73048) ∧ (-1 ≤ tod ∧ tod ≤ 73048) from ⟨⟨hd0, hd1⟩, ht0, ht1⟩)
 clear hst hT hso hmk hva hl hnd hJ hfld hnok hH hF hW hK hdt hPL hB hBz hd0 hd1 ht0 ht1
 generalize ts.length = L at *
 have hl0 : 0 < l.length := by rw [HLL.out]; decide
 have HK0 : Hid (PL[0]'(by rw [HPL.out]; decide) = (placeN pl l 0 : Int)) := Lib.hid (by have := HPLE.out; subst this; simp [placesI])
 obtain ⟨K0, hK0⟩ : ∃ K : Nat, placeN pl l 0 = K := ⟨_, rfl⟩
 rw [hK0] at HK0
 obtain ⟨vb0, vo0, vc0, hv0, hvb0, g0⟩ := HI.out.full (j := 0) (by rw [HPL.out]; decide)
 rw [HK0.out] at g0
 rw [HPL.out] at hv0
 cases hv0
 rw [Nat.add_zero] at g0
 have HBV0 : Hid (vb0 < w.heap.size) := Lib.hid hvb0
 have hl1 : 1 < l.length := by rw [HLL.out]; decide
 have HK1 : Hid (PL[1]'(by rw [HPL.out]; decide) = (placeN pl l 1 : Int)) := Lib.hid (by have := HPLE.out; subst this; simp [placesI])
 obtain ⟨K1, hK1⟩ : ∃ K : Nat, placeN pl l 1 = K := ⟨_, rfl⟩
 rw [hK1] at HK1
 obtain ⟨vb1, vo1, vc1, hv1, hvb1, g1⟩ := HI.out.full (j := 1) (by rw [HPL.out]; decide)
 rw [HK1.out] at g1
 rw [HPL.out] at hv1
 cases hv1
 go_enter Tryz.func129, Tryz.ntmps129
 go_upto_region 1 with (fail)
 refine wp_opaque (fun w1 hb1 => ?_)
 have hO1 := Own.one hb1
 have hl1 : Later w w1 := hb1.un1
 clear hb1
 obtain ⟨A, hA⟩ : ∃ A, w.heap.size = A := ⟨_, rfl⟩
 rw [hA] at hO1 ⊢
 have HOA1 := Lib.hid hO1
 obtain ⟨⟨zA, cA, fA⟩, -⟩ := hO1
 have k0 : w1.cell? ⟨A, 0, none⟩ = some (.int .i64 pl) := cA 0
 have k1 : w1.cell? ⟨A, 1, none⟩ = some (.int .i64 day) := cA 1
 have k2 : w1.cell? ⟨A, 2, none⟩ = some (.int .i64 n) := cA 2
 have k3 : w1.cell? ⟨A, 3, none⟩ = some (.int .i64 d) := cA 3
 have kf1 : w1.frozen? ⟨A, 1, none⟩ = false := fA 1 (by simp)
 have kf2 : w1.frozen? ⟨A, 2, none⟩ = false := fA 2 (by simp)
 have kf3 : w1.frozen? ⟨A, 3, none⟩ = false := fA 3 (by simp)
 have s4 : w1.cell? ⟨b, 4, none⟩ = some (.slice (some ⟨tb, tq, none⟩) L tc) := (HST.out.later hl1).own.1.2.1 4
 have s6 : w1.cell? ⟨b, 6, none⟩ = some (.pointer (some ⟨p, 0, none⟩)) := (HST.out.later hl1).own.1.2.1 6
 have hzb1 : b < w1.heap.size := Nat.lt_of_lt_of_le hzb hl1.size
 have hl01 := hw0.trans hl1
 have HS1 := Lib.hid (HST.out.later hl1)
 have hz1 := hl1.size
 rw [hA] at hz1 hlo
 have HAW : Hid (w.heap.size = A) := Lib.hid hA
 have hbA : b < A := by omega
 clear cA fA
 obtain ⟨tb', tq', tc', htv, hzt, hcap, y0, y1, y2, y3, y4⟩ := HN0.out w1 hl01
 cases htv
 clear HN0
 go_cut [7] (fun s7 wx => ∃ C, s7 = .pointer (some ⟨C, 0, none⟩) ∧ Own wx [(C, #[.int .i64 16, .int .i64 a, .int .i64 b', .int .i64 vn, .int .i64 vd])] ∧ w1.heap.size ≤ C ∧ Later w1 wx)
 case first =>
  have hO5 := Lib.hid (own_alloc w1 #[.int .i64 16, .int .i64 a, .int .i64 b', .int .i64 vn, .int .i64 vd] 61)
  clear HOA1 hl1 hA s6 HS1
  refine U.wp_region_plan 9 (.two [0, 4, 5] 1 (.one [2, 3, 6, 7] 8 (.one [] 9 (.done []))) 8 (.one [] 1 (.one [2, 3, 6, 7] 9 (.done [])))) (by kernel_rfl) (by kernel_rfl) (fun _ _ d _ _ h => by cases d <;> exact h) ?_
  repeat' (first
   | ((first | refine plan_done (fun K hK => ?_) | refine plan_one (by rfl) (fun K hK => ?_)); (first | (simp only [zq9]; repeat (go_big_quiet_step (fail))) | simp only [pick_nil]); refine wpQuiet_nil (hK _ ?_); clear hK K)
   | (refine plan_two (by rfl) (by rfl) (fun K hK => ?_); (first | (simp only [zq9]; repeat (go_big_quiet_step (fail))) | simp only [pick_nil]); refine wpQuiet_nil (hK _ ?_); clear hK K; refine ⟨?_, ?_⟩)
   | ((with_reducible refine at_list ?_); go_wp2_with (fail); first | refine behind_store (t := 9) (by decide) ?_ | refine behind (by with_reducible repeat (first | exact zq1 _ | assumption | refine zq2 ?_ | refine zq5 ?_ _ | refine zq6 ?_ _ | refine zq7 ?_ | refine zq8 ?_ (by assumption))) ?_))
  all_goals
   go_wp2_with fail
   go_meet
   first
    | exact ⟨_, rfl, own_alloc _ _ _, by simp, by repeat (first | with_reducible (first | exact zq1 _ | assumption | refine zq2 ?_ | refine zq4 ?_ ?_ _ | refine zq5 ?_ _ | refine zq6 ?_ _ | refine zq7 ?_ | refine zq8 ?_ (by assumption)) | (simp only [zq10]; omega) | (simp; done) | (simp; omega))⟩
    | exact ⟨_, rfl, own_set5 (own_alloc _ _ _), by simp, by repeat (first | with_reducible (first | exact zq1 _ | assumption | refine zq2 ?_ | refine zq4 ?_ ?_ _ | refine zq5 ?_ _ | refine zq6 ?_ _ | refine zq7 ?_ | refine zq8 ?_ (by assumption)) | (simp only [zq10]; omega) | (simp; done) | (simp; omega))⟩
 case rest =>
  obtain ⟨C, rfl, hOC, hCz, hl2⟩ := hcut
  obtain ⟨w4, rfl⟩ : ∃ x, x = wc := ⟨_, rfl⟩
  clear y0 y1 y2 y3 y4 hzt hcap s4
  replace k0 := (bcell hl2).1 _ 0 zA |>.trans k0
  replace k1 := (bcell hl2).1 _ 1 zA |>.trans k1
  replace k2 := (bcell hl2).1 _ 2 zA |>.trans k2
  replace k3 := (bcell hl2).1 _ 3 zA |>.trans k3
  replace kf1 := (bcell hl2).2 _ 1 zA |>.trans kf1
  replace kf2 := (bcell hl2).2 _ 2 zA |>.trans kf2
  replace kf3 := (bcell hl2).2 _ 3 zA |>.trans kf3
  replace s6 := (bcell hl2).1 _ 6 hzb1 |>.trans s6
  have hl4 := hl1.trans hl2
  have hl04 := hw0.trans hl4
  have HS4 := Lib.hid (HS1.out.later hl2)
  have HOA := Lib.hid (HOA1.out.later hl2)
  have HOC := Lib.hid hOC
  have hz4 := hl4.size
  have zA4 := Nat.lt_of_lt_of_le zA hl2.size
  have zb4 := Nat.lt_of_lt_of_le hzb1 hl2.size
  obtain ⟨zC, cC, -⟩ := own_get hOC
  have x0 := cC 0
  have x1 := cC 1
  have x2 := cC 2
  simp only [List.getElem?_toArray, List.getElem?_cons_zero, List.getElem?_cons_succ] at x0 x1 x2
  rw [HAW.out] at hz4
  have hCA : A < C := by have := zA; omega
  clear hOC cC hl1 hl2 HS1 HOA1 hl01 zA hzb1 hz1
  replace g0 := (bcell hl4).1 _ _ hvb0 |>.trans g0
  replace hvb0 := Nat.lt_of_lt_of_le hvb0 hl4.size
  replace g1 := (bcell hl4).1 _ _ hvb1 |>.trans g1
  replace hvb1 := Nat.lt_of_lt_of_le hvb1 hl4.size
  obtain ⟨⟨hd0, hd1⟩, -⟩ := HDD.out
  have HCH := Lib.hid (fun W1 (hl : Later w0 W1) => choice_any p m1 m2 fx ch a day W1 (HJ.out.facts.later hl) HNOK.out.2.1 ⟨by omega, by omega⟩)
  obtain ⟨g, hg⟩ : ∃ g, getA ch (a, day) = g := ⟨_, rfl⟩
  rw [hg] at HCH
  have HGC : Hid ((envT fx ch).cho a day = g) := Lib.hid hg
  have hgo : ∀ q, g = some q → q = 1 ∨ q = 2 := fun q hq => (HJ.out.co _ _ (hg.trans hq)).1
  have HKT := Lib.hid (show keptH (envT fx ch) tod ⟨.node ⟨16, a, b', vn, vd⟩ l, pl, day, n, d⟩ = if ((envT fx ch).cho a day).isNone = true then [⟨.node ⟨16, a, b', vn, vd⟩ l, pl, day, n, d⟩] else [] from by rw [HKH.out, if_neg (show ¬ tod < day by have := HDT.out; omega)]; simp)
  rw [HGC.out] at HKT
  clear hg hd0 hd1 HKH HT HSO HNOK HPLE kf1 kf2 kf3
  cases g with
  | some q =>
   have hq := hgo q rfl
   clear hgo
   go_upto_region 3 with (fail)
   refine wp_region_plan 14 (.one [0, 4, 5, 6, 7] 1 (.one [2, 3] 8 (.done [9, 10, 11, 12, 13]))) (by kernel_rfl) (by kernel_rfl) (fun _ _ d _ _ h => by cases d <;> exact h) ?_
   repeat' (first
    | ((first | refine plan_done (fun K hK => ?_) | refine plan_one (by rfl) (fun K hK => ?_)); (first | (simp only [zq9]; repeat (go_big_quiet_step (fail))) | simp only [pick_nil]); refine wpQuiet_nil (hK _ ?_); clear hK K)
    | ((with_reducible refine at_list ?_); go_wp2_with ((go_at_call 25; go_must (refine (HCH.out _ (hl04.trans (by repeat (first | with_reducible (first | exact zq1 _ | assumption | refine zq2 ?_ | refine zq4 ?_ ?_ _ | refine zq5 ?_ _ | refine zq6 ?_ _ | refine zq7 ?_ | refine zq8 ?_ (by assumption)) | (simp only [zq10]; omega) | (simp; done) | (simp; omega))))).mono ?_; rintro e w6 ⟨rfl, hb6⟩))); first | refine behind_store (t := 14) (by decide) ?_ | refine behind (by with_reducible repeat (first | exact zq1 _ | assumption | refine zq2 ?_ | refine zq5 ?_ _ | refine zq6 ?_ _ | refine zq7 ?_ | refine zq8 ?_ (by assumption))) ?_))
   have hl6 : Later w4 w6 := hb6.undrew'
   replace k0 := (bcell hl6).1 _ 0 zA4 |>.trans k0
   replace k1 := (bcell hl6).1 _ 1 zA4 |>.trans k1
   replace k2 := (bcell hl6).1 _ 2 zA4 |>.trans k2
   replace k3 := (bcell hl6).1 _ 3 zA4 |>.trans k3
   replace g0 := (bcell hl6).1 _ _ hvb0 |>.trans g0
   replace g1 := (bcell hl6).1 _ _ hvb1 |>.trans g1
   have zA6 := Nat.lt_of_lt_of_le zA4 hl6.size
   have hvb6 := Nat.lt_of_lt_of_le hvb0 hl6.size
   have hl06 := hl04.trans hl6
   have HS6 := Lib.hid (HS4.out.later hl6)
   clear HCH s6 x0 x1 x2
   rcases hq with rfl | rfl
   ·have HPUT := Lib.hid (fun W1 (hl : Later w6 W1) => tthen_later (b := b) hl06.size (by have := HLEN.out; omega) HS6.out ⟨l[0], placeN pl l 0, day, n, d⟩ (pl : Int) (K0 : Int) (by rw [hK0]) W1 hl)
    go_upto_region 5 with (fail)
    clear g1
    refine V.wp_region_plan 9 (.one [0, 3, 4, 5, 6, 7, 8] 1 (.one [2] 9 (.done []))) (by kernel_rfl) (by kernel_rfl) (fun _ _ d _ _ h => by cases d <;> exact h) ?_
    repeat' (first
     | ((first | refine plan_done (fun K hK => ?_) | refine plan_one (by rfl) (fun K hK => ?_)); (first | (simp only [zq9]; repeat (go_big_quiet_step (fail))) | simp only [pick_nil]); refine wpQuiet_nil (hK _ ?_); clear hK K)
     | ((with_reducible refine at_list ?_); go_wp2_with ((go_at_call 168; go_must (refine (HPUT.out _ (by repeat (first | with_reducible (first | exact zq1 _ | assumption | refine zq2 ?_ | refine zq4 ?_ ?_ _ | refine zq5 ?_ _ | refine zq6 ?_ _ | refine zq7 ?_ | refine zq8 ?_ (by assumption)) | (simp only [zq10]; omega) | (simp; done) | (simp; omega)))).mono ?_; rintro e w9 ⟨rfl, nv9, hs9, hz9, hf9⟩))); first | refine behind_store (t := 9) (by decide) ?_ | refine behind (by with_reducible repeat (first | exact zq1 _ | assumption | refine zq2 ?_ | refine zq5 ?_ _ | refine zq6 ?_ _ | refine zq7 ?_ | refine zq8 ?_ (by assumption))) ?_))
    have hfin : Later w0 w9 := lat_base hz9 (by first | exact hl06.drew | exact hl06) (fun k hk => hk.elim (fun e => e ▸ HS4.out.lob) (fun e => (HS4.out.next.lo k e).1))
    go_wp2_with fail
    go_ret
    exact turn_end (r := (0, [⟨l[0], placeN pl l 0, day, n, d⟩], [], [])) (kp := []) hs9 (by simp [stepT, HGC.out, kidH_at hl0]) (by rw [HKT.out]; rfl) (by simp) (by simp) (by simp) (by simp) hfin
   ·have HPUT := Lib.hid (fun W1 (hl : Later w6 W1) => tthen_later (b := b) hl06.size (by have := HLEN.out; omega) HS6.out ⟨l[1], placeN pl l 1, day, n, d⟩ (pl : Int) (K1 : Int) (by rw [hK1]) W1 hl)
    go_upto_region 5 with (fail)
    clear g0
    refine V.wp_region_plan 9 (.one [0, 3, 4, 5, 6, 7, 8] 1 (.one [2] 9 (.done []))) (by kernel_rfl) (by kernel_rfl) (fun _ _ d _ _ h => by cases d <;> exact h) ?_
    repeat' (first
     | ((first | refine plan_done (fun K hK => ?_) | refine plan_one (by rfl) (fun K hK => ?_)); (first | (simp only [zq9]; repeat (go_big_quiet_step (fail))) | simp only [pick_nil]); refine wpQuiet_nil (hK _ ?_); clear hK K)
     | ((with_reducible refine at_list ?_); go_wp2_with ((go_at_call 168; go_must (refine (HPUT.out _ (by repeat (first | with_reducible (first | exact zq1 _ | assumption | refine zq2 ?_ | refine zq4 ?_ ?_ _ | refine zq5 ?_ _ | refine zq6 ?_ _ | refine zq7 ?_ | refine zq8 ?_ (by assumption)) | (simp only [zq10]; omega) | (simp; done) | (simp; omega)))).mono ?_; rintro e w9 ⟨rfl, nv9, hs9, hz9, hf9⟩))); first | refine behind_store (t := 9) (by decide) ?_ | refine behind (by with_reducible repeat (first | exact zq1 _ | assumption | refine zq2 ?_ | refine zq5 ?_ _ | refine zq6 ?_ _ | refine zq7 ?_ | refine zq8 ?_ (by assumption))) ?_))
    have hfin : Later w0 w9 := lat_base hz9 (by first | exact hl06.drew | exact hl06) (fun k hk => hk.elim (fun e => e ▸ HS4.out.lob) (fun e => (HS4.out.next.lo k e).1))
    go_wp2_with fail
    go_ret
    exact turn_end (r := (0, [⟨l[1], placeN pl l 1, day, n, d⟩], [], [])) (kp := []) hs9 (by simp [stepT, HGC.out, kidH_at hl1]) (by rw [HKT.out]; rfl) (by simp) (by simp) (by simp) (by simp) hfin
  | none =>
   clear hgo
   go_upto_region 3 with (fail)
   refine wp_region_plan 14 (.one [0, 4, 5, 6, 7] 1 (.one [2, 3] 8 (.done [9, 10, 11, 12, 13]))) (by kernel_rfl) (by kernel_rfl) (fun _ _ d _ _ h => by cases d <;> exact h) ?_
   repeat' (first
    | ((first | refine plan_done (fun K hK => ?_) | refine plan_one (by rfl) (fun K hK => ?_)); (first | (simp only [zq9]; repeat (go_big_quiet_step (fail))) | simp only [pick_nil]); refine wpQuiet_nil (hK _ ?_); clear hK K)
    | ((with_reducible refine at_list ?_); go_wp2_with ((go_at_call 25; go_must (refine (HCH.out _ (hl04.trans (by repeat (first | with_reducible (first | exact zq1 _ | assumption | refine zq2 ?_ | refine zq4 ?_ ?_ _ | refine zq5 ?_ _ | refine zq6 ?_ _ | refine zq7 ?_ | refine zq8 ?_ (by assumption)) | (simp only [zq10]; omega) | (simp; done) | (simp; omega))))).mono ?_; rintro e w6 ⟨rfl, hb6⟩))); first | refine behind_store (t := 14) (by decide) ?_ | refine behind (by with_reducible repeat (first | exact zq1 _ | assumption | refine zq2 ?_ | refine zq5 ?_ _ | refine zq6 ?_ _ | refine zq7 ?_ | refine zq8 ?_ (by assumption))) ?_))
   have hl6 : Later w4 w6 := hb6.undrew'
   replace k0 := (bcell hl6).1 _ 0 zA4 |>.trans k0
   replace k1 := (bcell hl6).1 _ 1 zA4 |>.trans k1
   replace k2 := (bcell hl6).1 _ 2 zA4 |>.trans k2
   replace k3 := (bcell hl6).1 _ 3 zA4 |>.trans k3
   replace x1 := (bcell hl6).1 _ 1 zC |>.trans x1
   have zA6 := Nat.lt_of_lt_of_le zA4 hl6.size
   have zC6 := Nat.lt_of_lt_of_le zC hl6.size
   have hl06 := hl04.trans hl6
   have HS6 := Lib.hid (HS4.out.later hl6)
   have HKEEP := Lib.hid (fun (av : Value) W1 (hl : Later w6 W1) hA hAb => tkeep_later (b := b) hl06.size (by have := HLEN.out; omega) [⟨true, a, day⟩] (by have := HLEN.out; simp; omega) HS6.out ⟨.node ⟨16, a, b', vn, vd⟩ l, pl, day, n, d⟩ (pl : Int) rfl av W1 hl hA hAb)
   clear HCH s6 x0 x2 g0 g1
   go_upto_region 6 with (fail)
   refine V.wp_region_plan 10 (.two [0, 3, 4, 5, 6, 7, 8] 1 (.one [2] 9 (.one [] 10 (.done []))) 9 (.one [] 1 (.one [2] 10 (.done [])))) (by kernel_rfl) (by kernel_rfl) (fun _ _ d _ _ h => by cases d <;> exact h) ?_
   repeat' (first
    | ((first | refine plan_done (fun K hK => ?_) | refine plan_one (by rfl) (fun K hK => ?_)); (first | (simp only [zq9]; repeat (go_big_quiet_step (fail))) | simp only [pick_nil]); refine wpQuiet_nil (hK _ ?_); clear hK K)
    | (refine plan_two (by rfl) (by rfl) (fun K hK => ?_); (first | (simp only [zq9]; repeat (go_big_quiet_step (fail))) | simp only [pick_nil]); refine wpQuiet_nil (hK _ ?_); clear hK K; refine ⟨?_, ?_⟩)
    | ((with_reducible refine at_list ?_); go_wp2_with ((go_at_call 124; go_must (with_reducible refine Calls.mono (HKEEP.out _ _ (by repeat (first | with_reducible (first | exact zq1 _ | assumption | refine zq2 ?_ | refine zq4 ?_ ?_ _ | refine zq5 ?_ _ | refine zq6 ?_ _ | refine zq7 ?_ | refine zq8 ?_ (by assumption)) | (simp only [zq10]; omega) | (simp; done) | (simp; omega))) (waits_one _ _ _ rfl) (fun k hk => own_new hk (Nat.le_refl _))) ?_; rintro e w9 ⟨rfl, kv9, wv9, hs9, hz9⟩))); first | refine behind_store (t := 10) (by decide) ?_ | refine behind (by with_reducible repeat (first | exact zq1 _ | assumption | refine zq2 ?_ | refine zq5 ?_ _ | refine zq6 ?_ _ | refine zq7 ?_ | refine zq8 ?_ (by assumption))) ?_))
   all_goals
    have hfin : Later w0 w9 := lat_base hz9 (hl06.trans (by repeat (first | with_reducible (first | exact zq1 _ | assumption | refine zq2 ?_ | refine zq4 ?_ ?_ _ | refine zq5 ?_ _ | refine zq6 ?_ _ | refine zq7 ?_ | refine zq8 ?_ (by assumption)) | (simp only [zq10]; omega) | (simp; done) | (simp; omega)))) (fun k hk => hk.elim (fun e => e ▸ HS4.out.lob) (fun e => e.elim (fun e => (HS4.out.kept.lo k e).1) (fun e => (HS4.out.waits.lo k e).1)))
    go_wp2_with fail
    go_ret
    exact turn_end (r := (0, [], [], [⟨true, a, day⟩])) (kp := [⟨.node ⟨16, a, b', vn, vd⟩ l, pl, day, n, d⟩]) hs9 (by simp [stepT, HGC.out]) (by rw [HKT.out]; rfl) (by simp) (by simp) (by simp) (by simp) hfin
set_option maxHeartbeats 8000000 in
theorem tch_17 {w0 : World} {ts : List Nd} {T : Tm} {tv : Value} {fx : FxL} {ch : ChL} {p m1 m2 : Nat} (hJ : JobAt w0 ts T tv fx ch p m1 m2) (w : World) (hw0 : Later w0 w) (b : Nat) (tod : Int) (ht0 : -1 ≤ tod) (ht1 : tod ≤ 73048) (nv kv fv wv : Value) (H K : List Hd) (F : List Fl) (W : List Wt)
  (hst : TurnAt w0.heap.size w b tv tod (.pointer (some ⟨p, 0, none⟩)) nv kv fv wv H K F W) (hH : H.length ≤ 1000) (hK : K.length ≤ 1000) (hF : F.length ≤ 1000) (hW : W.length ≤ 90000) (a b' vn vd : Int) (l : List Tm) (pl : Nat) (day n d : Int) (hh : HdOk ts ⟨.node ⟨17, a, b', vn, vd⟩ l, pl, day, n, d⟩) (hdt : ¬ tod < day)
  (bv : Value) (hB : IsInts w bv (placesI pl l 1)) (hBz : ∀ k, bv.ownBlock = some k → k ≠ b ∧ nv.ownBlock ≠ some k) :
  Calls Tryz.prog 129 #[.pointer (some ⟨b, 0, none⟩), .agg #[.int .i64 pl, .int .i64 day, .int .i64 n, .int .i64 d], bv] w (TurnEnd (stepT (envT fx ch) tod ⟨17, a, b', vn, vd⟩ l pl day n d) (keptH (envT fx ch) tod ⟨.node ⟨17, a, b', vn, vd⟩ l, pl, day, n, d⟩) w0 b tv tod (.pointer (some ⟨p, 0, none⟩)) H K F W) := by
 obtain ⟨hT, hso, hmk, hd0, hd1, hva⟩ := hh
 simp only at hT hso hmk hd0 hd1 hva
 have hl : l.length = 1 := by have := hT.root.2.2.2; simpa [manyN] using this
 have hk : pl < ts.length := by have := hT.le; have := (Tm.node ⟨17, a, b', vn, vd⟩ l).size_pos; omega
 have hnd : ts[pl] = ⟨17, a, b', vn, vd⟩ := by have := hT.root.1; rw [List.getElem?_eq_getElem hk] at this; exact Option.some.inj this
 have hfld : fieldsB ⟨17, a, b', vn, vd⟩ = true := by rw [← hnd]; exact hJ.good.fields _ (List.getElem_mem hk)
 have hnok : (⟨17, a, b', vn, vd⟩ : Nd).ok := by rw [← hnd]; exact hJ.ok _ (List.getElem_mem hk)
 obtain ⟨tb, tq, tc, rfl, -, -, -⟩ := hJ.nodes.full hk
 have HJ := Lib.hid hJ
 have HN0 := Lib.hid (fun W1 (hl1 : Later w0 W1) => (hJ.nodes.later hl1).full hk)
 rw [hnd] at HN0
 have HST := Lib.hid hst
 have HT := Lib.hid hT
 have HSO := Lib.hid hso
 have HVA := Lib.hid hva
 have HLL := Lib.hid hl
 have HFLD := Lib.hid hfld
 have HNOK := Lib.hid hnok
 have HLEN := Lib.hid (show H.length ≤ 1000 ∧ K.length ≤ 1000 ∧ F.length ≤ 1000 ∧ W.length ≤ 90000 from ⟨hH, hK, hF, hW⟩)
 have HKH := Lib.hid (keptH_node (envT fx ch) tod ⟨17, a, b', vn, vd⟩ l pl day n d)
 have HDT := Lib.hid hdt
 have HPL := Lib.hid (placesI_length pl l 1)
 obtain ⟨PL, hPL⟩ : ∃ P, placesI pl l 1 = P := ⟨_, rfl⟩
 rw [hPL] at HPL hB
 have HPLE := Lib.hid hPL
 obtain ⟨bp, bc, rfl⟩ := hB.form
 rw [HPL.out] at hB hBz ⊢
 have HI := Lib.hid hB
 have HBZ := Lib.hid hBz
 have hzb : b < w.heap.size := hst.own.1.1
 have hlo := hw0.size
 have hkI : (pl : Int) < (ts.length : Int) := by omega
 have HDD := Lib.hid (show (0 ≤ day ∧ day ≤ 73048) ∧ (-1 ≤ tod ∧ tod ≤ 73048) from ⟨⟨hd0, hd1⟩, ht0, ht1⟩)
 clear hst hT hso hmk hva hl hnd hJ hfld hnok hH hF hW hK hdt hPL hB hBz hd0 hd1 ht0 ht1
 generalize ts.length = L at *
 have hl0 : 0 < l.length := by rw [HLL.out]; decide
 have HK0 : Hid (PL[0]'(by rw [HPL.out]; decide) = (placeN pl l 0 : Int)) := Lib.hid (by have := HPLE.out; subst this; simp [placesI])
 obtain ⟨K0, hK0⟩ : ∃ K : Nat, placeN pl l 0 = K := ⟨_, rfl⟩
 rw [hK0] at HK0
 obtain ⟨vb0, vo0, vc0, hv0, hvb0, g0⟩ := HI.out.full (j := 0) (by rw [HPL.out]; decide)
 rw [HK0.out] at g0
 rw [HPL.out] at hv0
 cases hv0
 rw [Nat.add_zero] at g0
 have HBV0 : Hid (vb0 < w.heap.size) := Lib.hid hvb0
 go_enter Tryz.func129, Tryz.ntmps129
 go_upto_region 1 with (fail)
 refine wp_opaque (fun w1 hb1 => ?_)
 have hO1 := Own.one hb1
 have hl1 : Later w w1 := hb1.un1
 clear hb1
 obtain ⟨A, hA⟩ : ∃ A, w.heap.size = A := ⟨_, rfl⟩
 rw [hA] at hO1 ⊢
 have HOA1 := Lib.hid hO1
 obtain ⟨⟨zA, cA, fA⟩, -⟩ := hO1
 have k0 : w1.cell? ⟨A, 0, none⟩ = some (.int .i64 pl) := cA 0
 have k1 : w1.cell? ⟨A, 1, none⟩ = some (.int .i64 day) := cA 1
 have k2 : w1.cell? ⟨A, 2, none⟩ = some (.int .i64 n) := cA 2
 have k3 : w1.cell? ⟨A, 3, none⟩ = some (.int .i64 d) := cA 3
 have kf1 : w1.frozen? ⟨A, 1, none⟩ = false := fA 1 (by simp)
 have kf2 : w1.frozen? ⟨A, 2, none⟩ = false := fA 2 (by simp)
 have kf3 : w1.frozen? ⟨A, 3, none⟩ = false := fA 3 (by simp)
 have s4 : w1.cell? ⟨b, 4, none⟩ = some (.slice (some ⟨tb, tq, none⟩) L tc) := (HST.out.later hl1).own.1.2.1 4
 have s6 : w1.cell? ⟨b, 6, none⟩ = some (.pointer (some ⟨p, 0, none⟩)) := (HST.out.later hl1).own.1.2.1 6
 have hzb1 : b < w1.heap.size := Nat.lt_of_lt_of_le hzb hl1.size
 have hl01 := hw0.trans hl1
 have HS1 := Lib.hid (HST.out.later hl1)
 have hz1 := hl1.size
 rw [hA] at hz1 hlo
 have HAW : Hid (w.heap.size = A) := Lib.hid hA
 have hbA : b < A := by omega
 clear cA fA
 obtain ⟨tb', tq', tc', htv, hzt, hcap, y0, y1, y2, y3, y4⟩ := HN0.out w1 hl01
 cases htv
 clear HN0
 go_cut [7] (fun s7 wx => ∃ C, s7 = .pointer (some ⟨C, 0, none⟩) ∧ Own wx [(C, #[.int .i64 17, .int .i64 a, .int .i64 b', .int .i64 vn, .int .i64 vd])] ∧ w1.heap.size ≤ C ∧ Later w1 wx)
 case first =>
  have hO5 := Lib.hid (own_alloc w1 #[.int .i64 17, .int .i64 a, .int .i64 b', .int .i64 vn, .int .i64 vd] 61)
  clear HOA1 hl1 hA s6 HS1
  refine U.wp_region_plan 9 (.two [0, 4, 5] 1 (.one [2, 3, 6, 7] 8 (.one [] 9 (.done []))) 8 (.one [] 1 (.one [2, 3, 6, 7] 9 (.done [])))) (by kernel_rfl) (by kernel_rfl) (fun _ _ d _ _ h => by cases d <;> exact h) ?_
  repeat' (first
   | ((first | refine plan_done (fun K hK => ?_) | refine plan_one (by rfl) (fun K hK => ?_)); (first | (simp only [zq9]; repeat (go_big_quiet_step (fail))) | simp only [pick_nil]); refine wpQuiet_nil (hK _ ?_); clear hK K)
   | (refine plan_two (by rfl) (by rfl) (fun K hK => ?_); (first | (simp only [zq9]; repeat (go_big_quiet_step (fail))) | simp only [pick_nil]); refine wpQuiet_nil (hK _ ?_); clear hK K; refine ⟨?_, ?_⟩)
   | ((with_reducible refine at_list ?_); go_wp2_with (fail); first | refine behind_store (t := 9) (by decide) ?_ | refine behind (by with_reducible repeat (first | exact zq1 _ | assumption | refine zq2 ?_ | refine zq5 ?_ _ | refine zq6 ?_ _ | refine zq7 ?_ | refine zq8 ?_ (by assumption))) ?_))
  all_goals
   go_wp2_with fail
   go_meet
   first
    | exact ⟨_, rfl, own_alloc _ _ _, by simp, by repeat (first | with_reducible (first | exact zq1 _ | assumption | refine zq2 ?_ | refine zq4 ?_ ?_ _ | refine zq5 ?_ _ | refine zq6 ?_ _ | refine zq7 ?_ | refine zq8 ?_ (by assumption)) | (simp only [zq10]; omega) | (simp; done) | (simp; omega))⟩
    | exact ⟨_, rfl, own_set5 (own_alloc _ _ _), by simp, by repeat (first | with_reducible (first | exact zq1 _ | assumption | refine zq2 ?_ | refine zq4 ?_ ?_ _ | refine zq5 ?_ _ | refine zq6 ?_ _ | refine zq7 ?_ | refine zq8 ?_ (by assumption)) | (simp only [zq10]; omega) | (simp; done) | (simp; omega))⟩
 case rest =>
  obtain ⟨C, rfl, hOC, hCz, hl2⟩ := hcut
  obtain ⟨w4, rfl⟩ : ∃ x, x = wc := ⟨_, rfl⟩
  clear y0 y1 y2 y3 y4 hzt hcap s4
  replace k0 := (bcell hl2).1 _ 0 zA |>.trans k0
  replace k1 := (bcell hl2).1 _ 1 zA |>.trans k1
  replace k2 := (bcell hl2).1 _ 2 zA |>.trans k2
  replace k3 := (bcell hl2).1 _ 3 zA |>.trans k3
  replace kf1 := (bcell hl2).2 _ 1 zA |>.trans kf1
  replace kf2 := (bcell hl2).2 _ 2 zA |>.trans kf2
  replace kf3 := (bcell hl2).2 _ 3 zA |>.trans kf3
  replace s6 := (bcell hl2).1 _ 6 hzb1 |>.trans s6
  have hl4 := hl1.trans hl2
  have hl04 := hw0.trans hl4
  have HS4 := Lib.hid (HS1.out.later hl2)
  have HOA := Lib.hid (HOA1.out.later hl2)
  have HOC := Lib.hid hOC
  have hz4 := hl4.size
  have zA4 := Nat.lt_of_lt_of_le zA hl2.size
  have zb4 := Nat.lt_of_lt_of_le hzb1 hl2.size
  obtain ⟨zC, cC, -⟩ := own_get hOC
  have x0 := cC 0
  have x1 := cC 1
  have x2 := cC 2
  simp only [List.getElem?_toArray, List.getElem?_cons_zero, List.getElem?_cons_succ] at x0 x1 x2
  rw [HAW.out] at hz4
  have hCA : A < C := by have := zA; omega
  clear hOC cC hl1 hl2 HS1 HOA1 hl01 zA hzb1 hz1
  replace g0 := (bcell hl4).1 _ _ hvb0 |>.trans g0
  replace hvb0 := Nat.lt_of_lt_of_le hvb0 hl4.size
  have HFI := Lib.hid (fun W1 (hl : Later w0 W1) => ffirst_any fx ch HJ.out.cl p m1 m2 a day (min b' tod) 1 W1 (HJ.out.facts.later hl))
  rw [firstL_days HJ.out.cn HJ.out.co] at HFI
  obtain ⟨g, hg⟩ : ∃ g, firstD (getC ch) a day (min b' tod) = g := ⟨_, rfl⟩
  rw [hg] at HFI
  have HGC : Hid (firstD (envT fx ch).cho a day (min b' tod) = g) := Lib.hid hg
  have HKT := Lib.hid (show keptH (envT fx ch) tod ⟨.node ⟨17, a, b', vn, vd⟩ l, pl, day, n, d⟩ = if (firstD (envT fx ch).cho a day (min b' tod)).isNone = true ∧ day ≤ b' then [⟨.node ⟨17, a, b', vn, vd⟩ l, pl, day, n, d⟩] else [] from by rw [HKH.out, if_neg (show ¬ tod < day by have := HDT.out; omega)]; simp)
  rw [HGC.out] at HKT
  have s5 : w4.cell? ⟨b, 5, none⟩ = some (.int .i64 tod) := HS4.out.own.1.2.1 5
  clear hg HKH HT HSO HNOK HPLE kf2 kf3
  cases g with
  | some q =>
   go_upto_region 8 with (fail)
   refine wp_region_plan 21 (.two [0, 4, 5, 6, 7, 8, 9, 10] 1 (.one [2, 3] 11 (.one [12, 13] 14 (.one [] 15 (.done [16, 17, 18, 19, 20])))) 11 (.two [12, 13] 1 (.one [2, 3] 14 (.one [] 15 (.done [16, 17, 18, 19, 20]))) 14 (.one [] 1 (.one [2, 3] 15 (.done [16, 17, 18, 19, 20]))))) (by kernel_rfl) (by kernel_rfl) (fun _ _ d _ _ h => by cases d <;> exact h) ?_
   repeat' (first
    | ((first | refine plan_done (fun K hK => ?_) | refine plan_one (by rfl) (fun K hK => ?_)); (first | (simp only [zq9]; repeat (go_big_quiet_step (fail))) | simp only [pick_nil]); refine wpQuiet_nil (hK _ ?_); clear hK K)
    | (refine plan_two (by rfl) (by rfl) (fun K hK => ?_); (first | (simp only [zq9]; repeat (go_big_quiet_step (fail))) | simp only [pick_nil]); refine wpQuiet_nil (hK _ ?_); clear hK K; refine ⟨?_, ?_⟩)
    | ((with_reducible refine at_list ?_); go_wp2_with ((go_at_call 138; go_must (refine (HFI.out _ (hl04.trans (by repeat (first | with_reducible (first | exact zq1 _ | assumption | refine zq2 ?_ | refine zq4 ?_ ?_ _ | refine zq5 ?_ _ | refine zq6 ?_ _ | refine zq7 ?_ | refine zq8 ?_ (by assumption)) | (simp only [zq10]; omega) | (simp; done) | (simp; omega))))).mono ?_; rintro e w5 ⟨rfl, hb5⟩))); first | refine behind_store (t := 21) (by decide) ?_ | refine behind (by with_reducible repeat (first | exact zq1 _ | assumption | refine zq2 ?_ | refine zq5 ?_ _ | refine zq6 ?_ _ | refine zq7 ?_ | refine zq8 ?_ (by assumption))) ?_))
   all_goals
    have hl5 : Later w4 w5 := hb5.undrew'
    replace k0 := (bcell hl5).1 _ 0 zA4 |>.trans k0
    replace k1 := (bcell hl5).1 _ 1 zA4 |>.trans k1
    replace k2 := (bcell hl5).1 _ 2 zA4 |>.trans k2
    replace k3 := (bcell hl5).1 _ 3 zA4 |>.trans k3
    replace kf1 := (bcell hl5).2 _ 1 zA4 |>.trans kf1
    have zA5 := Nat.lt_of_lt_of_le zA4 hl5.size
    clear s5 s6 x0 x1 x2 HFI
    go_upto_region 11 with (fail)
    have hOB := B.own_at (HOA.out.later hl5) (k := 1) (by simp) (.int .i64 q)
    have hs6 := (HS4.out.later hl5).set A 1 (fun k hk => by have := HST.out.base k hk; have := HAW.out; omega) (.int .i64 q)
    have hl6 : Later w0 (w5.setCell ⟨A, 1, none⟩ (.int .i64 q)) := (hl04.trans hl5).putCell (by omega) _
    have hl46 : S.LatB (fun k => k = A) w4 (w5.setCell ⟨A, 1, none⟩ (.int .i64 q)) := S.LatB.setCell (S := fun k => k = A) (S.LatB.of hl5) (.inl rfl) _
    obtain ⟨w6, hw6⟩ : ∃ x, w5.setCell ⟨A, 1, none⟩ (.int .i64 q) = x := ⟨_, rfl⟩
    rw [hw6] at hOB hs6 hl6 hl46 ⊢
    obtain ⟨zA6, cA6, -⟩ := own_get hOB
    have k0 := cA6 0
    have k1 := cA6 1
    have k2 := cA6 2
    have k3 := cA6 3
    simp at k0 k1 k2 k3
    have hnA : ¬ vb0 = A := fun e => by have := HBV0.out; have := HAW.out; omega
    replace g0 := (hl46.cell (p := ⟨vb0, _, none⟩) hvb0 hnA).trans g0
    have HS6 := Lib.hid hs6
    have HPUT := Lib.hid (fun W1 (hl : Later w6 W1) => tthen_later (b := b) hl6.size (by have := HLEN.out; omega) HS6.out ⟨l[0], placeN pl l 0, q, n, d⟩ (pl : Int) (K0 : Int) (by rw [hK0]) W1 hl)
    clear hw6 hOB cA6 hs6 kf1
    refine V.wp_region_plan 7 (.one [0, 3, 4, 5, 6] 1 (.one [2] 7 (.done []))) (by kernel_rfl) (by kernel_rfl) (fun _ _ d _ _ h => by cases d <;> exact h) ?_
    repeat' (first
     | ((first | refine plan_done (fun K hK => ?_) | refine plan_one (by rfl) (fun K hK => ?_)); (first | (simp only [zq9]; repeat (go_big_quiet_step (fail))) | simp only [pick_nil]); refine wpQuiet_nil (hK _ ?_); clear hK K)
     | ((with_reducible refine at_list ?_); go_wp2_with ((go_at_call 168; go_must (refine (HPUT.out _ (by repeat (first | with_reducible (first | exact zq1 _ | assumption | refine zq2 ?_ | refine zq4 ?_ ?_ _ | refine zq5 ?_ _ | refine zq6 ?_ _ | refine zq7 ?_ | refine zq8 ?_ (by assumption)) | (simp only [zq10]; omega) | (simp; done) | (simp; omega)))).mono ?_; rintro e w9 ⟨rfl, nv9, hs9, hz9, hf9⟩))); first | refine behind_store (t := 7) (by decide) ?_ | refine behind (by with_reducible repeat (first | exact zq1 _ | assumption | refine zq2 ?_ | refine zq5 ?_ _ | refine zq6 ?_ _ | refine zq7 ?_ | refine zq8 ?_ (by assumption))) ?_))
    have hfin : Later w0 w9 := lat_base hz9 (by first | exact hl6.drew | exact hl6) (fun k hk => hk.elim (fun e => e ▸ HS4.out.lob) (fun e => (HS4.out.next.lo k e).1))
    go_wp2_with fail
    go_ret
    exact turn_end (r := (0, [⟨l[0], placeN pl l 0, q, n, d⟩], [], [])) (kp := []) hs9 (by simp [stepT, HGC.out, kidH_at hl0]) (by rw [HKT.out]; simp) (by simp) (by simp) (by simp) (by simp) hfin
  | none =>
   go_upto_region 8 with (fail)
   refine wp_region_plan 21 (.two [0, 4, 5, 6, 7, 8, 9, 10] 1 (.one [2, 3] 11 (.one [12, 13] 14 (.one [] 15 (.done [16, 17, 18, 19, 20])))) 11 (.two [12, 13] 1 (.one [2, 3] 14 (.one [] 15 (.done [16, 17, 18, 19, 20]))) 14 (.one [] 1 (.one [2, 3] 15 (.done [16, 17, 18, 19, 20]))))) (by kernel_rfl) (by kernel_rfl) (fun _ _ d _ _ h => by cases d <;> exact h) ?_
   repeat' (first
    | ((first | refine plan_done (fun K hK => ?_) | refine plan_one (by rfl) (fun K hK => ?_)); (first | (simp only [zq9]; repeat (go_big_quiet_step (fail))) | simp only [pick_nil]); refine wpQuiet_nil (hK _ ?_); clear hK K)
    | (refine plan_two (by rfl) (by rfl) (fun K hK => ?_); (first | (simp only [zq9]; repeat (go_big_quiet_step (fail))) | simp only [pick_nil]); refine wpQuiet_nil (hK _ ?_); clear hK K; refine ⟨?_, ?_⟩)
    | ((with_reducible refine at_list ?_); go_wp2_with ((go_at_call 138; go_must (refine (HFI.out _ (hl04.trans (by repeat (first | with_reducible (first | exact zq1 _ | assumption | refine zq2 ?_ | refine zq4 ?_ ?_ _ | refine zq5 ?_ _ | refine zq6 ?_ _ | refine zq7 ?_ | refine zq8 ?_ (by assumption)) | (simp only [zq10]; omega) | (simp; done) | (simp; omega))))).mono ?_; rintro e w5 ⟨rfl, hb5⟩))); first | refine behind_store (t := 21) (by decide) ?_ | refine behind (by with_reducible repeat (first | exact zq1 _ | assumption | refine zq2 ?_ | refine zq5 ?_ _ | refine zq6 ?_ _ | refine zq7 ?_ | refine zq8 ?_ (by assumption))) ?_))
   all_goals
    have hl5 : Later w4 w5 := hb5.undrew'
    replace k0 := (bcell hl5).1 _ 0 zA4 |>.trans k0
    replace k1 := (bcell hl5).1 _ 1 zA4 |>.trans k1
    replace k2 := (bcell hl5).1 _ 2 zA4 |>.trans k2
    replace k3 := (bcell hl5).1 _ 3 zA4 |>.trans k3
    replace x2 := (bcell hl5).1 _ 2 zC |>.trans x2
    have zA5 := Nat.lt_of_lt_of_le zA4 hl5.size
    have zC5 := Nat.lt_of_lt_of_le zC hl5.size
    have hl05 := hl04.trans hl5
    have HS5 := Lib.hid (HS4.out.later hl5)
    clear s5 s6 x0 x1 HFI g0 kf1
    by_cases hdb : day ≤ b'
    ·have HKEEP := Lib.hid (fun (av : Value) W1 (hl : Later w5 W1) hA hAb => tkeep_later (b := b) hl05.size (by have := HLEN.out; omega) [] (by have := HLEN.out; simp; omega) HS5.out ⟨.node ⟨17, a, b', vn, vd⟩ l, pl, day, n, d⟩ (pl : Int) rfl av W1 hl hA hAb)
     have hk9 : keptH (envT fx ch) tod ⟨.node ⟨17, a, b', vn, vd⟩ l, pl, day, n, d⟩ = [⟨.node ⟨17, a, b', vn, vd⟩ l, pl, day, n, d⟩] := by rw [HKT.out, if_pos ⟨rfl, hdb⟩]
     have HK9 := Lib.hid hk9
     clear hk9
     go_upto_region 13 with (fail)
     refine V.wp_region_plan 4 (.one [0, 3] 1 (.one [2] 4 (.done []))) (by kernel_rfl) (by kernel_rfl) (fun _ _ d _ _ h => by cases d <;> exact h) ?_
     repeat' (first
      | ((first | refine plan_done (fun K hK => ?_) | refine plan_one (by rfl) (fun K hK => ?_)); (first | (simp only [zq9]; repeat (go_big_quiet_step (fail))) | simp only [pick_nil]); refine wpQuiet_nil (hK _ ?_); clear hK K)
      | ((with_reducible refine at_list ?_); go_wp2_with ((go_at_call 124; go_must (with_reducible refine Calls.mono (HKEEP.out _ _ (by repeat (first | with_reducible (first | exact zq1 _ | assumption | refine zq2 ?_ | refine zq4 ?_ ?_ _ | refine zq5 ?_ _ | refine zq6 ?_ _ | refine zq7 ?_ | refine zq8 ?_ (by assumption)) | (simp only [zq10]; omega) | (simp; done) | (simp; omega))) (waits_none _) (fun k hk => none_new hk)) ?_; rintro e w9 ⟨rfl, kv9, wv9, hs9, hz9⟩))); first | refine behind_store (t := 4) (by decide) ?_ | refine behind (by with_reducible repeat (first | exact zq1 _ | assumption | refine zq2 ?_ | refine zq5 ?_ _ | refine zq6 ?_ _ | refine zq7 ?_ | refine zq8 ?_ (by assumption))) ?_))
     have hfin : Later w0 w9 := lat_base hz9 (hl05.trans (by repeat (first | with_reducible (first | exact zq1 _ | assumption | refine zq2 ?_ | refine zq4 ?_ ?_ _ | refine zq5 ?_ _ | refine zq6 ?_ _ | refine zq7 ?_ | refine zq8 ?_ (by assumption)) | (simp only [zq10]; omega) | (simp; done) | (simp; omega)))) (fun k hk => hk.elim (fun e => e ▸ HS4.out.lob) (fun e => e.elim (fun e => (HS4.out.kept.lo k e).1) (fun e => (HS4.out.waits.lo k e).1)))
     go_wp2_with fail
     go_ret
     exact turn_end (r := (0, [], [], [])) (kp := [⟨.node ⟨17, a, b', vn, vd⟩ l, pl, day, n, d⟩]) hs9 (by simp [stepT, HGC.out]) HK9.out (by simp) (by simp) (by simp) (by simp) hfin
    ·have hk9 : keptH (envT fx ch) tod ⟨.node ⟨17, a, b', vn, vd⟩ l, pl, day, n, d⟩ = [] := by rw [HKT.out, if_neg (fun h => hdb h.2)]
     have HK9 := Lib.hid hk9
     clear hk9
     go_wp2_with fail
     go_ret
     exact turn_end (r := (0, [], [], [])) (kp := []) HS5.out (by simp [stepT, HGC.out]) HK9.out (by simp) (by simp) (by simp) (by simp) hl05
end Go.Proofs.YtkjabiabeemfhaaGreatDoor
end
