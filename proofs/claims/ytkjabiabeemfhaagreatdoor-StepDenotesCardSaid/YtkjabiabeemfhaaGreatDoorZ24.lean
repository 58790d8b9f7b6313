/- step: what a turn does with what hangs on nothing (printed by gen_turns.py) -/
import Derived.Test.YtkjabiabeemfhaaGreatDoorZ23
set_option linter.all false
set_option linter.all false
section
namespace Go.Proofs.YtkjabiabeemfhaaGreatDoor
open Go.RowKit
set_option maxRecDepth 100000
set_option maxHeartbeats 8000000 in
theorem tpl_9 {w0 : World} {ts : List Nd} {T : Tm} {tv : Value} {fx : FxL} {ch : ChL} {p m1 m2 : Nat} (hJ : JobAt w0 ts T tv fx ch p m1 m2) (w : World) (hw0 : Later w0 w) (b : Nat) (tod : Int) (ht0 : -1 ≤ tod) (ht1 : tod ≤ 73048) (nv kv fv wv : Value) (H K : List Hd) (F : List Fl) (W : List Wt)
  (hst : TurnAt w0.heap.size w b tv tod (.pointer (some ⟨p, 0, none⟩)) nv kv fv wv H K F W) (hH : H.length ≤ 1000) (hK : K.length ≤ 1000) (hF : F.length ≤ 1000) (hW : W.length ≤ 90000) (a b' vn vd : Int) (l : List Tm) (pl : Nat) (day n d : Int) (hh : HdOk ts ⟨.node ⟨9, a, b', vn, vd⟩ l, pl, day, n, d⟩) (hdt : ¬ tod < day)
  (bv : Value) (hB : IsInts w bv (placesI pl l 0)) (hBz : ∀ k, bv.ownBlock = some k → k ≠ b ∧ nv.ownBlock ≠ some k) :
  Calls Tryz.prog 126 #[.pointer (some ⟨b, 0, none⟩), .agg #[.int .i64 pl, .int .i64 day, .int .i64 n, .int .i64 d], bv] w (TurnEnd (stepT (envT fx ch) tod ⟨9, a, b', vn, vd⟩ l pl day n d) (keptH (envT fx ch) tod ⟨.node ⟨9, a, b', vn, vd⟩ l, pl, day, n, d⟩) w0 b tv tod (.pointer (some ⟨p, 0, none⟩)) H K F W) := by
 obtain ⟨hT, hso, hmk, hd0, hd1, hva⟩ := hh
 simp only at hT hso hmk hd0 hd1 hva
 have hl : l.length = 0 := by have := hT.root.2.2.2; simpa [manyN] using this
 have hk : pl < ts.length := by have := hT.le; have := (Tm.node ⟨9, a, b', vn, vd⟩ l).size_pos; omega
 have hnd : ts[pl] = ⟨9, a, b', vn, vd⟩ := by have := hT.root.1; rw [List.getElem?_eq_getElem hk] at this; exact Option.some.inj this
 have hfld : fieldsB ⟨9, a, b', vn, vd⟩ = true := by rw [← hnd]; exact hJ.good.fields _ (List.getElem_mem hk)
 have hnok : (⟨9, a, b', vn, vd⟩ : Nd).ok := by rw [← hnd]; exact hJ.ok _ (List.getElem_mem hk)
 obtain ⟨tb, tq, tc, rfl, -, -, -⟩ := hJ.nodes.full hk
 have HJ := Lib.hid hJ
 have HN0 := Lib.hid (fun W1 (hl1 : Later w0 W1) => (hJ.nodes.later hl1).full hk)
 rw [hnd] at HN0
 have HST := Lib.hid hst
 have HT := Lib.hid hT
 have HSO := Lib.hid hso
 have HVA := Lib.hid hva
 have HLL := Lib.hid hl
 have HFLD := Lib.hid hfld
 have HNOK := Lib.hid hnok
 have HLEN := Lib.hid (show H.length ≤ 1000 ∧ K.length ≤ 1000 ∧ F.length ≤ 1000 ∧ W.length ≤ 90000 from ⟨hH, hK, hF, hW⟩)
 have HKH := Lib.hid (keptH_node (envT fx ch) tod ⟨9, a, b', vn, vd⟩ l pl day n d)
 have HDT := Lib.hid hdt
 have HPL := Lib.hid (placesI_length pl l 0)
 obtain ⟨PL, hPL⟩ : ∃ P, placesI pl l 0 = P := ⟨_, rfl⟩
 rw [hPL] at HPL hB
 have HPLE := Lib.hid hPL
 obtain ⟨bp, bc, rfl⟩ := hB.form
 rw [HPL.out] at hB hBz ⊢
 have HI := Lib.hid hB
 have HBZ := Lib.hid hBz
 have hzb : b < w.heap.size := hst.own.1.1
 have hlo := hw0.size
 have hkI : (pl : Int) < (ts.length : Int) := by omega
 have HDD := Lib.hid (show (0 ≤ day ∧ day ≤ 73048) ∧ (-1 ≤ tod ∧ tod ≤ 73048) from ⟨⟨hd0, hd1⟩, ht0, ht1⟩)
 clear hst hT hso hmk hva hl hnd hJ hfld hnok hH hF hW hK hdt hPL hB hBz hd0 hd1 ht0 ht1
 generalize ts.length = L at *
 go_enter Tryz.func126, Tryz.ntmps126
 go_upto_region 1 with (fail)
 refine wp_opaque (fun w1 hb1 => ?_)
 have hO1 := Own.one hb1
 have hl1 : Later w w1 := hb1.un1
 clear hb1
 obtain ⟨A, hA⟩ : ∃ A, w.heap.size = A := ⟨_, rfl⟩
 rw [hA] at hO1 ⊢
 have HOA1 := Lib.hid hO1
 obtain ⟨⟨zA, cA, fA⟩, -⟩ := hO1
 have k0 : w1.cell? ⟨A, 0, none⟩ = some (.int .i64 pl) := cA 0
 have k1 : w1.cell? ⟨A, 1, none⟩ = some (.int .i64 day) := cA 1
 have k2 : w1.cell? ⟨A, 2, none⟩ = some (.int .i64 n) := cA 2
 have k3 : w1.cell? ⟨A, 3, none⟩ = some (.int .i64 d) := cA 3
 have kf1 : w1.frozen? ⟨A, 1, none⟩ = false := fA 1 (by simp)
 have kf2 : w1.frozen? ⟨A, 2, none⟩ = false := fA 2 (by simp)
 have kf3 : w1.frozen? ⟨A, 3, none⟩ = false := fA 3 (by simp)
 have s4 : w1.cell? ⟨b, 4, none⟩ = some (.slice (some ⟨tb, tq, none⟩) L tc) := (HST.out.later hl1).own.1.2.1 4
 have s6 : w1.cell? ⟨b, 6, none⟩ = some (.pointer (some ⟨p, 0, none⟩)) := (HST.out.later hl1).own.1.2.1 6
 have hzb1 : b < w1.heap.size := Nat.lt_of_lt_of_le hzb hl1.size
 have hl01 := hw0.trans hl1
 have HS1 := Lib.hid (HST.out.later hl1)
 have hz1 := hl1.size
 rw [hA] at hz1 hlo
 have HAW : Hid (w.heap.size = A) := Lib.hid hA
 have hbA : b < A := by omega
 clear cA fA
 obtain ⟨tb', tq', tc', htv, hzt, hcap, y0, y1, y2, y3, y4⟩ := HN0.out w1 hl01
 cases htv
 clear HN0
 go_cut [7] (fun s7 wx => ∃ C, s7 = .pointer (some ⟨C, 0, none⟩) ∧ Own wx [(C, #[.int .i64 9, .int .i64 a, .int .i64 b', .int .i64 vn, .int .i64 vd])] ∧ w1.heap.size ≤ C ∧ Later w1 wx)
 case first =>
  have hO5 := Lib.hid (own_alloc w1 #[.int .i64 9, .int .i64 a, .int .i64 b', .int .i64 vn, .int .i64 vd] 61)
  clear HOA1 hl1 hA s6 HS1
  refine U.wp_region_plan 9 (.two [0, 4, 5] 1 (.one [2, 3, 6, 7] 8 (.one [] 9 (.done []))) 8 (.one [] 1 (.one [2, 3, 6, 7] 9 (.done [])))) (by kernel_rfl) (by kernel_rfl) (fun _ _ d _ _ h => by cases d <;> exact h) ?_
  repeat' (first
   | ((first | refine plan_done (fun K hK => ?_) | refine plan_one (by rfl) (fun K hK => ?_)); (first | (simp only [zq9]; repeat (go_big_quiet_step (fail))) | simp only [pick_nil]); refine wpQuiet_nil (hK _ ?_); clear hK K)
   | (refine plan_two (by rfl) (by rfl) (fun K hK => ?_); (first | (simp only [zq9]; repeat (go_big_quiet_step (fail))) | simp only [pick_nil]); refine wpQuiet_nil (hK _ ?_); clear hK K; refine ⟨?_, ?_⟩)
   | ((with_reducible refine at_list ?_); go_wp2_with (fail); first | refine behind_store (t := 9) (by decide) ?_ | refine behind (by with_reducible repeat (first | exact zq1 _ | assumption | refine zq2 ?_ | refine zq5 ?_ _ | refine zq6 ?_ _ | refine zq7 ?_ | refine zq8 ?_ (by assumption))) ?_))
  all_goals
   go_wp2_with fail
   go_meet
   first
    | exact ⟨_, rfl, own_alloc _ _ _, by simp, by repeat (first | with_reducible (first | exact zq1 _ | assumption | refine zq2 ?_ | refine zq4 ?_ ?_ _ | refine zq5 ?_ _ | refine zq6 ?_ _ | refine zq7 ?_ | refine zq8 ?_ (by assumption)) | (simp only [zq10]; omega) | (simp; done) | (simp; omega))⟩
    | exact ⟨_, rfl, own_set5 (own_alloc _ _ _), by simp, by repeat (first | with_reducible (first | exact zq1 _ | assumption | refine zq2 ?_ | refine zq4 ?_ ?_ _ | refine zq5 ?_ _ | refine zq6 ?_ _ | refine zq7 ?_ | refine zq8 ?_ (by assumption)) | (simp only [zq10]; omega) | (simp; done) | (simp; omega))⟩
 case rest =>
  obtain ⟨C, rfl, hOC, hCz, hl2⟩ := hcut
  obtain ⟨w4, rfl⟩ : ∃ x, x = wc := ⟨_, rfl⟩
  clear y0 y1 y2 y3 y4 hzt hcap s4
  replace k0 := (bcell hl2).1 _ 0 zA |>.trans k0
  replace k1 := (bcell hl2).1 _ 1 zA |>.trans k1
  replace k2 := (bcell hl2).1 _ 2 zA |>.trans k2
  replace k3 := (bcell hl2).1 _ 3 zA |>.trans k3
  replace kf1 := (bcell hl2).2 _ 1 zA |>.trans kf1
  replace kf2 := (bcell hl2).2 _ 2 zA |>.trans kf2
  replace kf3 := (bcell hl2).2 _ 3 zA |>.trans kf3
  replace s6 := (bcell hl2).1 _ 6 hzb1 |>.trans s6
  have hl4 := hl1.trans hl2
  have hl04 := hw0.trans hl4
  have HS4 := Lib.hid (HS1.out.later hl2)
  have HOA := Lib.hid (HOA1.out.later hl2)
  have HOC := Lib.hid hOC
  have hz4 := hl4.size
  have zA4 := Nat.lt_of_lt_of_le zA hl2.size
  have zb4 := Nat.lt_of_lt_of_le hzb1 hl2.size
  obtain ⟨zC, cC, -⟩ := own_get hOC
  have x0 := cC 0
  have x1 := cC 1
  have x2 := cC 2
  simp only [List.getElem?_toArray, List.getElem?_cons_zero, List.getElem?_cons_succ] at x0 x1 x2
  rw [HAW.out] at hz4
  have hCA : A < C := by have := zA; omega
  clear hOC cC hl1 hl2 HS1 HOA1 hl01 zA hzb1 hz1
  go_wp2_with fail
  go_ret
  exact turn_end (r := (0, [], [], [])) (kp := []) HS4.out (by simp [stepT]) (by rw [HKH.out, if_neg (show ¬ tod < day by have := HDT.out; omega)]; simp) (by simp) (by simp) (by simp) (by simp) hl04
set_option maxHeartbeats 8000000 in
theorem tpl_10 {w0 : World} {ts : List Nd} {T : Tm} {tv : Value} {fx : FxL} {ch : ChL} {p m1 m2 : Nat} (hJ : JobAt w0 ts T tv fx ch p m1 m2) (w : World) (hw0 : Later w0 w) (b : Nat) (tod : Int) (ht0 : -1 ≤ tod) (ht1 : tod ≤ 73048) (nv kv fv wv : Value) (H K : List Hd) (F : List Fl) (W : List Wt)
  (hst : TurnAt w0.heap.size w b tv tod (.pointer (some ⟨p, 0, none⟩)) nv kv fv wv H K F W) (hH : H.length ≤ 1000) (hK : K.length ≤ 1000) (hF : F.length ≤ 1000) (hW : W.length ≤ 90000) (a b' vn vd : Int) (l : List Tm) (pl : Nat) (day n d : Int) (hh : HdOk ts ⟨.node ⟨10, a, b', vn, vd⟩ l, pl, day, n, d⟩) (hdt : ¬ tod < day)
  (bv : Value) (hB : IsInts w bv (placesI pl l 0)) (hBz : ∀ k, bv.ownBlock = some k → k ≠ b ∧ nv.ownBlock ≠ some k) :
  Calls Tryz.prog 126 #[.pointer (some ⟨b, 0, none⟩), .agg #[.int .i64 pl, .int .i64 day, .int .i64 n, .int .i64 d], bv] w (TurnEnd (stepT (envT fx ch) tod ⟨10, a, b', vn, vd⟩ l pl day n d) (keptH (envT fx ch) tod ⟨.node ⟨10, a, b', vn, vd⟩ l, pl, day, n, d⟩) w0 b tv tod (.pointer (some ⟨p, 0, none⟩)) H K F W) := by
 obtain ⟨hT, hso, hmk, hd0, hd1, hva⟩ := hh
 simp only at hT hso hmk hd0 hd1 hva
 have hl : l.length = 0 := by have := hT.root.2.2.2; simpa [manyN] using this
 have hk : pl < ts.length := by have := hT.le; have := (Tm.node ⟨10, a, b', vn, vd⟩ l).size_pos; omega
 have hnd : ts[pl] = ⟨10, a, b', vn, vd⟩ := by have := hT.root.1; rw [List.getElem?_eq_getElem hk] at this; exact Option.some.inj this
 have hfld : fieldsB ⟨10, a, b', vn, vd⟩ = true := by rw [← hnd]; exact hJ.good.fields _ (List.getElem_mem hk)
 have hnok : (⟨10, a, b', vn, vd⟩ : Nd).ok := by rw [← hnd]; exact hJ.ok _ (List.getElem_mem hk)
 obtain ⟨tb, tq, tc, rfl, -, -, -⟩ := hJ.nodes.full hk
 have HJ := Lib.hid hJ
 have HN0 := Lib.hid (fun W1 (hl1 : Later w0 W1) => (hJ.nodes.later hl1).full hk)
 rw [hnd] at HN0
 have HST := Lib.hid hst
 have HT := Lib.hid hT
 have HSO := Lib.hid hso
 have HVA := Lib.hid hva
 have HLL := Lib.hid hl
 have HFLD := Lib.hid hfld
 have HNOK := Lib.hid hnok
 have HLEN := Lib.hid (show H.length ≤ 1000 ∧ K.length ≤ 1000 ∧ F.length ≤ 1000 ∧ W.length ≤ 90000 from ⟨hH, hK, hF, hW⟩)
 have HKH := Lib.hid (keptH_node (envT fx ch) tod ⟨10, a, b', vn, vd⟩ l pl day n d)
 have HDT := Lib.hid hdt
 have HPL := Lib.hid (placesI_length pl l 0)
 obtain ⟨PL, hPL⟩ : ∃ P, placesI pl l 0 = P := ⟨_, rfl⟩
 rw [hPL] at HPL hB
 have HPLE := Lib.hid hPL
 obtain ⟨bp, bc, rfl⟩ := hB.form
 rw [HPL.out] at hB hBz ⊢
 have HI := Lib.hid hB
 have HBZ := Lib.hid hBz
 have hzb : b < w.heap.size := hst.own.1.1
 have hlo := hw0.size
 have hkI : (pl : Int) < (ts.length : Int) := by omega
 have HDD := Lib.hid (show (0 ≤ day ∧ day ≤ 73048) ∧ (-1 ≤ tod ∧ tod ≤ 73048) from ⟨⟨hd0, hd1⟩, ht0, ht1⟩)
 clear hst hT hso hmk hva hl hnd hJ hfld hnok hH hF hW hK hdt hPL hB hBz hd0 hd1 ht0 ht1
 generalize ts.length = L at *
 go_enter Tryz.func126, Tryz.ntmps126
 go_upto_region 1 with (fail)
 refine wp_opaque (fun w1 hb1 => ?_)
 have hO1 := Own.one hb1
 have hl1 : Later w w1 := hb1.un1
 clear hb1
 obtain ⟨A, hA⟩ : ∃ A, w.heap.size = A := ⟨_, rfl⟩
 rw [hA] at hO1 ⊢
 have HOA1 := Lib.hid hO1
 obtain ⟨⟨zA, cA, fA⟩, -⟩ := hO1
 have k0 : w1.cell? ⟨A, 0, none⟩ = some (.int .i64 pl) := cA 0
 have k1 : w1.cell? ⟨A, 1, none⟩ = some (.int .i64 day) := cA 1
 have k2 : w1.cell? ⟨A, 2, none⟩ = some (.int .i64 n) := cA 2
 have k3 : w1.cell? ⟨A, 3, none⟩ = some (.int .i64 d) := cA 3
 have kf1 : w1.frozen? ⟨A, 1, none⟩ = false := fA 1 (by simp)
 have kf2 : w1.frozen? ⟨A, 2, none⟩ = false := fA 2 (by simp)
 have kf3 : w1.frozen? ⟨A, 3, none⟩ = false := fA 3 (by simp)
 have s4 : w1.cell? ⟨b, 4, none⟩ = some (.slice (some ⟨tb, tq, none⟩) L tc) := (HST.out.later hl1).own.1.2.1 4
 have s6 : w1.cell? ⟨b, 6, none⟩ = some (.pointer (some ⟨p, 0, none⟩)) := (HST.out.later hl1).own.1.2.1 6
 have hzb1 : b < w1.heap.size := Nat.lt_of_lt_of_le hzb hl1.size
 have hl01 := hw0.trans hl1
 have HS1 := Lib.hid (HST.out.later hl1)
 have hz1 := hl1.size
 rw [hA] at hz1 hlo
 have HAW : Hid (w.heap.size = A) := Lib.hid hA
 have hbA : b < A := by omega
 clear cA fA
 obtain ⟨tb', tq', tc', htv, hzt, hcap, y0, y1, y2, y3, y4⟩ := HN0.out w1 hl01
 cases htv
 clear HN0
 go_cut [7] (fun s7 wx => ∃ C, s7 = .pointer (some ⟨C, 0, none⟩) ∧ Own wx [(C, #[.int .i64 10, .int .i64 a, .int .i64 b', .int .i64 vn, .int .i64 vd])] ∧ w1.heap.size ≤ C ∧ Later w1 wx)
 case first =>
  have hO5 := Lib.hid (own_alloc w1 #[.int .i64 10, .int .i64 a, .int .i64 b', .int .i64 vn, .int .i64 vd] 61)
  clear HOA1 hl1 hA s6 HS1
  refine U.wp_region_plan 9 (.two [0, 4, 5] 1 (.one [2, 3, 6, 7] 8 (.one [] 9 (.done []))) 8 (.one [] 1 (.one [2, 3, 6, 7] 9 (.done [])))) (by kernel_rfl) (by kernel_rfl) (fun _ _ d _ _ h => by cases d <;> exact h) ?_
  repeat' (first
   | ((first | refine plan_done (fun K hK => ?_) | refine plan_one (by rfl) (fun K hK => ?_)); (first | (simp only [zq9]; repeat (go_big_quiet_step (fail))) | simp only [pick_nil]); refine wpQuiet_nil (hK _ ?_); clear hK K)
   | (refine plan_two (by rfl) (by rfl) (fun K hK => ?_); (first | (simp only [zq9]; repeat (go_big_quiet_step (fail))) | simp only [pick_nil]); refine wpQuiet_nil (hK _ ?_); clear hK K; refine ⟨?_, ?_⟩)
   | ((with_reducible refine at_list ?_); go_wp2_with (fail); first | refine behind_store (t := 9) (by decide) ?_ | refine behind (by with_reducible repeat (first | exact zq1 _ | assumption | refine zq2 ?_ | refine zq5 ?_ _ | refine zq6 ?_ _ | refine zq7 ?_ | refine zq8 ?_ (by assumption))) ?_))
  all_goals
   go_wp2_with fail
   go_meet
   first
    | exact ⟨_, rfl, own_alloc _ _ _, by simp, by repeat (first | with_reducible (first | exact zq1 _ | assumption | refine zq2 ?_ | refine zq4 ?_ ?_ _ | refine zq5 ?_ _ | refine zq6 ?_ _ | refine zq7 ?_ | refine zq8 ?_ (by assumption)) | (simp only [zq10]; omega) | (simp; done) | (simp; omega))⟩
    | exact ⟨_, rfl, own_set5 (own_alloc _ _ _), by simp, by repeat (first | with_reducible (first | exact zq1 _ | assumption | refine zq2 ?_ | refine zq4 ?_ ?_ _ | refine zq5 ?_ _ | refine zq6 ?_ _ | refine zq7 ?_ | refine zq8 ?_ (by assumption)) | (simp only [zq10]; omega) | (simp; done) | (simp; omega))⟩
 case rest =>
  obtain ⟨C, rfl, hOC, hCz, hl2⟩ := hcut
  obtain ⟨w4, rfl⟩ : ∃ x, x = wc := ⟨_, rfl⟩
  clear y0 y1 y2 y3 y4 hzt hcap s4
  replace k0 := (bcell hl2).1 _ 0 zA |>.trans k0
  replace k1 := (bcell hl2).1 _ 1 zA |>.trans k1
  replace k2 := (bcell hl2).1 _ 2 zA |>.trans k2
  replace k3 := (bcell hl2).1 _ 3 zA |>.trans k3
  replace kf1 := (bcell hl2).2 _ 1 zA |>.trans kf1
  replace kf2 := (bcell hl2).2 _ 2 zA |>.trans kf2
  replace kf3 := (bcell hl2).2 _ 3 zA |>.trans kf3
  replace s6 := (bcell hl2).1 _ 6 hzb1 |>.trans s6
  have hl4 := hl1.trans hl2
  have hl04 := hw0.trans hl4
  have HS4 := Lib.hid (HS1.out.later hl2)
  have HOA := Lib.hid (HOA1.out.later hl2)
  have HOC := Lib.hid hOC
  have hz4 := hl4.size
  have zA4 := Nat.lt_of_lt_of_le zA hl2.size
  have zb4 := Nat.lt_of_lt_of_le hzb1 hl2.size
  obtain ⟨zC, cC, -⟩ := own_get hOC
  have x0 := cC 0
  have x1 := cC 1
  have x2 := cC 2
  simp only [List.getElem?_toArray, List.getElem?_cons_zero, List.getElem?_cons_succ] at x0 x1 x2
  rw [HAW.out] at hz4
  have hCA : A < C := by have := zA; omega
  clear hOC cC hl1 hl2 HS1 HOA1 hl01 zA hzb1 hz1
  have HRD := Lib.hid (fun W1 => round_good n d W1 HVA.out)
  obtain ⟨m, hm⟩ : ∃ m, roundI n d = m := ⟨_, rfl⟩
  rw [hm] at HRD
  by_cases h0 : m = 0
  ·subst h0
   have HM0 := Lib.hid hm
   clear hm
   go_wp2_with (go_at_call 133; go_must (refine (HRD.out _).mono ?_; rintro e w5 ⟨rfl, hb5⟩))
   go_ret
   exact turn_end (r := (0, [], [], [])) (kp := []) (HS4.out.later hb5) (by simp [stepT, HM0.out]) (by rw [HKH.out, if_neg (show ¬ tod < day by have := HDT.out; omega)]; simp) (by simp) (by simp) (by simp) (by simp) (hl04.trans hb5)
  ·have hb1 : (m == 0) = false := by simpa using h0
   have hb2 : (m != 0) = true := by simpa using h0
   have HM0 := Lib.hid (show roundI n d = m ∧ m ≠ 0 from ⟨hm, h0⟩)
   clear hm h0
   go_upto_region 6 with (go_at_call 133; go_must (refine (HRD.out _).mono ?_; rintro e w5 ⟨rfl, hb5⟩))
   have HS5 := Lib.hid (HS4.out.later hb5)
   obtain ⟨fp5, fc5, hfv⟩ := HS5.out.flows.form
   obtain ⟨N, hN⟩ : ∃ N, F.length = N := ⟨_, rfl⟩
   rw [hN] at hfv
   have HNN := Lib.hid hN
   subst hfv
   have HF9 : Hid (∀ z ∈ [(b, (#[nv, kv, .slice fp5 N fc5, wv, .slice (some ⟨tb, tq, none⟩) L tc, .int .i64 tod, .pointer (some ⟨p, 0, none⟩)] : Array Value))], (Value.slice fp5 N fc5).ownBlock ≠ some z.1) := Lib.hid (fun z hz => by
    simp only [List.mem_cons, List.not_mem_nil, or_false] at hz
    subst hz
    exact HS5.out.fvb)
   obtain ⟨⟨z7, c7, f7⟩, -⟩ := id HS5.out.own
   have b2 : w5.cell? ⟨b, 2, none⟩ = some (.slice fp5 N fc5) := c7 2
   have bf2 : w5.frozen? ⟨b, 2, none⟩ = false := f7 2 (by simp)
   replace k1 := (bcell hb5).1 _ 1 zA4 |>.trans k1
   replace x1 := (bcell hb5).1 _ 1 zC |>.trans x1
   have hzA5 := Nat.lt_of_lt_of_le zA4 hb5.size
   have hzC5 := Nat.lt_of_lt_of_le zC hb5.size
   have hneb : ¬ (Value.slice fp5 N fc5).ownBlock = some b := HS5.out.fvb
   have hneA : ¬ (Value.slice fp5 N fc5).ownBlock = some A := fun e => by have := (HST.out.flows.lo A e).2; have := HAW.out; omega
   have hneC : ¬ (Value.slice fp5 N fc5).ownBlock = some C := fun e => by have := (HST.out.flows.lo _ e).2; have := HAW.out; omega
   have hl05 := hl04.trans hb5
   clear c7 f7 hN k0 k2 k3 kf1 kf2 kf3 x0 x2 s6
   refine S.wp_region_plan (S := (fun k => (Value.slice fp5 N fc5).ownBlock = some k)) 17 (.two [0, 1, 6, 7, 8, 9, 10, 11] 2 (.one [3, 4, 5] 12 (.one [] 13 (.one [] 14 (.one [15, 16] 17 (.done []))))) 12 (.one [] 2 (.one [3, 4, 5] 13 (.one [] 14 (.one [15, 16] 17 (.done [])))))) (by kernel_rfl) (by kernel_rfl) (fun _ _ d _ _ h => by cases d <;> exact h) ?_
   repeat' (first
    | ((first | refine S.plan_done (fun K hK => ?_) | refine S.plan_one (by rfl) (fun K hK => ?_)); (first | (simp only [zq9]; repeat (go_big_quiet_step (fail))) | simp only [pick_nil]); refine wpQuiet_nil (hK _ ?_); clear hK K)
    | (refine S.plan_two (by rfl) (by rfl) (fun K hK => ?_); (first | (simp only [zq9]; repeat (go_big_quiet_step (fail))) | simp only [pick_nil]); refine wpQuiet_nil (hK _ ?_); clear hK K; refine ⟨?_, ?_⟩)
    | ((with_reducible refine at_list ?_); (try simp only [List.getElem_toArray, List.getElem_cons_succ, List.getElem_cons_zero]); go_wp2_with ((at_builtin; go_must (refine B.wpList_quePushD (v := .slice fp5 N fc5) (base := w0.heap.size) (n := N) (xs := F.flatMap flCs) #[.int .i64 day, .int .i64 a, .int .i64 m] sliceFlow (HNN.out ▸ HS5.out.flows) hl05.size rfl _ _ rfl rfl 1 w5.heap.size rfl rfl rfl (by simp [Value.oneCell']) (by have := HLEN.out; have := HNN.out; omega) (by have := HLEN.out; have := HNN.out; unfold maxLen; omega) ?_; intro v9 w9 h1 h2 h3; obtain ⟨p8, c8, rfl⟩ := B.Que.form h1; have hS9 := S.LatB.grown (S := fun k => (Value.slice fp5 N fc5).ownBlock = some k) (S.LatB.refl _) h2 (fun k hk => hk); have hO9 := B.own_grown (HS5.out.own.later (((Later.refl _).alloc _).drew)) h2 HF9.out; have hc9 : w9.cell? ⟨b, 2, none⟩ = some (.slice fp5 N fc5) := hO9.1.2.1 2; have hf9 : w9.frozen? ⟨b, 2, none⟩ = false := hO9.1.2.2 2 (by simp); have HO9 := Lib.hid hO9; clear hO9))); first | refine S.behind_store (t := 17) (by decide) ?_ | refine S.behind (by repeat (first | with_reducible exact S.LatB.refl _ | with_reducible assumption | with_reducible refine S.LatB.ofdrew ?_ | with_reducible refine S.LatB.drew ?_ | with_reducible refine S.LatB.alloc ?_ _ | (with_reducible refine S.LatB.of ?_))) ?_))
   all_goals
    have hx := HS5.out.put_flows ((Later.refl w5).alloc _).drew h2 (L' := F ++ [⟨day, a, m⟩]) h3 (by rw [List.flatMap_append, List.length_append, HNN.out]; exact h1)
    go_wp2_with fail
    go_ret
    exact turn_end (r := (0, [], [⟨day, a, m⟩], [])) (kp := []) hx.1 (by simp [stepT, HM0.out]) (by rw [HKH.out, if_neg (show ¬ tod < day by have := HDT.out; omega)]; simp) (by simp) (by simp) (by simp) (by simp) (lat_base hx.2 hl05 (fun k hk => hk.elim (fun e => e ▸ HS4.out.lob) (fun e => (HS4.out.flows.lo k e).1)))
set_option maxHeartbeats 8000000 in
theorem tpl_11 {w0 : World} {ts : List Nd} {T : Tm} {tv : Value} {fx : FxL} {ch : ChL} {p m1 m2 : Nat} (hJ : JobAt w0 ts T tv fx ch p m1 m2) (w : World) (hw0 : Later w0 w) (b : Nat) (tod : Int) (ht0 : -1 ≤ tod) (ht1 : tod ≤ 73048) (nv kv fv wv : Value) (H K : List Hd) (F : List Fl) (W : List Wt)
  (hst : TurnAt w0.heap.size w b tv tod (.pointer (some ⟨p, 0, none⟩)) nv kv fv wv H K F W) (hH : H.length ≤ 1000) (hK : K.length ≤ 1000) (hF : F.length ≤ 1000) (hW : W.length ≤ 90000) (a b' vn vd : Int) (l : List Tm) (pl : Nat) (day n d : Int) (hh : HdOk ts ⟨.node ⟨11, a, b', vn, vd⟩ l, pl, day, n, d⟩) (hdt : ¬ tod < day)
  (bv : Value) (hB : IsInts w bv (placesI pl l 1)) (hBz : ∀ k, bv.ownBlock = some k → k ≠ b ∧ nv.ownBlock ≠ some k) :
  Calls Tryz.prog 126 #[.pointer (some ⟨b, 0, none⟩), .agg #[.int .i64 pl, .int .i64 day, .int .i64 n, .int .i64 d], bv] w (TurnEnd (stepT (envT fx ch) tod ⟨11, a, b', vn, vd⟩ l pl day n d) (keptH (envT fx ch) tod ⟨.node ⟨11, a, b', vn, vd⟩ l, pl, day, n, d⟩) w0 b tv tod (.pointer (some ⟨p, 0, none⟩)) H K F W) := by
 obtain ⟨hT, hso, hmk, hd0, hd1, hva⟩ := hh
 simp only at hT hso hmk hd0 hd1 hva
 have hl : l.length = 1 := by have := hT.root.2.2.2; simpa [manyN] using this
 have hk : pl < ts.length := by have := hT.le; have := (Tm.node ⟨11, a, b', vn, vd⟩ l).size_pos; omega
 have hnd : ts[pl] = ⟨11, a, b', vn, vd⟩ := by have := hT.root.1; rw [List.getElem?_eq_getElem hk] at this; exact Option.some.inj this
 have hfld : fieldsB ⟨11, a, b', vn, vd⟩ = true := by rw [← hnd]; exact hJ.good.fields _ (List.getElem_mem hk)
 have hnok : (⟨11, a, b', vn, vd⟩ : Nd).ok := by rw [← hnd]; exact hJ.ok _ (List.getElem_mem hk)
 obtain ⟨tb, tq, tc, rfl, -, -, -⟩ := hJ.nodes.full hk
 have HJ := Lib.hid hJ
 have HN0 := Lib.hid (fun W1 (hl1 : Later w0 W1) => (hJ.nodes.later hl1).full hk)
 rw [hnd] at HN0
 have HST := Lib.hid hst
 have HT := Lib.hid hT
 have HSO := Lib.hid hso
 have HVA := Lib.hid hva
 have HLL := Lib.hid hl
 have HFLD := Lib.hid hfld
 have HNOK := Lib.hid hnok
 have HLEN := Lib.hid (show H.length ≤ 1000 ∧ K.length ≤ 1000 ∧ F.length ≤ 1000 ∧ W.length ≤ 90000 from ⟨hH, hK, hF, hW⟩)
 have HKH := Lib.hid (keptH_node (envT fx ch) tod ⟨11, a, b', vn, vd⟩ l pl day n d)
 have HDT := Lib.hid hdt
 have HPL := Lib.hid (placesI_length pl l 1)
 obtain ⟨PL, hPL⟩ : ∃ P, placesI pl l 1 = P := ⟨_, rfl⟩
 rw [hPL] at HPL hB
 have HPLE := Lib.hid hPL
 obtain ⟨bp, bc, rfl⟩ := hB.form
 rw [HPL.out] at hB hBz ⊢
 have HI := Lib.hid hB
 have HBZ := Lib.hid hBz
 have hzb : b < w.heap.size := hst.own.1.1
 have hlo := hw0.size
 have hkI : (pl : Int) < (ts.length : Int) := by omega
 have HDD := Lib.hid (show (0 ≤ day ∧ day ≤ 73048) ∧ (-1 ≤ tod ∧ tod ≤ 73048) from ⟨⟨hd0, hd1⟩, ht0, ht1⟩)
 clear hst hT hso hmk hva hl hnd hJ hfld hnok hH hF hW hK hdt hPL hB hBz hd0 hd1 ht0 ht1
 generalize ts.length = L at *
 have hl0 : 0 < l.length := by rw [HLL.out]; decide
 have HK0 : Hid (PL[0]'(by rw [HPL.out]; decide) = (placeN pl l 0 : Int)) := Lib.hid (by have := HPLE.out; subst this; simp [placesI])
 obtain ⟨K0, hK0⟩ : ∃ K : Nat, placeN pl l 0 = K := ⟨_, rfl⟩
 rw [hK0] at HK0
 obtain ⟨vb0, vo0, vc0, hv0, hvb0, g0⟩ := HI.out.full (j := 0) (by rw [HPL.out]; decide)
 rw [HK0.out] at g0
 rw [HPL.out] at hv0
 cases hv0
 rw [Nat.add_zero] at g0
 have HBV0 : Hid (vb0 < w.heap.size) := Lib.hid hvb0
 go_enter Tryz.func126, Tryz.ntmps126
 go_upto_region 1 with (fail)
 refine wp_opaque (fun w1 hb1 => ?_)
 have hO1 := Own.one hb1
 have hl1 : Later w w1 := hb1.un1
 clear hb1
 obtain ⟨A, hA⟩ : ∃ A, w.heap.size = A := ⟨_, rfl⟩
 rw [hA] at hO1 ⊢
 have HOA1 := Lib.hid hO1
 obtain ⟨⟨zA, cA, fA⟩, -⟩ := hO1
 have k0 : w1.cell? ⟨A, 0, none⟩ = some (.int .i64 pl) := cA 0
 have k1 : w1.cell? ⟨A, 1, none⟩ = some (.int .i64 day) := cA 1
 have k2 : w1.cell? ⟨A, 2, none⟩ = some (.int .i64 n) := cA 2
 have k3 : w1.cell? ⟨A, 3, none⟩ = some (.int .i64 d) := cA 3
 have kf1 : w1.frozen? ⟨A, 1, none⟩ = false := fA 1 (by simp)
 have kf2 : w1.frozen? ⟨A, 2, none⟩ = false := fA 2 (by simp)
 have kf3 : w1.frozen? ⟨A, 3, none⟩ = false := fA 3 (by simp)
 have s4 : w1.cell? ⟨b, 4, none⟩ = some (.slice (some ⟨tb, tq, none⟩) L tc) := (HST.out.later hl1).own.1.2.1 4
 have s6 : w1.cell? ⟨b, 6, none⟩ = some (.pointer (some ⟨p, 0, none⟩)) := (HST.out.later hl1).own.1.2.1 6
 have hzb1 : b < w1.heap.size := Nat.lt_of_lt_of_le hzb hl1.size
 have hl01 := hw0.trans hl1
 have HS1 := Lib.hid (HST.out.later hl1)
 have hz1 := hl1.size
 rw [hA] at hz1 hlo
 have HAW : Hid (w.heap.size = A) := Lib.hid hA
 have hbA : b < A := by omega
 clear cA fA
 obtain ⟨tb', tq', tc', htv, hzt, hcap, y0, y1, y2, y3, y4⟩ := HN0.out w1 hl01
 cases htv
 clear HN0
 go_cut [7] (fun s7 wx => ∃ C, s7 = .pointer (some ⟨C, 0, none⟩) ∧ Own wx [(C, #[.int .i64 11, .int .i64 a, .int .i64 b', .int .i64 vn, .int .i64 vd])] ∧ w1.heap.size ≤ C ∧ Later w1 wx)
 case first =>
  have hO5 := Lib.hid (own_alloc w1 #[.int .i64 11, .int .i64 a, .int .i64 b', .int .i64 vn, .int .i64 vd] 61)
  clear HOA1 hl1 hA s6 HS1
  refine U.wp_region_plan 9 (.two [0, 4, 5] 1 (.one [2, 3, 6, 7] 8 (.one [] 9 (.done []))) 8 (.one [] 1 (.one [2, 3, 6, 7] 9 (.done [])))) (by kernel_rfl) (by kernel_rfl) (fun _ _ d _ _ h => by cases d <;> exact h) ?_
  repeat' (first
   | ((first | refine plan_done (fun K hK => ?_) | refine plan_one (by rfl) (fun K hK => ?_)); (first | (simp only [zq9]; repeat (go_big_quiet_step (fail))) | simp only [pick_nil]); refine wpQuiet_nil (hK _ ?_); clear hK K)
   | (refine plan_two (by rfl) (by rfl) (fun K hK => ?_); (first | (simp only [zq9]; repeat (go_big_quiet_step (fail))) | simp only [pick_nil]); refine wpQuiet_nil (hK _ ?_); clear hK K; refine ⟨?_, ?_⟩)
   | ((with_reducible refine at_list ?_); go_wp2_with (fail); first | refine behind_store (t := 9) (by decide) ?_ | refine behind (by with_reducible repeat (first | exact zq1 _ | assumption | refine zq2 ?_ | refine zq5 ?_ _ | refine zq6 ?_ _ | refine zq7 ?_ | refine zq8 ?_ (by assumption))) ?_))
  all_goals
   go_wp2_with fail
   go_meet
   first
    | exact ⟨_, rfl, own_alloc _ _ _, by simp, by repeat (first | with_reducible (first | exact zq1 _ | assumption | refine zq2 ?_ | refine zq4 ?_ ?_ _ | refine zq5 ?_ _ | refine zq6 ?_ _ | refine zq7 ?_ | refine zq8 ?_ (by assumption)) | (simp only [zq10]; omega) | (simp; done) | (simp; omega))⟩
    | exact ⟨_, rfl, own_set5 (own_alloc _ _ _), by simp, by repeat (first | with_reducible (first | exact zq1 _ | assumption | refine zq2 ?_ | refine zq4 ?_ ?_ _ | refine zq5 ?_ _ | refine zq6 ?_ _ | refine zq7 ?_ | refine zq8 ?_ (by assumption)) | (simp only [zq10]; omega) | (simp; done) | (simp; omega))⟩
 case rest =>
  obtain ⟨C, rfl, hOC, hCz, hl2⟩ := hcut
  obtain ⟨w4, rfl⟩ : ∃ x, x = wc := ⟨_, rfl⟩
  clear y0 y1 y2 y3 y4 hzt hcap s4
  replace k0 := (bcell hl2).1 _ 0 zA |>.trans k0
  replace k1 := (bcell hl2).1 _ 1 zA |>.trans k1
  replace k2 := (bcell hl2).1 _ 2 zA |>.trans k2
  replace k3 := (bcell hl2).1 _ 3 zA |>.trans k3
  replace kf1 := (bcell hl2).2 _ 1 zA |>.trans kf1
  replace kf2 := (bcell hl2).2 _ 2 zA |>.trans kf2
  replace kf3 := (bcell hl2).2 _ 3 zA |>.trans kf3
  replace s6 := (bcell hl2).1 _ 6 hzb1 |>.trans s6
  have hl4 := hl1.trans hl2
  have hl04 := hw0.trans hl4
  have HS4 := Lib.hid (HS1.out.later hl2)
  have HOA := Lib.hid (HOA1.out.later hl2)
  have HOC := Lib.hid hOC
  have hz4 := hl4.size
  have zA4 := Nat.lt_of_lt_of_le zA hl2.size
  have zb4 := Nat.lt_of_lt_of_le hzb1 hl2.size
  obtain ⟨zC, cC, -⟩ := own_get hOC
  have x0 := cC 0
  have x1 := cC 1
  have x2 := cC 2
  simp only [List.getElem?_toArray, List.getElem?_cons_zero, List.getElem?_cons_succ] at x0 x1 x2
  rw [HAW.out] at hz4
  have hCA : A < C := by have := zA; omega
  clear hOC cC hl1 hl2 HS1 HOA1 hl01 zA hzb1 hz1
  replace g0 := (bcell hl4).1 _ _ hvb0 |>.trans g0
  replace hvb0 := Nat.lt_of_lt_of_le hvb0 hl4.size
  go_upto_region 9 with (go_at_call 134; go_must (refine (neg_good n d _ HVA.out).mono ?_; rintro e w5 ⟨rfl, hb5⟩; have kz5 := Nat.lt_of_lt_of_le zA4 hb5.size; replace kf2 := (bcell hb5).2 _ 2 zA4 |>.trans kf2; replace kf3 := (bcell hb5).2 _ 3 zA4 |>.trans kf3; have kc2 : w5.cell? ⟨A, 2, none⟩ = some (.int .i64 n) := (bcell hb5).1 _ 2 zA4 |>.trans k2; have kc3 : w5.cell? ⟨A, 3, none⟩ = some (.int .i64 d) := (bcell hb5).1 _ 3 zA4 |>.trans k3))
  have hOB := B.own_at (B.own_at (HOA.out.later hb5) (k := 2) (by simp) (.int .i64 (-n))) (k := 3) (by simp) (.int .i64 d)
  have hs6 := ((HS4.out.later hb5).set A 2 (fun k hk => by have := HST.out.base k hk; have := HAW.out; omega) (.int .i64 (-n))).set A 3 (fun k hk => by have := HST.out.base k hk; have := HAW.out; omega) (.int .i64 d)
  have hl6 : Later w0 ((w5.setCell ⟨A, 2, none⟩ (.int .i64 (-n))).setCell ⟨A, 3, none⟩ (.int .i64 d)) := ((hl04.trans hb5).putCell (by omega) _).putCell (by omega) _
  have hl46 : S.LatB (fun k => k = A) w4 ((w5.setCell ⟨A, 2, none⟩ (.int .i64 (-n))).setCell ⟨A, 3, none⟩ (.int .i64 d)) := S.LatB.setCell (S := fun k => k = A) (S.LatB.setCell (S := fun k => k = A) (S.LatB.of hb5) (.inl rfl) _) (.inl rfl) _
  obtain ⟨w6, hw6⟩ : ∃ x, (w5.setCell ⟨A, 2, none⟩ (.int .i64 (-n))).setCell ⟨A, 3, none⟩ (.int .i64 d) = x := ⟨_, rfl⟩
  rw [hw6] at hOB hs6 hl6 hl46 ⊢
  obtain ⟨zA6, cA6, -⟩ := own_get hOB
  have k0 := cA6 0
  have k1 := cA6 1
  have k2 := cA6 2
  have k3 := cA6 3
  simp at k0 k1 k2 k3
  have hnA : ¬ vb0 = A := fun e => by have := HBV0.out; have := HAW.out; omega
  replace g0 := (hl46.cell (p := ⟨vb0, _, none⟩) hvb0 hnA).trans g0
  have HS6 := Lib.hid hs6
  clear hw6 hOB cA6 hs6 x0 x1 x2 s6 kf1 kf2 kf3 kz5
  have HPUT := Lib.hid (fun W1 (hl : Later w6 W1) => tthen_later (b := b) hl6.size (by have := HLEN.out; omega) HS6.out ⟨l[0], placeN pl l 0, day, -n, d⟩ (pl : Int) (K0 : Int) (by rw [hK0]) W1 hl)
  refine V.wp_region_plan 7 (.one [0, 3, 4, 5, 6] 1 (.one [2] 7 (.done []))) (by kernel_rfl) (by kernel_rfl) (fun _ _ d _ _ h => by cases d <;> exact h) ?_
  repeat' (first
   | ((first | refine plan_done (fun K hK => ?_) | refine plan_one (by rfl) (fun K hK => ?_)); (first | (simp only [zq9]; repeat (go_big_quiet_step (fail))) | simp only [pick_nil]); refine wpQuiet_nil (hK _ ?_); clear hK K)
   | ((with_reducible refine at_list ?_); go_wp2_with ((go_at_call 168; go_must (refine (HPUT.out _ (by repeat (first | with_reducible (first | exact zq1 _ | assumption | refine zq2 ?_ | refine zq4 ?_ ?_ _ | refine zq5 ?_ _ | refine zq6 ?_ _ | refine zq7 ?_ | refine zq8 ?_ (by assumption)) | (simp only [zq10]; omega) | (simp; done) | (simp; omega)))).mono ?_; rintro e w9 ⟨rfl, nv9, hs9, hz9, hf9⟩))); first | refine behind_store (t := 7) (by decide) ?_ | refine behind (by with_reducible repeat (first | exact zq1 _ | assumption | refine zq2 ?_ | refine zq5 ?_ _ | refine zq6 ?_ _ | refine zq7 ?_ | refine zq8 ?_ (by assumption))) ?_))
  have hfin : Later w0 w9 := lat_base hz9 (by first | exact hl6.drew | exact hl6) (fun k hk => hk.elim (fun e => e ▸ HS4.out.lob) (fun e => (HS4.out.next.lo k e).1))
  go_wp2_with fail
  go_ret
  exact turn_end (r := (0, [⟨l[0], placeN pl l 0, day, -n, d⟩], [], [])) (kp := []) hs9 (by simp [stepT, kidH_at hl0]) (by rw [HKH.out, if_neg (show ¬ tod < day by have := HDT.out; omega)]; simp) (by simp) (by simp) (by simp) (by simp) hfin
set_option maxHeartbeats 8000000 in
theorem tpl_12 {w0 : World} {ts : List Nd} {T : Tm} {tv : Value} {fx : FxL} {ch : ChL} {p m1 m2 : Nat} (hJ : JobAt w0 ts T tv fx ch p m1 m2) (w : World) (hw0 : Later w0 w) (b : Nat) (tod : Int) (ht0 : -1 ≤ tod) (ht1 : tod ≤ 73048) (nv kv fv wv : Value) (H K : List Hd) (F : List Fl) (W : List Wt)
  (hst : TurnAt w0.heap.size w b tv tod (.pointer (some ⟨p, 0, none⟩)) nv kv fv wv H K F W) (hH : H.length ≤ 1000) (hK : K.length ≤ 1000) (hF : F.length ≤ 1000) (hW : W.length ≤ 90000) (a b' vn vd : Int) (l : List Tm) (pl : Nat) (day n d : Int) (hh : HdOk ts ⟨.node ⟨12, a, b', vn, vd⟩ l, pl, day, n, d⟩) (hdt : ¬ tod < day)
  (bv : Value) (hB : IsInts w bv (placesI pl l 2)) (hBz : ∀ k, bv.ownBlock = some k → k ≠ b ∧ nv.ownBlock ≠ some k) :
  Calls Tryz.prog 126 #[.pointer (some ⟨b, 0, none⟩), .agg #[.int .i64 pl, .int .i64 day, .int .i64 n, .int .i64 d], bv] w (TurnEnd (stepT (envT fx ch) tod ⟨12, a, b', vn, vd⟩ l pl day n d) (keptH (envT fx ch) tod ⟨.node ⟨12, a, b', vn, vd⟩ l, pl, day, n, d⟩) w0 b tv tod (.pointer (some ⟨p, 0, none⟩)) H K F W) := by
 obtain ⟨hT, hso, hmk, hd0, hd1, hva⟩ := hh
 simp only at hT hso hmk hd0 hd1 hva
 have hl : l.length = 2 := by have := hT.root.2.2.2; simpa [manyN] using this
 have hk : pl < ts.length := by have := hT.le; have := (Tm.node ⟨12, a, b', vn, vd⟩ l).size_pos; omega
 have hnd : ts[pl] = ⟨12, a, b', vn, vd⟩ := by have := hT.root.1; rw [List.getElem?_eq_getElem hk] at this; exact Option.some.inj this
 have hfld : fieldsB ⟨12, a, b', vn, vd⟩ = true := by rw [← hnd]; exact hJ.good.fields _ (List.getElem_mem hk)
 have hnok : (⟨12, a, b', vn, vd⟩ : Nd).ok := by rw [← hnd]; exact hJ.ok _ (List.getElem_mem hk)
 obtain ⟨tb, tq, tc, rfl, -, -, -⟩ := hJ.nodes.full hk
 have HJ := Lib.hid hJ
 have HN0 := Lib.hid (fun W1 (hl1 : Later w0 W1) => (hJ.nodes.later hl1).full hk)
 rw [hnd] at HN0
 have HST := Lib.hid hst
 have HT := Lib.hid hT
 have HSO := Lib.hid hso
 have HVA := Lib.hid hva
 have HLL := Lib.hid hl
 have HFLD := Lib.hid hfld
 have HNOK := Lib.hid hnok
 have HLEN := Lib.hid (show H.length ≤ 1000 ∧ K.length ≤ 1000 ∧ F.length ≤ 1000 ∧ W.length ≤ 90000 from ⟨hH, hK, hF, hW⟩)
 have HKH := Lib.hid (keptH_node (envT fx ch) tod ⟨12, a, b', vn, vd⟩ l pl day n d)
 have HDT := Lib.hid hdt
 have HPL := Lib.hid (placesI_length pl l 2)
 obtain ⟨PL, hPL⟩ : ∃ P, placesI pl l 2 = P := ⟨_, rfl⟩
 rw [hPL] at HPL hB
 have HPLE := Lib.hid hPL
 obtain ⟨bp, bc, rfl⟩ := hB.form
 rw [HPL.out] at hB hBz ⊢
 have HI := Lib.hid hB
 have HBZ := Lib.hid hBz
 have hzb : b < w.heap.size := hst.own.1.1
 have hlo := hw0.size
 have hkI : (pl : Int) < (ts.length : Int) := by omega
 have HDD := Lib.hid (show (0 ≤ day ∧ day ≤ 73048) ∧ (-1 ≤ tod ∧ tod ≤ 73048) from ⟨⟨hd0, hd1⟩, ht0, ht1⟩)
 clear hst hT hso hmk hva hl hnd hJ hfld hnok hH hF hW hK hdt hPL hB hBz hd0 hd1 ht0 ht1
 generalize ts.length = L at *
 have hl0 : 0 < l.length := by rw [HLL.out]; decide
 have HK0 : Hid (PL[0]'(by rw [HPL.out]; decide) = (placeN pl l 0 : Int)) := Lib.hid (by have := HPLE.out; subst this; simp [placesI])
 obtain ⟨K0, hK0⟩ : ∃ K : Nat, placeN pl l 0 = K := ⟨_, rfl⟩
 rw [hK0] at HK0
 obtain ⟨vb0, vo0, vc0, hv0, hvb0, g0⟩ := HI.out.full (j := 0) (by rw [HPL.out]; decide)
 rw [HK0.out] at g0
 rw [HPL.out] at hv0
 cases hv0
 rw [Nat.add_zero] at g0
 have HBV0 : Hid (vb0 < w.heap.size) := Lib.hid hvb0
 have hl1 : 1 < l.length := by rw [HLL.out]; decide
 have HK1 : Hid (PL[1]'(by rw [HPL.out]; decide) = (placeN pl l 1 : Int)) := Lib.hid (by have := HPLE.out; subst this; simp [placesI])
 obtain ⟨K1, hK1⟩ : ∃ K : Nat, placeN pl l 1 = K := ⟨_, rfl⟩
 rw [hK1] at HK1
 obtain ⟨vb1, vo1, vc1, hv1, hvb1, g1⟩ := HI.out.full (j := 1) (by rw [HPL.out]; decide)
 rw [HK1.out] at g1
 rw [HPL.out] at hv1
 cases hv1
 go_enter Tryz.func126, Tryz.ntmps126
 go_upto_region 1 with (fail)
 refine wp_opaque (fun w1 hb1 => ?_)
 have hO1 := Own.one hb1
 have hl1 : Later w w1 := hb1.un1
 clear hb1
 obtain ⟨A, hA⟩ : ∃ A, w.heap.size = A := ⟨_, rfl⟩
 rw [hA] at hO1 ⊢
 have HOA1 := Lib.hid hO1
 obtain ⟨⟨zA, cA, fA⟩, -⟩ := hO1
 have k0 : w1.cell? ⟨A, 0, none⟩ = some (.int .i64 pl) := cA 0
 have k1 : w1.cell? ⟨A, 1, none⟩ = some (.int .i64 day) := cA 1
 have k2 : w1.cell? ⟨A, 2, none⟩ = some (.int .i64 n) := cA 2
 have k3 : w1.cell? ⟨A, 3, none⟩ = some (.int .i64 d) := cA 3
 have kf1 : w1.frozen? ⟨A, 1, none⟩ = false := fA 1 (by simp)
 have kf2 : w1.frozen? ⟨A, 2, none⟩ = false := fA 2 (by simp)
 have kf3 : w1.frozen? ⟨A, 3, none⟩ = false := fA 3 (by simp)
 have s4 : w1.cell? ⟨b, 4, none⟩ = some (.slice (some ⟨tb, tq, none⟩) L tc) := (HST.out.later hl1).own.1.2.1 4
 have s6 : w1.cell? ⟨b, 6, none⟩ = some (.pointer (some ⟨p, 0, none⟩)) := (HST.out.later hl1).own.1.2.1 6
 have hzb1 : b < w1.heap.size := Nat.lt_of_lt_of_le hzb hl1.size
 have hl01 := hw0.trans hl1
 have HS1 := Lib.hid (HST.out.later hl1)
 have hz1 := hl1.size
 rw [hA] at hz1 hlo
 have HAW : Hid (w.heap.size = A) := Lib.hid hA
 have hbA : b < A := by omega
 clear cA fA
 obtain ⟨tb', tq', tc', htv, hzt, hcap, y0, y1, y2, y3, y4⟩ := HN0.out w1 hl01
 cases htv
 clear HN0
 go_cut [7] (fun s7 wx => ∃ C, s7 = .pointer (some ⟨C, 0, none⟩) ∧ Own wx [(C, #[.int .i64 12, .int .i64 a, .int .i64 b', .int .i64 vn, .int .i64 vd])] ∧ w1.heap.size ≤ C ∧ Later w1 wx)
 case first =>
  have hO5 := Lib.hid (own_alloc w1 #[.int .i64 12, .int .i64 a, .int .i64 b', .int .i64 vn, .int .i64 vd] 61)
  clear HOA1 hl1 hA s6 HS1
  refine U.wp_region_plan 9 (.two [0, 4, 5] 1 (.one [2, 3, 6, 7] 8 (.one [] 9 (.done []))) 8 (.one [] 1 (.one [2, 3, 6, 7] 9 (.done [])))) (by kernel_rfl) (by kernel_rfl) (fun _ _ d _ _ h => by cases d <;> exact h) ?_
  repeat' (first
   | ((first | refine plan_done (fun K hK => ?_) | refine plan_one (by rfl) (fun K hK => ?_)); (first | (simp only [zq9]; repeat (go_big_quiet_step (fail))) | simp only [pick_nil]); refine wpQuiet_nil (hK _ ?_); clear hK K)
   | (refine plan_two (by rfl) (by rfl) (fun K hK => ?_); (first | (simp only [zq9]; repeat (go_big_quiet_step (fail))) | simp only [pick_nil]); refine wpQuiet_nil (hK _ ?_); clear hK K; refine ⟨?_, ?_⟩)
   | ((with_reducible refine at_list ?_); go_wp2_with (fail); first | refine behind_store (t := 9) (by decide) ?_ | refine behind (by with_reducible repeat (first | exact zq1 _ | assumption | refine zq2 ?_ | refine zq5 ?_ _ | refine zq6 ?_ _ | refine zq7 ?_ | refine zq8 ?_ (by assumption))) ?_))
  all_goals
   go_wp2_with fail
   go_meet
   first
    | exact ⟨_, rfl, own_alloc _ _ _, by simp, by repeat (first | with_reducible (first | exact zq1 _ | assumption | refine zq2 ?_ | refine zq4 ?_ ?_ _ | refine zq5 ?_ _ | refine zq6 ?_ _ | refine zq7 ?_ | refine zq8 ?_ (by assumption)) | (simp only [zq10]; omega) | (simp; done) | (simp; omega))⟩
    | exact ⟨_, rfl, own_set5 (own_alloc _ _ _), by simp, by repeat (first | with_reducible (first | exact zq1 _ | assumption | refine zq2 ?_ | refine zq4 ?_ ?_ _ | refine zq5 ?_ _ | refine zq6 ?_ _ | refine zq7 ?_ | refine zq8 ?_ (by assumption)) | (simp only [zq10]; omega) | (simp; done) | (simp; omega))⟩
 case rest =>
  obtain ⟨C, rfl, hOC, hCz, hl2⟩ := hcut
  obtain ⟨w4, rfl⟩ : ∃ x, x = wc := ⟨_, rfl⟩
  clear y0 y1 y2 y3 y4 hzt hcap s4
  replace k0 := (bcell hl2).1 _ 0 zA |>.trans k0
  replace k1 := (bcell hl2).1 _ 1 zA |>.trans k1
  replace k2 := (bcell hl2).1 _ 2 zA |>.trans k2
  replace k3 := (bcell hl2).1 _ 3 zA |>.trans k3
  replace kf1 := (bcell hl2).2 _ 1 zA |>.trans kf1
  replace kf2 := (bcell hl2).2 _ 2 zA |>.trans kf2
  replace kf3 := (bcell hl2).2 _ 3 zA |>.trans kf3
  replace s6 := (bcell hl2).1 _ 6 hzb1 |>.trans s6
  have hl4 := hl1.trans hl2
  have hl04 := hw0.trans hl4
  have HS4 := Lib.hid (HS1.out.later hl2)
  have HOA := Lib.hid (HOA1.out.later hl2)
  have HOC := Lib.hid hOC
  have hz4 := hl4.size
  have zA4 := Nat.lt_of_lt_of_le zA hl2.size
  have zb4 := Nat.lt_of_lt_of_le hzb1 hl2.size
  obtain ⟨zC, cC, -⟩ := own_get hOC
  have x0 := cC 0
  have x1 := cC 1
  have x2 := cC 2
  simp only [List.getElem?_toArray, List.getElem?_cons_zero, List.getElem?_cons_succ] at x0 x1 x2
  rw [HAW.out] at hz4
  have hCA : A < C := by have := zA; omega
  clear hOC cC hl1 hl2 HS1 HOA1 hl01 zA hzb1 hz1
  replace g0 := (bcell hl4).1 _ _ hvb0 |>.trans g0
  replace hvb0 := Nat.lt_of_lt_of_le hvb0 hl4.size
  replace g1 := (bcell hl4).1 _ _ hvb1 |>.trans g1
  replace hvb1 := Nat.lt_of_lt_of_le hvb1 hl4.size
  have HPUT := Lib.hid (fun W1 (hl : Later w4 W1) => tthen_later (b := b) hl04.size (by have := HLEN.out; omega) HS4.out ⟨l[0], placeN pl l 0, day, n, d⟩ (pl : Int) (K0 : Int) (by rw [hK0]) W1 hl)
  go_upto_region 11 with (fail)
  refine V.wp_region_plan 7 (.one [0, 3, 4, 5, 6] 1 (.one [2] 7 (.done []))) (by kernel_rfl) (by kernel_rfl) (fun _ _ d _ _ h => by cases d <;> exact h) ?_
  repeat' (first
   | ((first | refine plan_done (fun K hK => ?_) | refine plan_one (by rfl) (fun K hK => ?_)); (first | (simp only [zq9]; repeat (go_big_quiet_step (fail))) | simp only [pick_nil]); refine wpQuiet_nil (hK _ ?_); clear hK K)
   | ((with_reducible refine at_list ?_); go_wp2_with ((go_at_call 168; go_must (refine (HPUT.out _ (by repeat (first | with_reducible (first | exact zq1 _ | assumption | refine zq2 ?_ | refine zq4 ?_ ?_ _ | refine zq5 ?_ _ | refine zq6 ?_ _ | refine zq7 ?_ | refine zq8 ?_ (by assumption)) | (simp only [zq10]; omega) | (simp; done) | (simp; omega)))).mono ?_; rintro e w9 ⟨rfl, nv9, hs9, hz9, hf9⟩))); first | refine behind_store (t := 7) (by decide) ?_ | refine behind (by with_reducible repeat (first | exact zq1 _ | assumption | refine zq2 ?_ | refine zq5 ?_ _ | refine zq6 ?_ _ | refine zq7 ?_ | refine zq8 ?_ (by assumption))) ?_))
  have hfin : Later w0 w9 := lat_base hz9 (by first | exact hl04.drew | exact hl04) (fun k hk => hk.elim (fun e => e ▸ HS4.out.lob) (fun e => (HS4.out.next.lo k e).1))
  have hno : ∀ k, A ≤ k → ¬ (k = b ∨ nv.ownBlock = some k) := fun k hk h => h.elim (fun e => by omega) (fun e => by have := (HST.out.next.lo k e).2; have := HAW.out; omega)
  have hz49 : S.LatB (fun k => k = b ∨ nv.ownBlock = some k) w4 w9 := (S.LatB.of (by first | exact (Later.refl _).drew | exact Later.refl _)).trans hz9
  replace k0 := (hz49.cell zA4 (hno A (Nat.le_refl _))).trans k0
  replace k1 := (hz49.cell (p := ⟨A, 1, none⟩) zA4 (hno A (Nat.le_refl _))).trans k1
  replace k2 := (hz49.cell (p := ⟨A, 2, none⟩) zA4 (hno A (Nat.le_refl _))).trans k2
  replace k3 := (hz49.cell (p := ⟨A, 3, none⟩) zA4 (hno A (Nat.le_refl _))).trans k3
  have hnv : ¬ (vb0 = b ∨ nv.ownBlock = some vb0) := fun h => h.elim (HBZ.out vb0 rfl).1 (HBZ.out vb0 rfl).2
  replace g1 := (hz49.cell (p := ⟨vb0, _, none⟩) hvb0 hnv).trans g1
  have zA9 := Nat.lt_of_lt_of_le zA4 hz49.size
  have zv9 := Nat.lt_of_lt_of_le hvb0 hz49.size
  have HS9 := Lib.hid hs9
  have HPUT2 := Lib.hid (fun W1 (hl : Later w9 W1) => tthen_later (b := b) hfin.size (by have := HLEN.out; simp; omega) HS9.out ⟨l[1], placeN pl l 1, day, n, d⟩ (pl : Int) (K1 : Int) (by rw [hK1]) W1 hl)
  clear hz9 hs9 hf9 HPUT g0 x0 x1 x2 s6 kf1 kf2 kf3 zC zb4 HS4
  go_upto_region 12 with (fail)
  refine V.wp_region_plan 7 (.one [0, 3, 4, 5, 6] 1 (.one [2] 7 (.done []))) (by kernel_rfl) (by kernel_rfl) (fun _ _ d _ _ h => by cases d <;> exact h) ?_
  repeat' (first
   | ((first | refine plan_done (fun K hK => ?_) | refine plan_one (by rfl) (fun K hK => ?_)); (first | (simp only [zq9]; repeat (go_big_quiet_step (fail))) | simp only [pick_nil]); refine wpQuiet_nil (hK _ ?_); clear hK K)
   | ((with_reducible refine at_list ?_); go_wp2_with ((go_at_call 168; go_must (refine (HPUT2.out _ (by repeat (first | with_reducible (first | exact zq1 _ | assumption | refine zq2 ?_ | refine zq4 ?_ ?_ _ | refine zq5 ?_ _ | refine zq6 ?_ _ | refine zq7 ?_ | refine zq8 ?_ (by assumption)) | (simp only [zq10]; omega) | (simp; done) | (simp; omega)))).mono ?_; rintro e wa ⟨rfl, nva, hsa, hza, hfa⟩))); first | refine behind_store (t := 7) (by decide) ?_ | refine behind (by with_reducible repeat (first | exact zq1 _ | assumption | refine zq2 ?_ | refine zq5 ?_ _ | refine zq6 ?_ _ | refine zq7 ?_ | refine zq8 ?_ (by assumption))) ?_))
  have hfina : Later w0 wa := lat_base hza (by first | exact hfin.drew | exact hfin) (fun k hk => hk.elim (fun e => e ▸ HS9.out.lob) (fun e => (HS9.out.next.lo k e).1))
  go_wp2_with fail
  go_ret
  exact turn_end (r := (0, [⟨l[0], placeN pl l 0, day, n, d⟩, ⟨l[1], placeN pl l 1, day, n, d⟩], [], [])) (kp := []) hsa (by simp [stepT, kidH_at hl0, kidH_at hl1]) (by rw [HKH.out, if_neg (show ¬ tod < day by have := HDT.out; omega)]; simp) (by simp) (by simp) (by simp) (by simp) hfina
set_option maxHeartbeats 8000000 in
theorem tpl_14 {w0 : World} {ts : List Nd} {T : Tm} {tv : Value} {fx : FxL} {ch : ChL} {p m1 m2 : Nat} (hJ : JobAt w0 ts T tv fx ch p m1 m2) (w : World) (hw0 : Later w0 w) (b : Nat) (tod : Int) (ht0 : -1 ≤ tod) (ht1 : tod ≤ 73048) (nv kv fv wv : Value) (H K : List Hd) (F : List Fl) (W : List Wt)
  (hst : TurnAt w0.heap.size w b tv tod (.pointer (some ⟨p, 0, none⟩)) nv kv fv wv H K F W) (hH : H.length ≤ 1000) (hK : K.length ≤ 1000) (hF : F.length ≤ 1000) (hW : W.length ≤ 90000) (a b' vn vd : Int) (l : List Tm) (pl : Nat) (day n d : Int) (hh : HdOk ts ⟨.node ⟨14, a, b', vn, vd⟩ l, pl, day, n, d⟩) (hdt : ¬ tod < day)
  (bv : Value) (hB : IsInts w bv (placesI pl l 1)) (hBz : ∀ k, bv.ownBlock = some k → k ≠ b ∧ nv.ownBlock ≠ some k) :
  Calls Tryz.prog 126 #[.pointer (some ⟨b, 0, none⟩), .agg #[.int .i64 pl, .int .i64 day, .int .i64 n, .int .i64 d], bv] w (TurnEnd (stepT (envT fx ch) tod ⟨14, a, b', vn, vd⟩ l pl day n d) (keptH (envT fx ch) tod ⟨.node ⟨14, a, b', vn, vd⟩ l, pl, day, n, d⟩) w0 b tv tod (.pointer (some ⟨p, 0, none⟩)) H K F W) := by
 obtain ⟨hT, hso, hmk, hd0, hd1, hva⟩ := hh
 simp only at hT hso hmk hd0 hd1 hva
 have hl : l.length = 1 := by have := hT.root.2.2.2; simpa [manyN] using this
 have hk : pl < ts.length := by have := hT.le; have := (Tm.node ⟨14, a, b', vn, vd⟩ l).size_pos; omega
 have hnd : ts[pl] = ⟨14, a, b', vn, vd⟩ := by have := hT.root.1; rw [List.getElem?_eq_getElem hk] at this; exact Option.some.inj this
 have hfld : fieldsB ⟨14, a, b', vn, vd⟩ = true := by rw [← hnd]; exact hJ.good.fields _ (List.getElem_mem hk)
 have hnok : (⟨14, a, b', vn, vd⟩ : Nd).ok := by rw [← hnd]; exact hJ.ok _ (List.getElem_mem hk)
 obtain ⟨tb, tq, tc, rfl, -, -, -⟩ := hJ.nodes.full hk
 have HJ := Lib.hid hJ
 have HN0 := Lib.hid (fun W1 (hl1 : Later w0 W1) => (hJ.nodes.later hl1).full hk)
 rw [hnd] at HN0
 have HST := Lib.hid hst
 have HT := Lib.hid hT
 have HSO := Lib.hid hso
 have HVA := Lib.hid hva
 have HLL := Lib.hid hl
 have HFLD := Lib.hid hfld
 have HNOK := Lib.hid hnok
 have HLEN := Lib.hid (show H.length ≤ 1000 ∧ K.length ≤ 1000 ∧ F.length ≤ 1000 ∧ W.length ≤ 90000 from ⟨hH, hK, hF, hW⟩)
 have HKH := Lib.hid (keptH_node (envT fx ch) tod ⟨14, a, b', vn, vd⟩ l pl day n d)
 have HDT := Lib.hid hdt
 have HPL := Lib.hid (placesI_length pl l 1)
 obtain ⟨PL, hPL⟩ : ∃ P, placesI pl l 1 = P := ⟨_, rfl⟩
 rw [hPL] at HPL hB
 have HPLE := Lib.hid hPL
 obtain ⟨bp, bc, rfl⟩ := hB.form
 rw [HPL.out] at hB hBz ⊢
 have HI := Lib.hid hB
 have HBZ := Lib.hid hBz
 have hzb : b < w.heap.size := hst.own.1.1
 have hlo := hw0.size
 have hkI : (pl : Int) < (ts.length : Int) := by omega
 have HDD := Lib.hid (show (0 ≤ day ∧ day ≤ 73048) ∧ (-1 ≤ tod ∧ tod ≤ 73048) from ⟨⟨hd0, hd1⟩, ht0, ht1⟩)
 clear hst hT hso hmk hva hl hnd hJ hfld hnok hH hF hW hK hdt hPL hB hBz hd0 hd1 ht0 ht1
 generalize ts.length = L at *
 have hl0 : 0 < l.length := by rw [HLL.out]; decide
 have HK0 : Hid (PL[0]'(by rw [HPL.out]; decide) = (placeN pl l 0 : Int)) := Lib.hid (by have := HPLE.out; subst this; simp [placesI])
 obtain ⟨K0, hK0⟩ : ∃ K : Nat, placeN pl l 0 = K := ⟨_, rfl⟩
 rw [hK0] at HK0
 obtain ⟨vb0, vo0, vc0, hv0, hvb0, g0⟩ := HI.out.full (j := 0) (by rw [HPL.out]; decide)
 rw [HK0.out] at g0
 rw [HPL.out] at hv0
 cases hv0
 rw [Nat.add_zero] at g0
 have HBV0 : Hid (vb0 < w.heap.size) := Lib.hid hvb0
 go_enter Tryz.func126, Tryz.ntmps126
 go_upto_region 1 with (fail)
 refine wp_opaque (fun w1 hb1 => ?_)
 have hO1 := Own.one hb1
 have hl1 : Later w w1 := hb1.un1
 clear hb1
 obtain ⟨A, hA⟩ : ∃ A, w.heap.size = A := ⟨_, rfl⟩
 rw [hA] at hO1 ⊢
 have HOA1 := Lib.hid hO1
 obtain ⟨⟨zA, cA, fA⟩, -⟩ := hO1
 have k0 : w1.cell? ⟨A, 0, none⟩ = some (.int .i64 pl) := cA 0
 have k1 : w1.cell? ⟨A, 1, none⟩ = some (.int .i64 day) := cA 1
 have k2 : w1.cell? ⟨A, 2, none⟩ = some (.int .i64 n) := cA 2
 have k3 : w1.cell? ⟨A, 3, none⟩ = some (.int .i64 d) := cA 3
 have kf1 : w1.frozen? ⟨A, 1, none⟩ = false := fA 1 (by simp)
 have kf2 : w1.frozen? ⟨A, 2, none⟩ = false := fA 2 (by simp)
 have kf3 : w1.frozen? ⟨A, 3, none⟩ = false := fA 3 (by simp)
 have s4 : w1.cell? ⟨b, 4, none⟩ = some (.slice (some ⟨tb, tq, none⟩) L tc) := (HST.out.later hl1).own.1.2.1 4
 have s6 : w1.cell? ⟨b, 6, none⟩ = some (.pointer (some ⟨p, 0, none⟩)) := (HST.out.later hl1).own.1.2.1 6
 have hzb1 : b < w1.heap.size := Nat.lt_of_lt_of_le hzb hl1.size
 have hl01 := hw0.trans hl1
 have HS1 := Lib.hid (HST.out.later hl1)
 have hz1 := hl1.size
 rw [hA] at hz1 hlo
 have HAW : Hid (w.heap.size = A) := Lib.hid hA
 have hbA : b < A := by omega
 clear cA fA
 obtain ⟨tb', tq', tc', htv, hzt, hcap, y0, y1, y2, y3, y4⟩ := HN0.out w1 hl01
 cases htv
 clear HN0
 go_cut [7] (fun s7 wx => ∃ C, s7 = .pointer (some ⟨C, 0, none⟩) ∧ Own wx [(C, #[.int .i64 14, .int .i64 a, .int .i64 b', .int .i64 vn, .int .i64 vd])] ∧ w1.heap.size ≤ C ∧ Later w1 wx)
 case first =>
  have hO5 := Lib.hid (own_alloc w1 #[.int .i64 14, .int .i64 a, .int .i64 b', .int .i64 vn, .int .i64 vd] 61)
  clear HOA1 hl1 hA s6 HS1
  refine U.wp_region_plan 9 (.two [0, 4, 5] 1 (.one [2, 3, 6, 7] 8 (.one [] 9 (.done []))) 8 (.one [] 1 (.one [2, 3, 6, 7] 9 (.done [])))) (by kernel_rfl) (by kernel_rfl) (fun _ _ d _ _ h => by cases d <;> exact h) ?_
  repeat' (first
   | ((first | refine plan_done (fun K hK => ?_) | refine plan_one (by rfl) (fun K hK => ?_)); (first | (simp only [zq9]; repeat (go_big_quiet_step (fail))) | simp only [pick_nil]); refine wpQuiet_nil (hK _ ?_); clear hK K)
   | (refine plan_two (by rfl) (by rfl) (fun K hK => ?_); (first | (simp only [zq9]; repeat (go_big_quiet_step (fail))) | simp only [pick_nil]); refine wpQuiet_nil (hK _ ?_); clear hK K; refine ⟨?_, ?_⟩)
   | ((with_reducible refine at_list ?_); go_wp2_with (fail); first | refine behind_store (t := 9) (by decide) ?_ | refine behind (by with_reducible repeat (first | exact zq1 _ | assumption | refine zq2 ?_ | refine zq5 ?_ _ | refine zq6 ?_ _ | refine zq7 ?_ | refine zq8 ?_ (by assumption))) ?_))
  all_goals
   go_wp2_with fail
   go_meet
   first
    | exact ⟨_, rfl, own_alloc _ _ _, by simp, by repeat (first | with_reducible (first | exact zq1 _ | assumption | refine zq2 ?_ | refine zq4 ?_ ?_ _ | refine zq5 ?_ _ | refine zq6 ?_ _ | refine zq7 ?_ | refine zq8 ?_ (by assumption)) | (simp only [zq10]; omega) | (simp; done) | (simp; omega))⟩
    | exact ⟨_, rfl, own_set5 (own_alloc _ _ _), by simp, by repeat (first | with_reducible (first | exact zq1 _ | assumption | refine zq2 ?_ | refine zq4 ?_ ?_ _ | refine zq5 ?_ _ | refine zq6 ?_ _ | refine zq7 ?_ | refine zq8 ?_ (by assumption)) | (simp only [zq10]; omega) | (simp; done) | (simp; omega))⟩
 case rest =>
  obtain ⟨C, rfl, hOC, hCz, hl2⟩ := hcut
  obtain ⟨w4, rfl⟩ : ∃ x, x = wc := ⟨_, rfl⟩
  clear y0 y1 y2 y3 y4 hzt hcap s4
  replace k0 := (bcell hl2).1 _ 0 zA |>.trans k0
  replace k1 := (bcell hl2).1 _ 1 zA |>.trans k1
  replace k2 := (bcell hl2).1 _ 2 zA |>.trans k2
  replace k3 := (bcell hl2).1 _ 3 zA |>.trans k3
  replace kf1 := (bcell hl2).2 _ 1 zA |>.trans kf1
  replace kf2 := (bcell hl2).2 _ 2 zA |>.trans kf2
  replace kf3 := (bcell hl2).2 _ 3 zA |>.trans kf3
  replace s6 := (bcell hl2).1 _ 6 hzb1 |>.trans s6
  have hl4 := hl1.trans hl2
  have hl04 := hw0.trans hl4
  have HS4 := Lib.hid (HS1.out.later hl2)
  have HOA := Lib.hid (HOA1.out.later hl2)
  have HOC := Lib.hid hOC
  have hz4 := hl4.size
  have zA4 := Nat.lt_of_lt_of_le zA hl2.size
  have zb4 := Nat.lt_of_lt_of_le hzb1 hl2.size
  obtain ⟨zC, cC, -⟩ := own_get hOC
  have x0 := cC 0
  have x1 := cC 1
  have x2 := cC 2
  simp only [List.getElem?_toArray, List.getElem?_cons_zero, List.getElem?_cons_succ] at x0 x1 x2
  rw [HAW.out] at hz4
  have hCA : A < C := by have := zA; omega
  clear hOC cC hl1 hl2 HS1 HOA1 hl01 zA hzb1 hz1
  replace g0 := (bcell hl4).1 _ _ hvb0 |>.trans g0
  replace hvb0 := Nat.lt_of_lt_of_le hvb0 hl4.size
  by_cases hda : day ≤ a
  ·have HST14 := Lib.hid (step14 (envT fx ch) tod a b' vn vd l pl day n d)
   rw [if_pos hda] at HST14
   go_upto_region 16 with (fail)
   have hOB := B.own_at (HOA.out.later (Later.refl w4)) (k := 1) (by simp) (.int .i64 a)
   have hs6 := (HS4.out.later (Later.refl w4)).set A 1 (fun k hk => by have := HST.out.base k hk; have := HAW.out; omega) (.int .i64 a)
   have hl6 : Later w0 (w4.setCell ⟨A, 1, none⟩ (.int .i64 a)) := (hl04.trans (Later.refl w4)).putCell (by omega) _
   have hl46 : S.LatB (fun k => k = A) w4 (w4.setCell ⟨A, 1, none⟩ (.int .i64 a)) := S.LatB.setCell (S := fun k => k = A) (S.LatB.of (Later.refl w4)) (.inl rfl) _
   obtain ⟨w6, hw6⟩ : ∃ x, w4.setCell ⟨A, 1, none⟩ (.int .i64 a) = x := ⟨_, rfl⟩
   rw [hw6] at hOB hs6 hl6 hl46 ⊢
   obtain ⟨zA6, cA6, -⟩ := own_get hOB
   have k0 := cA6 0
   have k1 := cA6 1
   have k2 := cA6 2
   have k3 := cA6 3
   simp at k0 k1 k2 k3
   have hnA : ¬ vb0 = A := fun e => by have := HBV0.out; have := HAW.out; omega
   replace g0 := (hl46.cell (p := ⟨vb0, _, none⟩) hvb0 hnA).trans g0
   have HS6 := Lib.hid hs6
   clear hw6 hOB cA6 hs6 x0 x1 x2 s6 kf1 kf2 kf3
   have HPUT := Lib.hid (fun W1 (hl : Later w6 W1) => tthen_later (b := b) hl6.size (by have := HLEN.out; omega) HS6.out ⟨l[0], placeN pl l 0, a, n, d⟩ (pl : Int) (K0 : Int) (by rw [hK0]) W1 hl)
   refine V.wp_region_plan 7 (.one [0, 3, 4, 5, 6] 1 (.one [2] 7 (.done []))) (by kernel_rfl) (by kernel_rfl) (fun _ _ d _ _ h => by cases d <;> exact h) ?_
   repeat' (first
    | ((first | refine plan_done (fun K hK => ?_) | refine plan_one (by rfl) (fun K hK => ?_)); (first | (simp only [zq9]; repeat (go_big_quiet_step (fail))) | simp only [pick_nil]); refine wpQuiet_nil (hK _ ?_); clear hK K)
    | ((with_reducible refine at_list ?_); go_wp2_with ((go_at_call 168; go_must (refine (HPUT.out _ (by repeat (first | with_reducible (first | exact zq1 _ | assumption | refine zq2 ?_ | refine zq4 ?_ ?_ _ | refine zq5 ?_ _ | refine zq6 ?_ _ | refine zq7 ?_ | refine zq8 ?_ (by assumption)) | (simp only [zq10]; omega) | (simp; done) | (simp; omega)))).mono ?_; rintro e w9 ⟨rfl, nv9, hs9, hz9, hf9⟩))); first | refine behind_store (t := 7) (by decide) ?_ | refine behind (by with_reducible repeat (first | exact zq1 _ | assumption | refine zq2 ?_ | refine zq5 ?_ _ | refine zq6 ?_ _ | refine zq7 ?_ | refine zq8 ?_ (by assumption))) ?_))
   have hfin : Later w0 w9 := lat_base hz9 (by first | exact hl6.drew | exact hl6) (fun k hk => hk.elim (fun e => e ▸ HS4.out.lob) (fun e => (HS4.out.next.lo k e).1))
   go_wp2_with fail
   go_ret
   exact turn_end (r := (0, [⟨l[0], placeN pl l 0, a, n, d⟩], [], [])) (kp := []) hs9 (by rw [HST14.out, kidH_at hl0]) (by rw [HKH.out, if_neg (show ¬ tod < day by have := HDT.out; omega)]; simp) (by simp) (by simp) (by simp) (by simp) hfin
  ·have HST14 := Lib.hid (step14 (envT fx ch) tod a b' vn vd l pl day n d)
   rw [if_neg hda] at HST14
   go_wp2_with fail
   go_ret
   exact turn_end (r := (0, [], [], [])) (kp := []) HS4.out (by rw [HST14.out]) (by rw [HKH.out, if_neg (show ¬ tod < day by have := HDT.out; omega)]; simp) (by simp) (by simp) (by simp) (by simp) hl04
end Go.Proofs.YtkjabiabeemfhaaGreatDoor
end
