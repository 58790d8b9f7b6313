/- denote: what there is to do with a term's place (printed by gen_one.py) -/
import Derived.Test.YtkjabiabeemfhaaGreatDoorZ21
import Derived.Test.YtkjabiabeemfhaaGreatDoorZ18
set_option linter.all false
set_option linter.all false
section
namespace Go.Proofs.YtkjabiabeemfhaaGreatDoor
open Go.RowKit
set_option maxRecDepth 100000
set_option maxHeartbeats 8000000 in
theorem sone_14 {w0 : World} {ts : List Nd} {T : Tm} {tv : Value} {fx : FxL} {ch : ChL} {p m1 m2 : Nat} (hJ : JobAt w0 ts T tv fx ch p m1 m2) (w : World) (hw0 : Later w0 w) (b : Nat) (tod : Int) (ht0 : -1 ≤ tod) (ht1 : tod ≤ 73048) (rv fv wv : Value) (H : List Hd) (F : List Fl) (W : List Wt)
  (hst : StudyAt w0.heap.size w b tv tod (.pointer (some ⟨p, 0, none⟩)) rv fv wv H F W) (hH : H.length ≤ 1000) (hF : F.length ≤ 1000) (hW : W.length ≤ 100000) (a b' vn vd : Int) (l : List Tm) (pl : Nat) (day n d : Int) (hh : HdOk ts ⟨.node ⟨14, a, b', vn, vd⟩ l, pl, day, n, d⟩) :
  Calls Tryz.prog 93 #[.pointer (some ⟨b, 0, none⟩), .agg #[.int .i64 pl, .int .i64 day, .int .i64 n, .int .i64 d]] w (OneEnd (stepT (envT fx ch) tod ⟨14, a, b', vn, vd⟩ l pl day n d) w0 b tv tod (.pointer (some ⟨p, 0, none⟩)) H F W) := by
 obtain ⟨hT, hso, hmk, hd0, hd1, hva⟩ := hh
 simp only at hT hso hmk hd0 hd1 hva
 have hl : l.length = 1 := by have := hT.root.2.2.2; simpa [manyN] using this
 have hk : pl < ts.length := by have := hT.le; have := (Tm.node ⟨14, a, b', vn, vd⟩ l).size_pos; omega
 have hnd : ts[pl] = ⟨14, a, b', vn, vd⟩ := by have := hT.root.1; rw [List.getElem?_eq_getElem hk] at this; exact Option.some.inj this
 have hfld : fieldsB ⟨14, a, b', vn, vd⟩ = true := by rw [← hnd]; exact hJ.good.fields _ (List.getElem_mem hk)
 have hnok : (⟨14, a, b', vn, vd⟩ : Nd).ok := by rw [← hnd]; exact hJ.ok _ (List.getElem_mem hk)
 obtain ⟨tb, tq, tc, rfl, -, -, -⟩ := hJ.nodes.full hk
 have HJ := Lib.hid hJ
 have HBL := Lib.hid (fun W1 (hl1 : Later w0 W1) => tbelow_any ts hJ.len pl ⟨14, a, b', vn, vd⟩ l _ W1 hT (hJ.sh.later hl1) (hJ.nodes.later hl1))
 have HN0 := Lib.hid (fun W1 (hl1 : Later w0 W1) => (hJ.nodes.later hl1).full hk)
 rw [hnd] at HN0
 rw [hl] at HBL
 have HST := Lib.hid hst
 have HT := Lib.hid hT
 have HSO := Lib.hid hso
 have HVA := Lib.hid hva
 have HLL := Lib.hid hl
 have HFLD := Lib.hid hfld
 have HNOK := Lib.hid hnok
 have HLEN := Lib.hid (show H.length ≤ 1000 ∧ F.length ≤ 1000 ∧ W.length ≤ 100000 from ⟨hH, hF, hW⟩)
 have HPL := Lib.hid (placesI_length pl l 1)
 have hzb : b < w.heap.size := hst.own.1.1
 have hlo := hw0.size
 have hkI : (pl : Int) < (ts.length : Int) := by omega
 clear hst hT hso hmk hva hl hnd hJ hfld hnok hH hF hW
 obtain ⟨PL, hPL⟩ : ∃ P, placesI pl l 1 = P := ⟨_, rfl⟩
 rw [hPL] at HBL HPL
 have HPLE := Lib.hid hPL
 have HDD := Lib.hid (show (0 ≤ day ∧ day ≤ 73048) ∧ (-1 ≤ tod ∧ tod ≤ 73048) from ⟨⟨hd0, hd1⟩, ht0, ht1⟩)
 clear hPL hd0 hd1 ht0 ht1
 generalize ts.length = L at *
 have HALL := Lib.hid (And.intro HJ.out (And.intro HT.out (And.intro HSO.out (And.intro HVA.out (And.intro HLL.out (And.intro HFLD.out (And.intro HNOK.out (And.intro HLEN.out (And.intro HPLE.out HDD.out)))))))))
 clear HJ HT HSO HVA HLL HFLD HNOK HLEN HPLE HDD
 go_enter Tryz.func93, Tryz.ntmps93
 go_upto_region 1 with (fail)
 refine wp_opaque (fun w1 hb1 => ?_)
 have hO1 := Own.two hb1
 have hl1 : Later w w1 := hb1.un1.un1
 clear hb1
 obtain ⟨A, hA⟩ : ∃ A, w.heap.size = A := ⟨_, rfl⟩
 rw [hA] at hO1 ⊢
 have HO1 := Lib.hid hO1
 obtain ⟨⟨zA, cA, fA⟩, ⟨zB, cB, fB⟩, -⟩ := hO1
 have e0 : w1.cell? ⟨A, 0, none⟩ = some (.pointer (some ⟨b, 0, none⟩)) := cA 0
 have k0 : w1.cell? ⟨A + 1, 0, none⟩ = some (.int .i64 pl) := cB 0
 have s0 : w1.cell? ⟨b, 0, none⟩ = some (.slice (some ⟨tb, tq, none⟩) L tc) := (HST.out.later hl1).own.1.2.1 0
 obtain ⟨tb', tq', tc', htv, hz1, hcap, g0, g1, g2, g3, g4⟩ := HN0.out w1 (hw0.trans hl1)
 cases htv
 have hzb1 : b < w1.heap.size := Nat.lt_of_lt_of_le hzb hl1.size
 clear cA fA cB fB HN0
 go_cut [5] (fun s5 wx => ∃ C, s5 = .pointer (some ⟨C, 0, none⟩) ∧ Own wx [(C, #[.int .i64 14, .int .i64 a, .int .i64 b', .int .i64 vn, .int .i64 vd])] ∧ w1.heap.size ≤ C ∧ Later w1 wx)
 case first =>
  have hO5 := Lib.hid (own_alloc w1 #[.int .i64 14, .int .i64 a, .int .i64 b', .int .i64 vn, .int .i64 vd] 61)
  clear HO1 HBL hl1 hA
  refine U.wp_region_plan 9 (.two [0, 4, 5] 1 (.one [2, 3, 6, 7] 8 (.one [] 9 (.done []))) 8 (.one [] 1 (.one [2, 3, 6, 7] 9 (.done [])))) (by kernel_rfl) (by kernel_rfl) (fun _ _ d _ _ h => by cases d <;> exact h) ?_
  repeat' (first
   | ((first | refine plan_done (fun K hK => ?_) | refine plan_one (by rfl) (fun K hK => ?_)); (first | (simp only [zq9]; repeat (go_big_quiet_step (fail))) | simp only [pick_nil]); refine wpQuiet_nil (hK _ ?_); clear hK K)
   | (refine plan_two (by rfl) (by rfl) (fun K hK => ?_); (first | (simp only [zq9]; repeat (go_big_quiet_step (fail))) | simp only [pick_nil]); refine wpQuiet_nil (hK _ ?_); clear hK K; refine ⟨?_, ?_⟩)
   | ((with_reducible refine at_list ?_); go_wp2_with (fail); first | refine behind_store (t := 9) (by decide) ?_ | refine behind (by with_reducible repeat (first | exact zq1 _ | assumption | refine zq2 ?_ | refine zq5 ?_ _ | refine zq6 ?_ _ | refine zq7 ?_ | refine zq8 ?_ (by assumption))) ?_))
  all_goals
   go_wp2_with fail
   go_meet
   first
    | exact ⟨_, rfl, own_alloc _ _ _, by simp, by repeat (first | with_reducible (first | exact zq1 _ | assumption | refine zq2 ?_ | refine zq4 ?_ ?_ _ | refine zq5 ?_ _ | refine zq6 ?_ _ | refine zq7 ?_ | refine zq8 ?_ (by assumption)) | (simp only [zq10]; omega) | (simp; done) | (simp; omega))⟩
    | exact ⟨_, rfl, own_set5 (own_alloc _ _ _), by simp, by repeat (first | with_reducible (first | exact zq1 _ | assumption | refine zq2 ?_ | refine zq4 ?_ ?_ _ | refine zq5 ?_ _ | refine zq6 ?_ _ | refine zq7 ?_ | refine zq8 ?_ (by assumption)) | (simp only [zq10]; omega) | (simp; done) | (simp; omega))⟩
 case rest =>
  obtain ⟨C, rfl, hOC, hCz, hl2⟩ := hcut
  obtain ⟨w2, rfl⟩ : ∃ x, x = wc := ⟨_, rfl⟩
  replace e0 := (bcell hl2).1 _ 0 zA |>.trans e0
  replace k0 := (bcell hl2).1 _ 0 zB |>.trans k0
  replace s0 := (bcell hl2).1 _ 0 (Nat.lt_of_lt_of_le hzb (hA ▸ hl1.size)) |>.trans s0
  have HOC := Lib.hid hOC
  have hl02 := hw0.trans (hl1.trans hl2)
  clear hOC g0 g1 g2 g3 g4 hz1 hcap
  have hz2 := hl2.size
  have hzb2 : b < w2.heap.size := Nat.lt_of_lt_of_le hzb1 hz2
  have hzA2 : A < w2.heap.size := Nat.lt_of_lt_of_le zA hz2
  have hzB2 : A + 1 < w2.heap.size := Nat.lt_of_lt_of_le zB hz2
  have hzC := HOC.out.1.1
  go_upto_region 2 with (fail)
  go_cut [6] (fun s6 wx => ∃ D vb, s6 = .pointer (some ⟨D, 0, none⟩) ∧ Hid (Own wx [(D, #[vb])] ∧ wx.ownsRow w2.heap.size 3 1 vb 1 (PL.map (Value.int .i64)) ∧ vb.ownBlock ≠ some D ∧ w2.heap.size ≤ D) ∧ Later w2 wx)
  case first =>
   clear HO1 HOC
   refine U.wp_region_plan 11 (.two [0, 4, 5] 1 (.two [2, 3] 6 (.one [7, 8, 9] 10 (.one [] 11 (.done [12]))) 10 (.one [] 6 (.one [7, 8, 9] 11 (.done [12])))) 10 (.one [] 1 (.one [2, 3] 6 (.one [7, 8, 9] 11 (.done [12]))))) (by kernel_rfl) (by kernel_rfl) (fun _ _ d _ _ h => by cases d <;> exact h) ?_
   repeat' (first
    | ((first | refine plan_done (fun K hK => ?_) | refine plan_one (by rfl) (fun K hK => ?_)); (first | (simp only [zq9]; repeat (go_big_quiet_step (fail))) | simp only [pick_nil]); refine wpQuiet_nil (hK _ ?_); clear hK K)
    | (refine plan_two (by rfl) (by rfl) (fun K hK => ?_); (first | (simp only [zq9]; repeat (go_big_quiet_step (fail))) | simp only [pick_nil]); refine wpQuiet_nil (hK _ ?_); clear hK K; refine ⟨?_, ?_⟩)
    | ((with_reducible refine at_list ?_); go_wp2_with ((go_at_call 125; go_must (refine (HBL.out _ (hl02.trans (by repeat (first | with_reducible (first | exact zq1 _ | assumption | refine zq2 ?_ | refine zq4 ?_ ?_ _ | refine zq5 ?_ _ | refine zq6 ?_ _ | refine zq7 ?_ | refine zq8 ?_ (by assumption)) | (simp only [zq10]; omega) | (simp; done) | (simp; omega))))).mono ?_; rintro e ua ⟨vb, rfl, hrow, hua⟩; (first | (with_reducible have hx5 := Own.one hua) | (with_reducible have hx5 := own_one_d hua) | skip); (first | have hy5 := own_get hx5 | skip); (first | have cx5 := hy5.2.1 | skip); (first | have fx5 := hy5.2.2 | skip); have hzhua := Later.size hua; (try simp only [World.size_alloc, World.size_drew] at hzhua hrow); obtain ⟨pb9, cb9, hvb9⟩ := B.owns_form hrow; subst hvb9))); first | refine behind_store (t := 11) (by decide) ?_ | refine behind (by with_reducible repeat (first | exact zq1 _ | assumption | refine zq2 ?_ | refine zq5 ?_ _ | refine zq6 ?_ _ | refine zq7 ?_ | refine zq8 ?_ (by assumption))) ?_))
   all_goals
    go_wp2_with fail
    go_meet
    first
     | exact ⟨_, _, rfl, Lib.hid ⟨own_alloc _ _ _, B.owns_later (owns_mono (by omega) hrow) ((Later.refl _).alloc _), fun e => by have := hrow.lt _ e; omega, by omega⟩, by repeat (first | with_reducible (first | exact zq1 _ | assumption | refine zq2 ?_ | refine zq4 ?_ ?_ _ | refine zq5 ?_ _ | refine zq6 ?_ _ | refine zq7 ?_ | refine zq8 ?_ (by assumption)) | (simp only [zq10]; omega) | (simp; done) | (simp; omega))⟩
     | exact ⟨_, _, rfl, Lib.hid ⟨B.own_at hx5 (by simp) _, B.owns_set (owns_mono (by omega) hrow) (fun e => by have := hrow.lt _ e; omega) _, fun e => by have := hrow.lt _ e; omega, by omega⟩, by repeat (first | with_reducible (first | exact zq1 _ | assumption | refine zq2 ?_ | refine zq4 ?_ ?_ _ | refine zq5 ?_ _ | refine zq6 ?_ _ | refine zq7 ?_ | refine zq8 ?_ (by assumption)) | (simp only [zq10]; omega) | (simp; done) | (simp; omega))⟩
  case rest =>
   obtain ⟨D, vb, rfl, HD, hl3⟩ := hcut
   obtain ⟨w3, rfl⟩ : ∃ x, x = wc := ⟨_, rfl⟩
   replace e0 := (bcell hl3).1 _ 0 (Nat.lt_of_lt_of_le zA hz2) |>.trans e0
   replace k0 := (bcell hl3).1 _ 0 (Nat.lt_of_lt_of_le zB hz2) |>.trans k0
   obtain ⟨⟨zD, cD, fD⟩, -⟩ := id HD.out.1
   obtain ⟨vp, vc, rfl⟩ := B.owns_form HD.out.2.1
   have r0 : w3.cell? ⟨D, 0, none⟩ = some (.slice vp 1 vc) := cD 0
   have rf : w3.frozen? ⟨D, 0, none⟩ = false := fD 0 (by simp)
   have HOX : Hid (Own w3 [(A, #[.pointer (some ⟨b, 0, none⟩)]), (A + 1, #[.int .i64 pl, .int .i64 day, .int .i64 n, .int .i64 d]), (C, #[.int .i64 14, .int .i64 a, .int .i64 b', .int .i64 vn, .int .i64 vd])]) := Lib.hid ⟨((HO1.out.later hl2).later hl3).1, ((HO1.out.later hl2).later hl3).2.1, (HOC.out.later hl3).1, trivial⟩
   have hl03 := hl1.trans (hl2.trans hl3)
   have hz3 := hl3.size
   have HAB : Hid (A + 1 < w1.heap.size) := Lib.hid zB
   clear cD fD HO1 HOC HBL s0 e0 k0 zA zB
   go_upto_region 4 with (at_builtin; go_must (refine B.wpList_push sliceInt' HD.out.2.1 hz3 rfl _ _ rfl rfl 1 _ rfl rfl rfl (by simp [Value.oneCell']) (by decide) (by decide) ?_; intro v9 w9 h1' h2 h3; have h1 : w9.ownsRow w2.heap.size 3 1 v9 2 (PL.map (Value.int .i64) ++ [.int .i64 0]) := h1'; clear h1'; obtain ⟨p9, c9, rfl⟩ := B.owns_form h1; have hOD := B.own_grown (HD.out.1.later ((Later.refl _).alloc _)) h2 (fun z hz => by simp only [List.mem_cons, List.not_mem_nil, or_false] at hz; subst hz; exact HD.out.2.2.1); have zD9 : D < w9.heap.size := hOD.1.1; have cD9 : w9.cell? ⟨D, 0, none⟩ = some (.slice vp 1 vc) := hOD.1.2.1 0; have fD9 : w9.frozen? ⟨D, 0, none⟩ = false := hOD.1.2.2 0 (by simp); have HOD := Lib.hid hOD; clear hOD))
   refine wp_opaque (fun w4 hb4 => ?_)
   have hne9 : ¬ (Value.slice p9 2 c9).ownBlock = some D := fun e => h3.elim (fun f => HD.out.2.2.1 (f ▸ e)) (fun f => by have := f _ e; omega)
   have hge9 : ∀ k, (Value.slice p9 2 c9).ownBlock = some k → w2.heap.size ≤ k := fun k hk => h3.elim (fun f => (HD.out.2.1.lt k (f ▸ hk)).1) (fun f => Nat.le_trans hz3 (f k hk))
   have hrow9 : ∀ z ∈ [(A, (#[.pointer (some ⟨b, 0, none⟩)] : Array Value)), (A + 1, #[.int .i64 pl, .int .i64 day, .int .i64 n, .int .i64 d]), (C, #[.int .i64 14, .int .i64 a, .int .i64 b', .int .i64 vn, .int .i64 vd])], z.1 < w2.heap.size := fun z hz => by
    have := HAB.out
    simp only [List.mem_cons, List.not_mem_nil, or_false] at hz
    rcases hz with rfl | rfl | rfl
    ·simp only; omega
    ·simp only; omega
    ·exact hzC
   have hOX9 := B.own_far (B.own_grown (HOX.out.later ((Later.refl _).alloc _)) h2 (fun z hz e => by have := (HD.out.2.1.lt _ e).1; have := hrow9 z hz; omega)) (b := D) (k := 0) (fun z hz e => by have := HD.out.2.2.2; have := hrow9 z hz; omega) (.slice p9 2 c9)
   have hOD9 := B.own_at HOD.out (k := 0) (by simp) (.slice p9 2 c9)
   have HI := Lib.hid ((B.owns_ints (zs := PL ++ [0]) (B.owns_set (k := D) (i := 0) (by rw [List.map_append]; exact h1) hne9 (.slice p9 2 c9))).1.later hb4)
   have HOX4 := Lib.hid (hOX9.later hb4)
   have HOD4 := Lib.hid (hOD9.later hb4)
   have hl4 : Later w w4 := Later.trans (Later.putCell (B.grown_lat (hl03.alloc _) h2 (fun k hk => by have := (HD.out.2.1.lt k hk).1; have := hl1.size; omega)) (by have := HD.out.2.2.2; have := hl1.size; omega) _) hb4
   have HS4 := Lib.hid (HST.out.later hl4)
   have hl04 := hw0.trans hl4
   have HZ : Hid (A ≤ C ∧ A ≤ D ∧ (∀ k, (Value.slice p9 2 c9).ownBlock = some k → A ≤ k)) := Lib.hid ⟨by have := hl1.size; omega, by have := HD.out.2.2.2; have := hl1.size; omega, fun k hk => by have := hge9 k hk; have := hl1.size; omega⟩
   have HR9 := Lib.hid hge9
   obtain ⟨⟨zA, cA, fA⟩, ⟨zB, cB, fB⟩, ⟨zC, cC, fC⟩, -⟩ := id HOX4.out
   obtain ⟨⟨zD4, cD4, fD4⟩, -⟩ := id HOD4.out
   have a0 : w4.cell? ⟨A, 0, none⟩ = some (.pointer (some ⟨b, 0, none⟩)) := cA 0
   have k0 : w4.cell? ⟨A + 1, 0, none⟩ = some (.int .i64 pl) := cB 0
   have k1 : w4.cell? ⟨A + 1, 1, none⟩ = some (.int .i64 day) := cB 1
   have k2 : w4.cell? ⟨A + 1, 2, none⟩ = some (.int .i64 n) := cB 2
   have k3 : w4.cell? ⟨A + 1, 3, none⟩ = some (.int .i64 d) := cB 3
   have x0 : w4.cell? ⟨C, 0, none⟩ = some (.int .i64 14) := cC 0
   have x1 : w4.cell? ⟨C, 1, none⟩ = some (.int .i64 a) := cC 1
   have x2 : w4.cell? ⟨C, 2, none⟩ = some (.int .i64 b') := cC 2
   have d0 : w4.cell? ⟨D, 0, none⟩ = some (.slice p9 2 c9) := cD4 0
   clear hCz h1 h2 h3 hb4 hne9 hge9 hrow9 hOX9 hOD9 HOX HOD HD cA fA cB fB cC fC cD4 fD4 zD9 cD9 fD9 zD r0 rf hl1 hl2 hl3 hl02 hl03 hz2 hz3 hzC HAB HR9 hzb1 hzb2 hzA2 hzB2
   have hbA : b < A := by omega
   have HRV := Lib.hid (show (∀ k, A ≤ k → ¬ rv.ownBlock = some k) ∧ (∀ k, A ≤ k → ¬ fv.ownBlock = some k) ∧ (∀ k, A ≤ k → ¬ wv.ownBlock = some k) from ⟨fun k hk e => by have := (HST.out.rest.lo k e).2; omega, fun k hk e => by have := (HST.out.flows.lo k e).2; omega, fun k hk e => by have := (HST.out.waits.lo k e).2; omega⟩)
   have HBB := Lib.hid (And.intro HI.out (And.intro HS4.out (And.intro HZ.out (And.intro HRV.out (And.intro HST.out (And.intro HPL.out (And.intro hzb (And.intro hlo (And.intro hk (And.intro hkI (And.intro hA (And.intro hbA (And.intro zA (And.intro zB (And.intro zC (And.intro zD4 (And.intro a0 (And.intro k0 (And.intro k1 (And.intro k2 (And.intro k3 (And.intro x1 (And.intro x2 d0)))))))))))))))))))))))
   clear HI HS4 HZ HRV HST HPL hzb hlo hk hkI hA hbA zA zB zD4 a0 k0 k1 k2 k3 x1 x2 d0 HOX4 HOD4
   go_upto_region 25 with (fail)
   obtain ⟨hJ', hT', hSO', hVA', hLL', hFLD', hNOK', hLEN', hPLE', ⟨hd0, hd1⟩, ht0, ht1⟩ := HALL.out
   obtain ⟨hI', hS4', hZ', hRV', hST', hPL', hzb, hlo, hk, hkI, hA, hbA, zA, zB, zC', zD4, a0, k0, k1, k2, k3, x1, x2, d0⟩ := HBB.out
   have HJ := Lib.hid hJ'
   have HT := Lib.hid hT'
   have HSO := Lib.hid hSO'
   have HVA := Lib.hid hVA'
   have HLL := Lib.hid hLL'
   have HNOK := Lib.hid hNOK'
   have HLEN := Lib.hid hLEN'
   have HPLE := Lib.hid hPLE'
   have HI := Lib.hid hI'
   have HS4 := Lib.hid hS4'
   have HZ := Lib.hid hZ'
   have HRV := Lib.hid hRV'
   have HST := Lib.hid hST'
   have HPL := Lib.hid hPL'
   clear HALL HBB hJ' hT' hSO' hVA' hLL' hFLD' hNOK' hLEN' hPLE' hI' hS4' hZ' hRV' hST' hPL' zC'
   have hl0 : 0 < l.length := by rw [HLL.out]; decide
   have HK0 : Hid ((PL ++ [0])[0]'(by rw [List.length_append, HPL.out]; decide) = (placeN pl l 0 : Int)) := Lib.hid (by have := places_at (pl := pl) (l := l) (m := 1) (i := 0) (by decide); rw [HPLE.out] at this; exact this.2)
   obtain ⟨K0, hK0⟩ : ∃ K : Nat, placeN pl l 0 = K := ⟨_, rfl⟩
   rw [hK0] at HK0
   obtain ⟨vb, vo, vc', hv, hvb, g0⟩ := HI.out.full (j := 0) (by rw [List.length_append, HPL.out]; decide)
   rw [HK0.out, Nat.add_zero] at g0
   rw [List.length_append, HPL.out] at hv
   cases hv
   have HPUT := Lib.hid (fun W1 (hl : Later w4 W1) => sput_later (b := b) hl04.size (by have := HLEN.out; omega) HS4.out ⟨l[0], placeN pl l 0, a, n, d⟩ (K0 : Int) (by rw [hK0]) W1 hl)
   by_cases hge : day ≤ a
   ·have HGE := Lib.hid hge
    have hgt : ¬ (a < day) := by omega
    go_upto_region 26 with (fail)
    refine V.wp_region_plan 8 (.one [0, 1, 2, 3, 4, 5, 6, 7] 8 (.done [])) (by kernel_rfl) (by kernel_rfl) (fun _ _ d _ _ h => by cases d <;> exact h) ?_
    repeat' (first
     | ((first | refine plan_done (fun K hK => ?_) | refine plan_one (by rfl) (fun K hK => ?_)); (first | (simp only [zq9]; repeat (go_big_quiet_step (fail))) | simp only [pick_nil]); refine wpQuiet_nil (hK _ ?_); clear hK K)
     | ((with_reducible refine at_list ?_); go_wp2_with ((go_at_call 92; go_must (refine (HPUT.out _ (by repeat (first | with_reducible (first | exact zq1 _ | assumption | refine zq2 ?_ | refine zq4 ?_ ?_ _ | refine zq5 ?_ _ | refine zq6 ?_ _ | refine zq7 ?_ | refine zq8 ?_ (by assumption)) | (simp only [zq10]; omega) | (simp; done) | (simp; omega)))).mono ?_; rintro e w9 ⟨rfl, rv9, hs9, hz9, hf9⟩))); first | refine behind_store (t := 8) (by decide) ?_ | refine behind (by with_reducible repeat (first | exact zq1 _ | assumption | refine zq2 ?_ | refine zq5 ?_ _ | refine zq6 ?_ _ | refine zq7 ?_ | refine zq8 ?_ (by assumption))) ?_))
    have hfin : Later w0 w9 := lat_base hz9 (by first | exact (hl04).drew | exact hl04) (fun k hk => hk.elim (fun e => e ▸ HS4.out.lob) (fun e => (HS4.out.rest.lo k e).1))
    go_wp2_with fail
    go_ret
    exact one_end (r := (0, [⟨l[0], placeN pl l 0, a, n, d⟩], [], [])) (hs9) (by rw [step14, if_pos HGE.out, kidH_at hl0]) (by simp) (by simp) (by simp) hfin
   ·have hgt : a < day := by omega
    have HGE := Lib.hid hge
    go_wp2_with fail
    go_ret
    exact one_end (r := (0, [], [], [])) (HS4.out) (by rw [step14, if_neg (by have := HGE.out; omega)]) (by simp) (by simp) (by simp) hl04
set_option maxHeartbeats 8000000 in
theorem sone_16 {w0 : World} {ts : List Nd} {T : Tm} {tv : Value} {fx : FxL} {ch : ChL} {p m1 m2 : Nat} (hJ : JobAt w0 ts T tv fx ch p m1 m2) (w : World) (hw0 : Later w0 w) (b : Nat) (tod : Int) (ht0 : -1 ≤ tod) (ht1 : tod ≤ 73048) (rv fv wv : Value) (H : List Hd) (F : List Fl) (W : List Wt)
  (hst : StudyAt w0.heap.size w b tv tod (.pointer (some ⟨p, 0, none⟩)) rv fv wv H F W) (hH : H.length ≤ 1000) (hF : F.length ≤ 1000) (hW : W.length ≤ 100000) (a b' vn vd : Int) (l : List Tm) (pl : Nat) (day n d : Int) (hh : HdOk ts ⟨.node ⟨16, a, b', vn, vd⟩ l, pl, day, n, d⟩) :
  Calls Tryz.prog 93 #[.pointer (some ⟨b, 0, none⟩), .agg #[.int .i64 pl, .int .i64 day, .int .i64 n, .int .i64 d]] w (OneEnd (stepT (envT fx ch) tod ⟨16, a, b', vn, vd⟩ l pl day n d) w0 b tv tod (.pointer (some ⟨p, 0, none⟩)) H F W) := by
 obtain ⟨hT, hso, hmk, hd0, hd1, hva⟩ := hh
 simp only at hT hso hmk hd0 hd1 hva
 have hl : l.length = 2 := by have := hT.root.2.2.2; simpa [manyN] using this
 have hk : pl < ts.length := by have := hT.le; have := (Tm.node ⟨16, a, b', vn, vd⟩ l).size_pos; omega
 have hnd : ts[pl] = ⟨16, a, b', vn, vd⟩ := by have := hT.root.1; rw [List.getElem?_eq_getElem hk] at this; exact Option.some.inj this
 have hfld : fieldsB ⟨16, a, b', vn, vd⟩ = true := by rw [← hnd]; exact hJ.good.fields _ (List.getElem_mem hk)
 have hnok : (⟨16, a, b', vn, vd⟩ : Nd).ok := by rw [← hnd]; exact hJ.ok _ (List.getElem_mem hk)
 obtain ⟨tb, tq, tc, rfl, -, -, -⟩ := hJ.nodes.full hk
 have HJ := Lib.hid hJ
 have HBL := Lib.hid (fun W1 (hl1 : Later w0 W1) => tbelow_any ts hJ.len pl ⟨16, a, b', vn, vd⟩ l _ W1 hT (hJ.sh.later hl1) (hJ.nodes.later hl1))
 have HN0 := Lib.hid (fun W1 (hl1 : Later w0 W1) => (hJ.nodes.later hl1).full hk)
 rw [hnd] at HN0
 rw [hl] at HBL
 have HST := Lib.hid hst
 have HT := Lib.hid hT
 have HSO := Lib.hid hso
 have HVA := Lib.hid hva
 have HLL := Lib.hid hl
 have HFLD := Lib.hid hfld
 have HNOK := Lib.hid hnok
 have HLEN := Lib.hid (show H.length ≤ 1000 ∧ F.length ≤ 1000 ∧ W.length ≤ 100000 from ⟨hH, hF, hW⟩)
 have HPL := Lib.hid (placesI_length pl l 2)
 have hzb : b < w.heap.size := hst.own.1.1
 have hlo := hw0.size
 have hkI : (pl : Int) < (ts.length : Int) := by omega
 clear hst hT hso hmk hva hl hnd hJ hfld hnok hH hF hW
 obtain ⟨PL, hPL⟩ : ∃ P, placesI pl l 2 = P := ⟨_, rfl⟩
 rw [hPL] at HBL HPL
 have HPLE := Lib.hid hPL
 have HDD := Lib.hid (show (0 ≤ day ∧ day ≤ 73048) ∧ (-1 ≤ tod ∧ tod ≤ 73048) from ⟨⟨hd0, hd1⟩, ht0, ht1⟩)
 clear hPL hd0 hd1 ht0 ht1
 generalize ts.length = L at *
 have HALL := Lib.hid (And.intro HJ.out (And.intro HT.out (And.intro HSO.out (And.intro HVA.out (And.intro HLL.out (And.intro HFLD.out (And.intro HNOK.out (And.intro HLEN.out (And.intro HPLE.out HDD.out)))))))))
 clear HJ HT HSO HVA HLL HFLD HNOK HLEN HPLE HDD
 go_enter Tryz.func93, Tryz.ntmps93
 go_upto_region 1 with (fail)
 refine wp_opaque (fun w1 hb1 => ?_)
 have hO1 := Own.two hb1
 have hl1 : Later w w1 := hb1.un1.un1
 clear hb1
 obtain ⟨A, hA⟩ : ∃ A, w.heap.size = A := ⟨_, rfl⟩
 rw [hA] at hO1 ⊢
 have HO1 := Lib.hid hO1
 obtain ⟨⟨zA, cA, fA⟩, ⟨zB, cB, fB⟩, -⟩ := hO1
 have e0 : w1.cell? ⟨A, 0, none⟩ = some (.pointer (some ⟨b, 0, none⟩)) := cA 0
 have k0 : w1.cell? ⟨A + 1, 0, none⟩ = some (.int .i64 pl) := cB 0
 have s0 : w1.cell? ⟨b, 0, none⟩ = some (.slice (some ⟨tb, tq, none⟩) L tc) := (HST.out.later hl1).own.1.2.1 0
 obtain ⟨tb', tq', tc', htv, hz1, hcap, g0, g1, g2, g3, g4⟩ := HN0.out w1 (hw0.trans hl1)
 cases htv
 have hzb1 : b < w1.heap.size := Nat.lt_of_lt_of_le hzb hl1.size
 clear cA fA cB fB HN0
 go_cut [5] (fun s5 wx => ∃ C, s5 = .pointer (some ⟨C, 0, none⟩) ∧ Own wx [(C, #[.int .i64 16, .int .i64 a, .int .i64 b', .int .i64 vn, .int .i64 vd])] ∧ w1.heap.size ≤ C ∧ Later w1 wx)
 case first =>
  have hO5 := Lib.hid (own_alloc w1 #[.int .i64 16, .int .i64 a, .int .i64 b', .int .i64 vn, .int .i64 vd] 61)
  clear HO1 HBL hl1 hA
  refine U.wp_region_plan 9 (.two [0, 4, 5] 1 (.one [2, 3, 6, 7] 8 (.one [] 9 (.done []))) 8 (.one [] 1 (.one [2, 3, 6, 7] 9 (.done [])))) (by kernel_rfl) (by kernel_rfl) (fun _ _ d _ _ h => by cases d <;> exact h) ?_
  repeat' (first
   | ((first | refine plan_done (fun K hK => ?_) | refine plan_one (by rfl) (fun K hK => ?_)); (first | (simp only [zq9]; repeat (go_big_quiet_step (fail))) | simp only [pick_nil]); refine wpQuiet_nil (hK _ ?_); clear hK K)
   | (refine plan_two (by rfl) (by rfl) (fun K hK => ?_); (first | (simp only [zq9]; repeat (go_big_quiet_step (fail))) | simp only [pick_nil]); refine wpQuiet_nil (hK _ ?_); clear hK K; refine ⟨?_, ?_⟩)
   | ((with_reducible refine at_list ?_); go_wp2_with (fail); first | refine behind_store (t := 9) (by decide) ?_ | refine behind (by with_reducible repeat (first | exact zq1 _ | assumption | refine zq2 ?_ | refine zq5 ?_ _ | refine zq6 ?_ _ | refine zq7 ?_ | refine zq8 ?_ (by assumption))) ?_))
  all_goals
   go_wp2_with fail
   go_meet
   first
    | exact ⟨_, rfl, own_alloc _ _ _, by simp, by repeat (first | with_reducible (first | exact zq1 _ | assumption | refine zq2 ?_ | refine zq4 ?_ ?_ _ | refine zq5 ?_ _ | refine zq6 ?_ _ | refine zq7 ?_ | refine zq8 ?_ (by assumption)) | (simp only [zq10]; omega) | (simp; done) | (simp; omega))⟩
    | exact ⟨_, rfl, own_set5 (own_alloc _ _ _), by simp, by repeat (first | with_reducible (first | exact zq1 _ | assumption | refine zq2 ?_ | refine zq4 ?_ ?_ _ | refine zq5 ?_ _ | refine zq6 ?_ _ | refine zq7 ?_ | refine zq8 ?_ (by assumption)) | (simp only [zq10]; omega) | (simp; done) | (simp; omega))⟩
 case rest =>
  obtain ⟨C, rfl, hOC, hCz, hl2⟩ := hcut
  obtain ⟨w2, rfl⟩ : ∃ x, x = wc := ⟨_, rfl⟩
  replace e0 := (bcell hl2).1 _ 0 zA |>.trans e0
  replace k0 := (bcell hl2).1 _ 0 zB |>.trans k0
  replace s0 := (bcell hl2).1 _ 0 (Nat.lt_of_lt_of_le hzb (hA ▸ hl1.size)) |>.trans s0
  have HOC := Lib.hid hOC
  have hl02 := hw0.trans (hl1.trans hl2)
  clear hOC g0 g1 g2 g3 g4 hz1 hcap
  have hz2 := hl2.size
  have hzb2 : b < w2.heap.size := Nat.lt_of_lt_of_le hzb1 hz2
  have hzA2 : A < w2.heap.size := Nat.lt_of_lt_of_le zA hz2
  have hzB2 : A + 1 < w2.heap.size := Nat.lt_of_lt_of_le zB hz2
  have hzC := HOC.out.1.1
  go_upto_region 2 with (fail)
  go_cut [6] (fun s6 wx => ∃ D vb, s6 = .pointer (some ⟨D, 0, none⟩) ∧ Hid (Own wx [(D, #[vb])] ∧ wx.ownsRow w2.heap.size 3 1 vb 2 (PL.map (Value.int .i64)) ∧ vb.ownBlock ≠ some D ∧ w2.heap.size ≤ D) ∧ Later w2 wx)
  case first =>
   clear HO1 HOC
   refine U.wp_region_plan 11 (.two [0, 4, 5] 1 (.two [2, 3] 6 (.one [7, 8, 9] 10 (.one [] 11 (.done [12]))) 10 (.one [] 6 (.one [7, 8, 9] 11 (.done [12])))) 10 (.one [] 1 (.one [2, 3] 6 (.one [7, 8, 9] 11 (.done [12]))))) (by kernel_rfl) (by kernel_rfl) (fun _ _ d _ _ h => by cases d <;> exact h) ?_
   repeat' (first
    | ((first | refine plan_done (fun K hK => ?_) | refine plan_one (by rfl) (fun K hK => ?_)); (first | (simp only [zq9]; repeat (go_big_quiet_step (fail))) | simp only [pick_nil]); refine wpQuiet_nil (hK _ ?_); clear hK K)
    | (refine plan_two (by rfl) (by rfl) (fun K hK => ?_); (first | (simp only [zq9]; repeat (go_big_quiet_step (fail))) | simp only [pick_nil]); refine wpQuiet_nil (hK _ ?_); clear hK K; refine ⟨?_, ?_⟩)
    | ((with_reducible refine at_list ?_); go_wp2_with ((go_at_call 125; go_must (refine (HBL.out _ (hl02.trans (by repeat (first | with_reducible (first | exact zq1 _ | assumption | refine zq2 ?_ | refine zq4 ?_ ?_ _ | refine zq5 ?_ _ | refine zq6 ?_ _ | refine zq7 ?_ | refine zq8 ?_ (by assumption)) | (simp only [zq10]; omega) | (simp; done) | (simp; omega))))).mono ?_; rintro e ua ⟨vb, rfl, hrow, hua⟩; (first | (with_reducible have hx5 := Own.one hua) | (with_reducible have hx5 := own_one_d hua) | skip); (first | have hy5 := own_get hx5 | skip); (first | have cx5 := hy5.2.1 | skip); (first | have fx5 := hy5.2.2 | skip); have hzhua := Later.size hua; (try simp only [World.size_alloc, World.size_drew] at hzhua hrow); obtain ⟨pb9, cb9, hvb9⟩ := B.owns_form hrow; subst hvb9))); first | refine behind_store (t := 11) (by decide) ?_ | refine behind (by with_reducible repeat (first | exact zq1 _ | assumption | refine zq2 ?_ | refine zq5 ?_ _ | refine zq6 ?_ _ | refine zq7 ?_ | refine zq8 ?_ (by assumption))) ?_))
   all_goals
    go_wp2_with fail
    go_meet
    first
     | exact ⟨_, _, rfl, Lib.hid ⟨own_alloc _ _ _, B.owns_later (owns_mono (by omega) hrow) ((Later.refl _).alloc _), fun e => by have := hrow.lt _ e; omega, by omega⟩, by repeat (first | with_reducible (first | exact zq1 _ | assumption | refine zq2 ?_ | refine zq4 ?_ ?_ _ | refine zq5 ?_ _ | refine zq6 ?_ _ | refine zq7 ?_ | refine zq8 ?_ (by assumption)) | (simp only [zq10]; omega) | (simp; done) | (simp; omega))⟩
     | exact ⟨_, _, rfl, Lib.hid ⟨B.own_at hx5 (by simp) _, B.owns_set (owns_mono (by omega) hrow) (fun e => by have := hrow.lt _ e; omega) _, fun e => by have := hrow.lt _ e; omega, by omega⟩, by repeat (first | with_reducible (first | exact zq1 _ | assumption | refine zq2 ?_ | refine zq4 ?_ ?_ _ | refine zq5 ?_ _ | refine zq6 ?_ _ | refine zq7 ?_ | refine zq8 ?_ (by assumption)) | (simp only [zq10]; omega) | (simp; done) | (simp; omega))⟩
  case rest =>
   obtain ⟨D, vb, rfl, HD, hl3⟩ := hcut
   obtain ⟨w3, rfl⟩ : ∃ x, x = wc := ⟨_, rfl⟩
   replace e0 := (bcell hl3).1 _ 0 (Nat.lt_of_lt_of_le zA hz2) |>.trans e0
   replace k0 := (bcell hl3).1 _ 0 (Nat.lt_of_lt_of_le zB hz2) |>.trans k0
   obtain ⟨⟨zD, cD, fD⟩, -⟩ := id HD.out.1
   obtain ⟨vp, vc, rfl⟩ := B.owns_form HD.out.2.1
   have r0 : w3.cell? ⟨D, 0, none⟩ = some (.slice vp 2 vc) := cD 0
   have rf : w3.frozen? ⟨D, 0, none⟩ = false := fD 0 (by simp)
   have HOX : Hid (Own w3 [(A, #[.pointer (some ⟨b, 0, none⟩)]), (A + 1, #[.int .i64 pl, .int .i64 day, .int .i64 n, .int .i64 d]), (C, #[.int .i64 16, .int .i64 a, .int .i64 b', .int .i64 vn, .int .i64 vd])]) := Lib.hid ⟨((HO1.out.later hl2).later hl3).1, ((HO1.out.later hl2).later hl3).2.1, (HOC.out.later hl3).1, trivial⟩
   have hl03 := hl1.trans (hl2.trans hl3)
   have hz3 := hl3.size
   have HAB : Hid (A + 1 < w1.heap.size) := Lib.hid zB
   clear cD fD HO1 HOC HBL s0 e0 k0 zA zB
   go_upto_region 4 with (at_builtin; go_must (refine B.wpList_push sliceInt' HD.out.2.1 hz3 rfl _ _ rfl rfl 1 _ rfl rfl rfl (by simp [Value.oneCell']) (by decide) (by decide) ?_; intro v9 w9 h1' h2 h3; have h1 : w9.ownsRow w2.heap.size 3 1 v9 3 (PL.map (Value.int .i64) ++ [.int .i64 0]) := h1'; clear h1'; obtain ⟨p9, c9, rfl⟩ := B.owns_form h1; have hOD := B.own_grown (HD.out.1.later ((Later.refl _).alloc _)) h2 (fun z hz => by simp only [List.mem_cons, List.not_mem_nil, or_false] at hz; subst hz; exact HD.out.2.2.1); have zD9 : D < w9.heap.size := hOD.1.1; have cD9 : w9.cell? ⟨D, 0, none⟩ = some (.slice vp 2 vc) := hOD.1.2.1 0; have fD9 : w9.frozen? ⟨D, 0, none⟩ = false := hOD.1.2.2 0 (by simp); have HOD := Lib.hid hOD; clear hOD))
   refine wp_opaque (fun w4 hb4 => ?_)
   have hne9 : ¬ (Value.slice p9 3 c9).ownBlock = some D := fun e => h3.elim (fun f => HD.out.2.2.1 (f ▸ e)) (fun f => by have := f _ e; omega)
   have hge9 : ∀ k, (Value.slice p9 3 c9).ownBlock = some k → w2.heap.size ≤ k := fun k hk => h3.elim (fun f => (HD.out.2.1.lt k (f ▸ hk)).1) (fun f => Nat.le_trans hz3 (f k hk))
   have hrow9 : ∀ z ∈ [(A, (#[.pointer (some ⟨b, 0, none⟩)] : Array Value)), (A + 1, #[.int .i64 pl, .int .i64 day, .int .i64 n, .int .i64 d]), (C, #[.int .i64 16, .int .i64 a, .int .i64 b', .int .i64 vn, .int .i64 vd])], z.1 < w2.heap.size := fun z hz => by
    have := HAB.out
    simp only [List.mem_cons, List.not_mem_nil, or_false] at hz
    rcases hz with rfl | rfl | rfl
    ·simp only; omega
    ·simp only; omega
    ·exact hzC
   have hOX9 := B.own_far (B.own_grown (HOX.out.later ((Later.refl _).alloc _)) h2 (fun z hz e => by have := (HD.out.2.1.lt _ e).1; have := hrow9 z hz; omega)) (b := D) (k := 0) (fun z hz e => by have := HD.out.2.2.2; have := hrow9 z hz; omega) (.slice p9 3 c9)
   have hOD9 := B.own_at HOD.out (k := 0) (by simp) (.slice p9 3 c9)
   have HI := Lib.hid ((B.owns_ints (zs := PL ++ [0]) (B.owns_set (k := D) (i := 0) (by rw [List.map_append]; exact h1) hne9 (.slice p9 3 c9))).1.later hb4)
   have HOX4 := Lib.hid (hOX9.later hb4)
   have HOD4 := Lib.hid (hOD9.later hb4)
   have hl4 : Later w w4 := Later.trans (Later.putCell (B.grown_lat (hl03.alloc _) h2 (fun k hk => by have := (HD.out.2.1.lt k hk).1; have := hl1.size; omega)) (by have := HD.out.2.2.2; have := hl1.size; omega) _) hb4
   have HS4 := Lib.hid (HST.out.later hl4)
   have hl04 := hw0.trans hl4
   have HZ : Hid (A ≤ C ∧ A ≤ D ∧ (∀ k, (Value.slice p9 3 c9).ownBlock = some k → A ≤ k)) := Lib.hid ⟨by have := hl1.size; omega, by have := HD.out.2.2.2; have := hl1.size; omega, fun k hk => by have := hge9 k hk; have := hl1.size; omega⟩
   have HR9 := Lib.hid hge9
   obtain ⟨⟨zA, cA, fA⟩, ⟨zB, cB, fB⟩, ⟨zC, cC, fC⟩, -⟩ := id HOX4.out
   obtain ⟨⟨zD4, cD4, fD4⟩, -⟩ := id HOD4.out
   have a0 : w4.cell? ⟨A, 0, none⟩ = some (.pointer (some ⟨b, 0, none⟩)) := cA 0
   have k0 : w4.cell? ⟨A + 1, 0, none⟩ = some (.int .i64 pl) := cB 0
   have k1 : w4.cell? ⟨A + 1, 1, none⟩ = some (.int .i64 day) := cB 1
   have k2 : w4.cell? ⟨A + 1, 2, none⟩ = some (.int .i64 n) := cB 2
   have k3 : w4.cell? ⟨A + 1, 3, none⟩ = some (.int .i64 d) := cB 3
   have x0 : w4.cell? ⟨C, 0, none⟩ = some (.int .i64 16) := cC 0
   have x1 : w4.cell? ⟨C, 1, none⟩ = some (.int .i64 a) := cC 1
   have x2 : w4.cell? ⟨C, 2, none⟩ = some (.int .i64 b') := cC 2
   have d0 : w4.cell? ⟨D, 0, none⟩ = some (.slice p9 3 c9) := cD4 0
   clear hCz h1 h2 h3 hb4 hne9 hge9 hrow9 hOX9 hOD9 HOX HOD HD cA fA cB fB cC fC cD4 fD4 zD9 cD9 fD9 zD r0 rf hl1 hl2 hl3 hl02 hl03 hz2 hz3 hzC HAB HR9 hzb1 hzb2 hzA2 hzB2
   have hbA : b < A := by omega
   have HRV := Lib.hid (show (∀ k, A ≤ k → ¬ rv.ownBlock = some k) ∧ (∀ k, A ≤ k → ¬ fv.ownBlock = some k) ∧ (∀ k, A ≤ k → ¬ wv.ownBlock = some k) from ⟨fun k hk e => by have := (HST.out.rest.lo k e).2; omega, fun k hk e => by have := (HST.out.flows.lo k e).2; omega, fun k hk e => by have := (HST.out.waits.lo k e).2; omega⟩)
   have HBB := Lib.hid (And.intro HI.out (And.intro HS4.out (And.intro HZ.out (And.intro HRV.out (And.intro HST.out (And.intro HPL.out (And.intro hzb (And.intro hlo (And.intro hk (And.intro hkI (And.intro hA (And.intro hbA (And.intro zA (And.intro zB (And.intro zC (And.intro zD4 (And.intro a0 (And.intro k0 (And.intro k1 (And.intro k2 (And.intro k3 (And.intro x1 (And.intro x2 d0)))))))))))))))))))))))
   clear HI HS4 HZ HRV HST HPL hzb hlo hk hkI hA hbA zA zB zD4 a0 k0 k1 k2 k3 x1 x2 d0 HOX4 HOD4
   go_upto_region 34 with (fail)
   obtain ⟨hJ', hT', hSO', hVA', hLL', hFLD', hNOK', hLEN', hPLE', ⟨hd0, hd1⟩, ht0, ht1⟩ := HALL.out
   obtain ⟨hI', hS4', hZ', hRV', hST', hPL', hzb, hlo, hk, hkI, hA, hbA, zA, zB, zC', zD4, a0, k0, k1, k2, k3, x1, x2, d0⟩ := HBB.out
   have HJ := Lib.hid hJ'
   have HT := Lib.hid hT'
   have HSO := Lib.hid hSO'
   have HVA := Lib.hid hVA'
   have HLL := Lib.hid hLL'
   have HNOK := Lib.hid hNOK'
   have HLEN := Lib.hid hLEN'
   have HPLE := Lib.hid hPLE'
   have HI := Lib.hid hI'
   have HS4 := Lib.hid hS4'
   have HZ := Lib.hid hZ'
   have HRV := Lib.hid hRV'
   have HST := Lib.hid hST'
   have HPL := Lib.hid hPL'
   clear HALL HBB hJ' hT' hSO' hVA' hLL' hFLD' hNOK' hLEN' hPLE' hI' hS4' hZ' hRV' hST' hPL' zC'
   have hl0 : 0 < l.length := by rw [HLL.out]; decide
   have HK0 : Hid ((PL ++ [0])[0]'(by rw [List.length_append, HPL.out]; decide) = (placeN pl l 0 : Int)) := Lib.hid (by have := places_at (pl := pl) (l := l) (m := 2) (i := 0) (by decide); rw [HPLE.out] at this; exact this.2)
   obtain ⟨K0, hK0⟩ : ∃ K : Nat, placeN pl l 0 = K := ⟨_, rfl⟩
   rw [hK0] at HK0
   obtain ⟨vb, vo, vc', hv, hvb, g0⟩ := HI.out.full (j := 0) (by rw [List.length_append, HPL.out]; decide)
   rw [HK0.out, Nat.add_zero] at g0
   rw [List.length_append, HPL.out] at hv
   cases hv
   have hl1 : 1 < l.length := by rw [HLL.out]; decide
   have HK1 : Hid ((PL ++ [0])[1]'(by rw [List.length_append, HPL.out]; decide) = (placeN pl l 1 : Int)) := Lib.hid (by have := places_at (pl := pl) (l := l) (m := 2) (i := 1) (by decide); rw [HPLE.out] at this; exact this.2)
   obtain ⟨K1, hK1⟩ : ∃ K : Nat, placeN pl l 1 = K := ⟨_, rfl⟩
   rw [hK1] at HK1
   obtain ⟨vb2, vo2, vc2, hv2, -, g1⟩ := HI.out.full (j := 1) (by rw [List.length_append, HPL.out]; decide)
   rw [HK1.out] at g1
   rw [List.length_append, HPL.out] at hv2
   cases hv2
   have HCH := Lib.hid (fun W1 (hl : Later w0 W1) => choice_any p m1 m2 fx ch a day W1 (HJ.out.facts.later hl) HNOK.out.2.1 ⟨by omega, by omega⟩)
   obtain ⟨g, hg⟩ : ∃ g, getA ch (a, day) = g := ⟨_, rfl⟩
   rw [hg] at HCH
   have HGC : Hid ((envT fx ch).cho a day = g) := Lib.hid hg
   have hgo : ∀ q, g = some q → q = 1 ∨ q = 2 := fun q hq => (HJ.out.co _ _ (hg.trans hq)).1
   obtain ⟨⟨zb, cb, fb⟩, -⟩ := id HS4.out.own
   have s2 : w4.cell? ⟨b, 2, none⟩ = some (.pointer (some ⟨p, 0, none⟩)) := cb 2
   clear cb fb hg   HT HSO HNOK HPLE k0 x0 x2
   cases g with
   | some q =>
    have hq := hgo q rfl
    clear hgo
    refine wp_region_plan 14 (.one [0, 4, 5, 6, 7] 1 (.one [2, 3] 8 (.done [9, 10, 11, 12, 13]))) (by kernel_rfl) (by kernel_rfl) (fun _ _ d _ _ h => by cases d <;> exact h) ?_
    repeat' (first
     | ((first | refine plan_done (fun K hK => ?_) | refine plan_one (by rfl) (fun K hK => ?_)); (first | (simp only [zq9]; repeat (go_big_quiet_step (fail))) | simp only [pick_nil]); refine wpQuiet_nil (hK _ ?_); clear hK K)
     | ((with_reducible refine at_list ?_); go_wp2_with ((go_at_call 25; go_must (refine (HCH.out _ (hl04.trans (by repeat (first | with_reducible (first | exact zq1 _ | assumption | refine zq2 ?_ | refine zq4 ?_ ?_ _ | refine zq5 ?_ _ | refine zq6 ?_ _ | refine zq7 ?_ | refine zq8 ?_ (by assumption)) | (simp only [zq10]; omega) | (simp; done) | (simp; omega))))).mono ?_; rintro e w6 ⟨rfl, hb6⟩))); first | refine behind_store (t := 14) (by decide) ?_ | refine behind (by with_reducible repeat (first | exact zq1 _ | assumption | refine zq2 ?_ | refine zq5 ?_ _ | refine zq6 ?_ _ | refine zq7 ?_ | refine zq8 ?_ (by assumption))) ?_))
    have hl6 : Later w4 w6 := hb6.undrew'
    replace a0 := (bcell hl6).1 _ 0 zA |>.trans a0
    replace k1 := (bcell hl6).1 _ 1 zB |>.trans k1
    replace k2 := (bcell hl6).1 _ 2 zB |>.trans k2
    replace k3 := (bcell hl6).1 _ 3 zB |>.trans k3
    replace d0 := (bcell hl6).1 _ 0 zD4 |>.trans d0
    have hl06 := hl04.trans hl6
    clear HCH s2 x1
    rcases hq with rfl | rfl
    ·have H1 := Lib.hid (sone1_any (w := w6) hl06.size (by have := HLEN.out; omega) (HS4.out.later hl6) ⟨l[0], placeN pl l 0, day, n, d⟩ A (A + 1) D (PL ++ [0]) 0 (by rw [List.length_append, HPL.out]; decide) (by rw [HK0.out]; exact congrArg _ hK0) _ a0 d0 (HI.out.later hl6) k1 k2 k3)
     go_wp2_with (go_at_call 132; go_must (refine H1.out.mono ?_; rintro e w7 ⟨rfl, rv7, hs7, hz7, hf7⟩))
     go_ret
     exact one_end (r := (0, [⟨l[0], placeN pl l 0, day, n, d⟩], [], [])) (hs7) (by simp [stepT, HGC.out, kidH_at hl0]) (by simp) (by simp) (by simp) (lat_base hz7 hl06 (fun k hk => hk.elim (fun e => e ▸ HS4.out.lob) (fun e => (HS4.out.rest.lo k e).1)))
    ·have H1 := Lib.hid (sone1_any (w := w6) hl06.size (by have := HLEN.out; omega) (HS4.out.later hl6) ⟨l[1], placeN pl l 1, day, n, d⟩ A (A + 1) D (PL ++ [0]) 1 (by rw [List.length_append, HPL.out]; decide) (by rw [HK1.out]; exact congrArg _ hK1) _ a0 d0 (HI.out.later hl6) k1 k2 k3)
     go_wp2_with (go_at_call 132; go_must (refine H1.out.mono ?_; rintro e w7 ⟨rfl, rv7, hs7, hz7, hf7⟩))
     go_ret
     exact one_end (r := (0, [⟨l[1], placeN pl l 1, day, n, d⟩], [], [])) (hs7) (by simp [stepT, HGC.out, kidH_at hl1]) (by simp) (by simp) (by simp) (lat_base hz7 hl06 (fun k hk => hk.elim (fun e => e ▸ HS4.out.lob) (fun e => (HS4.out.rest.lo k e).1)))
   | none =>
    clear hgo
    refine wp_region_plan 14 (.one [0, 4, 5, 6, 7] 1 (.one [2, 3] 8 (.done [9, 10, 11, 12, 13]))) (by kernel_rfl) (by kernel_rfl) (fun _ _ d _ _ h => by cases d <;> exact h) ?_
    repeat' (first
     | ((first | refine plan_done (fun K hK => ?_) | refine plan_one (by rfl) (fun K hK => ?_)); (first | (simp only [zq9]; repeat (go_big_quiet_step (fail))) | simp only [pick_nil]); refine wpQuiet_nil (hK _ ?_); clear hK K)
     | ((with_reducible refine at_list ?_); go_wp2_with ((go_at_call 25; go_must (refine (HCH.out _ (hl04.trans (by repeat (first | with_reducible (first | exact zq1 _ | assumption | refine zq2 ?_ | refine zq4 ?_ ?_ _ | refine zq5 ?_ _ | refine zq6 ?_ _ | refine zq7 ?_ | refine zq8 ?_ (by assumption)) | (simp only [zq10]; omega) | (simp; done) | (simp; omega))))).mono ?_; rintro e w5 ⟨rfl, hb5'⟩))); first | refine behind_store (t := 14) (by decide) ?_ | refine behind (by with_reducible repeat (first | exact zq1 _ | assumption | refine zq2 ?_ | refine zq5 ?_ _ | refine zq6 ?_ _ | refine zq7 ?_ | refine zq8 ?_ (by assumption))) ?_))
    have hb5 : Later w4 w5 := hb5'.undrew'
    have HS5 := Lib.hid (HS4.out.later hb5)
    obtain ⟨fp5, fc5, hfv⟩ := HS5.out.waits.form
    obtain ⟨N, hN⟩ : ∃ N, W.length = N := ⟨_, rfl⟩
    rw [hN] at hfv
    have HNN := Lib.hid hN
    subst hfv
    have HF9 : Hid (∀ z ∈ [(b, (#[.slice (some ⟨tb, tq, none⟩) L tc, .int .i64 tod, .pointer (some ⟨p, 0, none⟩), rv, fv, .slice fp5 N fc5] : Array Value))], (Value.slice fp5 N fc5).ownBlock ≠ some z.1) := Lib.hid (fun z hz => by
     simp only [List.mem_cons, List.not_mem_nil, or_false] at hz
     subst hz
     exact HS5.out.wb)
    obtain ⟨⟨z7, c7, f7⟩, -⟩ := id HS5.out.own
    have b4 : w5.cell? ⟨b, 5, none⟩ = some (.slice fp5 N fc5) := c7 5
    have bf4 : w5.frozen? ⟨b, 5, none⟩ = false := f7 5 (by simp)
    replace a0 := (bcell hb5).1 _ 0 zA |>.trans a0
    replace k1 := (bcell hb5).1 _ 1 zB |>.trans k1
    replace x1 := (bcell hb5).1 _ 1 zC |>.trans x1
    have hzA5 := Nat.lt_of_lt_of_le zA hb5.size
    have hzB5 := Nat.lt_of_lt_of_le zB hb5.size
    have hzC5 := Nat.lt_of_lt_of_le zC hb5.size
    have hneb : ¬ (Value.slice fp5 N fc5).ownBlock = some b := HS5.out.wb
    have hneA : ¬ (Value.slice fp5 N fc5).ownBlock = some A := HRV.out.2.2 A (Nat.le_refl _)
    have hneB : ¬ (Value.slice fp5 N fc5).ownBlock = some (A + 1) := HRV.out.2.2 _ (Nat.le_succ _)
    have hneC : ¬ (Value.slice fp5 N fc5).ownBlock = some C := HRV.out.2.2 C HZ.out.1
    have hl05 := hl04.trans hb5
    clear c7 f7 hN HI k2 k3 d0 zD4 g0 g1 HCH s2 HRV
    go_upto_region 37 with (fail)
    refine S.wp_region_plan (S := (fun k => (Value.slice fp5 N fc5).ownBlock = some k)) 14 (.two [0, 1, 5, 6, 7, 8, 9] 2 (.one [3, 4] 10 (.one [] 11 (.one [] 12 (.one [13] 14 (.done []))))) 10 (.one [] 2 (.one [3, 4] 11 (.one [] 12 (.one [13] 14 (.done [])))))) (by kernel_rfl) (by kernel_rfl) (fun _ _ d _ _ h => by cases d <;> exact h) ?_
    repeat' (first
     | ((first | refine S.plan_done (fun K hK => ?_) | refine S.plan_one (by rfl) (fun K hK => ?_)); (first | (simp only [zq9]; repeat (go_big_quiet_step (fail))) | simp only [pick_nil]); refine wpQuiet_nil (hK _ ?_); clear hK K)
     | (refine S.plan_two (by rfl) (by rfl) (fun K hK => ?_); (first | (simp only [zq9]; repeat (go_big_quiet_step (fail))) | simp only [pick_nil]); refine wpQuiet_nil (hK _ ?_); clear hK K; refine ⟨?_, ?_⟩)
     | ((with_reducible refine at_list ?_); (try simp only [List.getElem_toArray, List.getElem_cons_succ, List.getElem_cons_zero]); go_wp2_with ((at_builtin; go_must (refine B.wpList_quePushD (v := .slice fp5 N fc5) (base := w0.heap.size) (n := N) (xs := W.flatMap wtCs) #[.bool true, .int .i64 a, .int .i64 day] sliceWait (HNN.out ▸ HS5.out.waits) hl05.size rfl _ _ rfl rfl 1 w5.heap.size rfl rfl rfl (by simp [Value.oneCell']) (by have := HLEN.out; have := HNN.out; omega) (by have := HLEN.out; have := HNN.out; unfold maxLen; omega) ?_; intro v9 w9 h1 h2 h3; obtain ⟨p8, c8, rfl⟩ := B.Que.form h1; have hS9 := S.LatB.grown (S := fun k => (Value.slice fp5 N fc5).ownBlock = some k) (S.LatB.refl _) h2 (fun k hk => hk); have hO9 := B.own_grown (HS5.out.own.later (((Later.refl _).alloc _).drew)) h2 HF9.out; have hc9 : w9.cell? ⟨b, 5, none⟩ = some (.slice fp5 N fc5) := hO9.1.2.1 5; have hf9 : w9.frozen? ⟨b, 5, none⟩ = false := hO9.1.2.2 5 (by simp); have HO9 := Lib.hid hO9; clear hO9))); first | refine S.behind_store (t := 14) (by decide) ?_ | refine S.behind (by repeat (first | with_reducible exact S.LatB.refl _ | with_reducible assumption | with_reducible refine S.LatB.ofdrew ?_ | with_reducible refine S.LatB.drew ?_ | with_reducible refine S.LatB.alloc ?_ _ | (with_reducible refine S.LatB.of ?_))) ?_))
    all_goals
     have hx := HS5.out.put_waits ((Later.refl w5).alloc _).drew h2 (L' := W ++ [⟨true, a, day⟩]) h3 (by rw [List.flatMap_append, List.length_append, HNN.out]; exact h1)
     go_wp2_with fail
     go_ret
     exact one_end (r := (0, [], [], [⟨true, a, day⟩])) (hx.1) (by simp [stepT, HGC.out]) (by simp) (by simp) (by simp) (lat_base hx.2 hl05 (fun k hk => hk.elim (fun e => e ▸ HS4.out.lob) (fun e => (HS4.out.waits.lo k e).1)))
end Go.Proofs.YtkjabiabeemfhaaGreatDoor
end
