/- facts: their maps; New, may, Fix, Choose, Fixing, Choice -/
import Derived.Test.YtkjabiabeemfhaaGreatDoorZ9
import Derived.Test.YtkjabiabeemfhaaGreatDoorZ3
import Derived.Lib.Strings
set_option linter.all false
set_option linter.all false
section
namespace Go.Proofs.YtkjabiabeemfhaaGreatDoor
open Go.RowKit
set_option maxRecDepth 100000
attribute [local go_sem] Oper.semAt_some field_makes field_many field_below
theorem index_four (op : Int) (i : Nat) (hi : i < 4) (W : World) : (Instr.index 212 (.agg #[.int .i64 (belI op 0), .int .i64 (belI op 1), .int .i64 (belI op 2), .int .i64 (belI op 3)]) (.int .i64 (i : Int))).run Tryz.prog W = .ok (.int .i64 (belI op i)) W := by
 rcases i with _ | _ | _ | _ | i
 ·kernel_rfl
 ·kernel_rfl
 ·kernel_rfl
 ·kernel_rfl
 ·omega
set_option maxHeartbeats 3200000 in
theorem of_good (ts : List Nd) (T : Tm) (v : Value) (w : World) (hS : Shapes w) (hN : IsNodes w v ts) (hok : ∀ x ∈ ts, x.ok) (hg : ts.length ≤ 64) (h : treeOf ts = some T) (hf : ts.all fieldsB = true) :
  Calls Tryz.prog 77 #[v] w fun e w' => e = .returned (.tuple #[.int .i64 (if T.sorted = true ∧ T.depth ≤ 12 then makesI T.root.op else 0), .int .i64 (if T.sorted = true then (if T.depth ≤ 12 then 0 else 15) else 14)]) ∧ Later w w' := by
 have HE := Lib.hid (fun W (hl : Later w W) => end_any ts (by omega) _ 0 v W (Nat.le_refl _) (by omega) (hS.later hl) (hN.later hl))
 rw [endI_tree h] at HE
 have HC := Lib.hid (fun W (hl : Later w W) => contains_any ts (by omega) hok v W (hN.later hl))
 rw [hf] at HC
 have hne : ts.length ≠ 0 := by have := (treeOf_at h).2; have := T.size_pos; omega
 obtain ⟨p, cp, rfl⟩ := hN.form
 have HS := Lib.hid hS
 have HN := Lib.hid hN
 have HT := Lib.hid h
 clear hN hS h hf hok
 obtain ⟨L, hL⟩ : ∃ L, ts.length = L := ⟨_, rfl⟩
 rw [hL] at HE HC HN hne hg ⊢
 have HL := Lib.hid hL
 clear hL
 have h0 : ((L : Int) == 0) = false := by simp; omega
 refine callsIn_wide.1 (callsIn_of_wp_marks (n := 9) Tryz.func77 rfl trivial ?_ rfl)
 simp only [Tryz.ntmps77, List.size_toArray, List.length_cons, List.length_nil, Nat.reduceAdd, Nat.reduceSub, Array.replicate_succ, Array.replicate_zero, List.push_toArray, List.append_toArray, List.nil_append, List.cons_append]
 refine wpIn_wide.2 ?_
 go_wp2
 go_step3
 go_wp2
 go_cut [13] from 14 to 23 (fun s13 wx => s13 = .bool false ∧ Own wx [(w.heap.size, #[.slice p L cp])] ∧ Later w wx)
 case first =>
  have hO := Lib.hid (own_alloc w #[.slice p L cp] 22)
  refine wp_calm ?_
  refine wp_region_plan 11 (.one [0] 1 (.two [2, 3, 4, 6] 5 (.one [] 7 (.done [8, 9, 10])) 7 (.one [] 5 (.done [8, 9, 10])))) (by kernel_rfl) (by kernel_rfl) (fun _ _ d _ _ h => by cases d <;> exact h) ?_
  repeat' (first
   | ((first | refine plan_done (fun K hK => ?_) | refine plan_one (by rfl) (fun K hK => ?_)); (first | (simp only [zq9]; repeat (go_big_quiet_step (fail))) | simp only [pick_nil]); refine wpQuiet_nil (hK _ ?_); clear hK K)
   | (refine plan_two (by rfl) (by rfl) (fun K hK => ?_); (first | (simp only [zq9]; repeat (go_big_quiet_step (fail))) | simp only [pick_nil]); refine wpQuiet_nil (hK _ ?_); clear hK K; refine ⟨?_, ?_⟩)
   | ((with_reducible refine at_list ?_); go_wp2_with ((go_at_call 78; go_must (refine (HE.out _ (by repeat (first | with_reducible (first | exact zq1 _ | assumption | refine zq2 ?_ | refine zq4 ?_ ?_ _ | refine zq5 ?_ _ | refine zq6 ?_ _ | refine zq7 ?_ | refine zq8 ?_ (by assumption)) | (simp only [zq10]; omega) | (simp; done) | (simp; omega)))).mono ?_; rintro e w2 ⟨rfl, hb2⟩))); first | refine behind_store (t := 11) (by decide) ?_ | refine behind (by with_reducible repeat (first | exact zq1 _ | assumption | refine zq2 ?_ | refine zq5 ?_ _ | refine zq6 ?_ _ | refine zq7 ?_ | refine zq8 ?_ (by assumption))) ?_))
  all_goals
   refine calm_intro ?_
   go_wp2_with fail
   go_meet
   exact ⟨rfl, hO.out.later (by repeat (first | with_reducible (first | exact zq1 _ | assumption | refine zq2 ?_ | refine zq4 ?_ ?_ _ | refine zq5 ?_ _ | refine zq6 ?_ _ | refine zq7 ?_ | refine zq8 ?_ (by assumption)) | (simp only [zq10]; omega) | (simp; done) | (simp; omega))), by repeat (first | with_reducible (first | exact zq1 _ | assumption | refine zq2 ?_ | refine zq4 ?_ ?_ _ | refine zq5 ?_ _ | refine zq6 ?_ _ | refine zq7 ?_ | refine zq8 ?_ (by assumption)) | (simp only [zq10]; omega) | (simp; done) | (simp; omega))⟩
 case rest =>
  obtain ⟨rfl, hO, hl⟩ := hcut
  obtain ⟨z0, c0, -⟩ := own_get hO
  have g0 := c0 0
  simp only [List.getElem?_toArray, List.getElem?_cons_zero] at g0
  clear c0 hO
  go_wp2_with (go_at_call 117; go_must (refine (HC.out _ hl).mono ?_; rintro e w3 ⟨rfl, hb3⟩; have g3 := ((bcell hb3).1 _ _ z0).trans g0; have z3 := Nat.lt_of_lt_of_le z0 (Later.size hb3)))
  go_step3
  go_wp2
  have hI0 := Lib.hid (HS.out.later (hl.trans hb3))
  have hl3 : Later w (w3.alloc (.cells #[.int .i64 0] 31)) := (hl.trans hb3).alloc _
  have hO3 : Own (w3.alloc (.cells #[.int .i64 0] 31)) [(w3.heap.size, #[.int .i64 0])] := own_alloc _ _ _
  have hT3 := ((bcell ((Later.refl w3).alloc (.cells #[.int .i64 0] 31))).1 _ _ z3).trans g3
  have hz3 := Later.size (hl.trans hb3)
  have HL3 := Lib.hid hl3
  have HO3 := Lib.hid hO3
  clear hl hb3 g0 g3 HE HC hl3 hO3
  refine (wpIn_wide (n := 9)).1 ?_
  refine wpIn_loop (n := 9) (fun a wr => ∃ (j : Nat) (Ds : List Nat) (u5 u6 u7 u8 u31 u32 u33 u34 u35 u36 u37 u38 u39 u40 u41 u42 u43 u44 u45 u46 u47 u48 u49 u50 u51 u52 u53 : Value), a = { tmps := #[.slice p L cp, .pointer (some ⟨w.heap.size, 0, none⟩), .int .i64 0, .int .i64 0, .pointer (some ⟨w3.heap.size, 0, none⟩), u5, u6, u7, u8, .bool (decide (64 < (L : Int))), .slice p L cp, .int .i64 L, .bool (decide (64 < (L : Int))), .bool false, u14, u15, u16, u17, u18, u19, u20, u21, u22, u23, .bool true, .slice p L cp, .bool false, .bool true, .slice p L cp, .int .i64 L, .int .i64 (j : Nat), u31, u32, u33, u34, u35, u36, u37, u38, u39, u40, u41, u42, u43, u44, u45, u46, u47, u48, u49, u50, u51, u52, u53, undef, undef, undef, undef, undef, undef, undef, undef, undef, undef, undef, undef, undef], defers := Ds.map mark } ∧
   j ≤ L ∧ Hid (∀ i s, i < j → TmAt ts i s → s.top = true) ∧ wr.cell? ⟨w.heap.size, 0, none⟩ = some (.slice p L cp) ∧ wr.cell? ⟨w3.heap.size, 0, none⟩ = some (.int .i64 0) ∧ wr.frozen? ⟨w3.heap.size, 0, none⟩ = false ∧ Hid (Below w.heap.size w wr) ∧ Hid (Marks w.heap.size Ds wr))
   (fun a _ => L - (intOf (a.tmps.getD 30 undef)).toNat) ?start ?round
  case start => exact ⟨0, [], _, _, _, _, _, _, _, _, _, _, _, _, _, _, _, _, _, _, _, _, _, _, _, _, _, _, _, rfl, Nat.zero_le _, Lib.hid (fun _ _ h => by omega), hT3, HO3.out.1.2.1 0, HO3.out.1.2.2 0 (by simp), HL3, Lib.hid (Marks.nil _ _)⟩
  case round =>
   rintro _ wr ⟨j, Ds, u5, u6, u7, u8, u31, u32, u33, u34, u35, u36, u37, u38, u39, u40, u41, u42, u43, u44, u45, u46, u47, u48, u49, u50, u51, u52, u53, rfl, hj, htop, hTc, hEc, hEf, hB, hM⟩
   by_cases hlt : j < L
   ·obtain ⟨hT1, hT2⟩ := treeOf_at HT.out
    obtain ⟨s, hs1, hs2⟩ := tm_at_all hT1 (Nat.zero_le j) (by rw [hT2, HL.out]; omega)
    obtain ⟨x, l⟩ := s
    obtain ⟨hr1, hr2, hr3, hr4⟩ := hs1.root
    have hjl : j < ts.length := by rw [HL.out]; exact hlt
    have hx0 : ts[j] = x := by rw [List.getElem?_eq_getElem hjl] at hr1; exact Option.some.inj hr1
    obtain ⟨b, o, cp', hv, hb, hcap, g0, g1, g2, g3, g4⟩ := HN.out.full (i := j) hjl
    rw [HL.out] at hv
    cases hv
    rw [hx0] at g0 g1 g2 g3 g4
    have hsz := Below.size hB.out
    have e0 := (Below.cell hB.out (p := ⟨b, o + j * 5, none⟩) hb).trans g0
    have e1 := (Below.cell hB.out (p := ⟨b, o + j * 5 + 1, none⟩) hb).trans g1
    have e2 := (Below.cell hB.out (p := ⟨b, o + j * 5 + 2, none⟩) hb).trans g2
    have e3 := (Below.cell hB.out (p := ⟨b, o + j * 5 + 3, none⟩) hb).trans g3
    have e4 := (Below.cell hB.out (p := ⟨b, o + j * 5 + 4, none⟩) hb).trans g4
    have HK := Lib.hid (fun W => kids_make (some ⟨b, o, none⟩) L cp (j : Int) W)
    have hz := World.block_lt_of_cell? _ _ hTc
    have hze := World.block_lt_of_cell? _ _ hEc
    have HS1 := Lib.hid hs1
    have HX := Lib.hid hr4
    clear g0 g1 g2 g3 g4 hx0 hs1 hr1 hr2 hr3 hr4 hs2 hT1 hT2
    obtain ⟨op, a, b', n, d⟩ := x
    simp only at e0 e1 e2 e3 e4
    gi_wp2_with ((first | (refine ⟨trivial, ?_⟩; gi_at_call 120) | (refine ⟨trivial, fun hh => (by cases hh), ?_⟩; gi_at_call 120)); go_must (refine (callsIn_wide.2 (HK.out _)).mono ?_; rintro e w1 ⟨rfl, rfl⟩))
    have hO := Lib.hid (Own.three (Later.refl (((wr.alloc (.cells #[.int .i64 op, .int .i64 a, .int .i64 b', .int .i64 n, .int .i64 d] 61)).alloc (.cells #[.slice (some ⟨b, o, none⟩) L cp] 22)).alloc (.cells #[.int .i64 j] 3))))
    have hLW := Lib.hid ((((Later.refl wr).alloc (.cells #[.int .i64 op, .int .i64 a, .int .i64 b', .int .i64 n, .int .i64 d] 61)).alloc (.cells #[.slice (some ⟨b, o, none⟩) L cp] 22)).alloc (.cells #[.int .i64 j] 3))
    obtain ⟨W0, hW0⟩ : ∃ W0, (((wr.alloc (.cells #[.int .i64 op, .int .i64 a, .int .i64 b', .int .i64 n, .int .i64 d] 61)).alloc (.cells #[.slice (some ⟨b, o, none⟩) L cp] 22)).alloc (.cells #[.int .i64 j] 3)) = W0 := ⟨_, rfl⟩
    rw [hW0] at hO hLW ⊢
    clear hW0
    obtain ⟨⟨z1, c1, -⟩, ⟨z2, c2, -⟩, ⟨z4, c4, -⟩, -⟩ := hO.out
    clear hO
    have hBW := Lib.hid (below_later hB.out hsz hLW.out)
    have hszW := Below.size hBW.out
    have hM0 := Lib.hid (hM.out.later hLW.out)
    have gE := ((bcell hLW.out).1 _ _ hze).trans hEc
    have gEf := ((bcell hLW.out).2 _ _ hze).trans hEf
    have gT := ((bcell hLW.out).1 _ _ hz).trans hTc
    refine wpIn_rangeFunc_ownF rfl (by omega) (gf := 166) (lb := #[.pointer (some ⟨wr.heap.size + 1 + 1, 0, none⟩), .pointer (some ⟨wr.heap.size + 1, 0, none⟩)]) rfl trivial (enters_of Tryz.func166 (by kernel_rfl) rfl)
     (kids_stops ts (by rw [HL.out]; omega) j ⟨op, a, b', n, d⟩ l HS1.out 8 (wr.heap.size + 1) (wr.heap.size + 1 + 1) (.slice (some ⟨b, o, none⟩) L cp) w W0 HS.out HN.out hBW.out (c2 0) (c4 0)) kb_t (kb_b hszW (by simp; omega)) (Below.refl _ _) (fun _ => rfl)
     (fun pre W => ((W.cell? ⟨w3.heap.size, 0, none⟩ = some (.int .i64 0) ∧ W.frozen? ⟨w3.heap.size, 0, none⟩ = false ∧ W.cell? ⟨w.heap.size, 0, none⟩ = some (.slice (some ⟨b, o, none⟩) L cp) ∧ W.cell? ⟨wr.heap.size, 0, none⟩ = some (.int .i64 op) ∧ W.cell? ⟨wr.heap.size + 1, 0, none⟩ = some (.slice (some ⟨b, o, none⟩) L cp) ∧ Hid (∀ i ∈ pre, makesI (l[i]).root.op = belI op i.1)) ∧ Below w.heap.size w W) ∧ Marks w.heap.size Ds W)
     (fun c _ W => (((c = .exit 1 ∧ ∃ i : Fin l.length, makesI (l[i]).root.op ≠ belI op i.1) ∧ W.cell? ⟨w3.heap.size, 0, none⟩ = some (.int .i64 14) ∧ W.cell? ⟨w.heap.size, 0, none⟩ = some (.slice (some ⟨b, o, none⟩) L cp)) ∧ Below w.heap.size w W) ∧ Marks w.heap.size Ds W)
     (OwnFrom.and (OwnFrom.and (Own.from (fun s A B row hs hg hr => ⟨cell_kept hs.1 hg hr, (frozen_kept hs.1 hg hr).trans hs.2.1, cell_kept hs.2.2.1 hg hr, cell_kept hs.2.2.2.1 hg hr, cell_kept hs.2.2.2.2.1 hg hr, hs.2.2.2.2.2⟩) _) (ownFrom_below (Nat.le_refl _) hszW)) (marks_own hM0.out))
     (fun c => OwnFrom.and (OwnFrom.and (Own.from (fun s A B row hs hg hr => ⟨hs.1, cell_kept hs.2.1 hg hr, cell_kept hs.2.2 hg hr⟩) _) (ownFrom_below (Nat.le_refl _) hszW)) (marks_own hM0.out))
     ⟨⟨⟨gE, gEf, gT, c1 0, c2 0, Lib.hid (fun i h => by cases h)⟩, hBW.out⟩, hM0.out⟩
     (fun i => { tmps := #[.slice (some ⟨b, o, none⟩) L cp, .pointer (some ⟨w.heap.size, 0, none⟩), .int .i64 0, .int .i64 0, .pointer (some ⟨w3.heap.size, 0, none⟩), .int .i64 j, .pointer (some ⟨wr.heap.size, 0, none⟩), .int .i64 (i.1 : Int), .int .i64 (placeN j l i.1 : Int), .bool (decide (64 < (L : Int))), .slice (some ⟨b, o, none⟩) L cp, .int .i64 L, .bool (decide (64 < (L : Int))), .bool false, u14, u15, u16, u17, u18, u19, u20, u21, u22, u23, .bool true, .slice (some ⟨b, o, none⟩) L cp, .bool false, .bool true, .slice (some ⟨b, o, none⟩) L cp, .int .i64 L, .int .i64 j, .bool true, .int .i64 j, .pointer (some ⟨b, o + j * 5, none⟩), .agg #[.int .i64 op, .int .i64 a, .int .i64 b', .int .i64 n, .int .i64 d], .slice (some ⟨b, o, none⟩) L cp, .int .i64 j, .func (.func 166) #[] #[.pointer (some ⟨wr.heap.size + 1 + 1, 0, none⟩), .pointer (some ⟨wr.heap.size + 1, 0, none⟩)], .int .i64 (i.1 : Int), .int .i64 (placeN j l i.1 : Int), u40, u41, u42, u43, u44, u45, u46, u47, u48, u49, u50, u51, u52, u53, undef, undef, undef, undef, undef, undef, undef, undef, undef, undef, undef, undef, undef], defers := [] }) ?assign ?body ?done ?stop
    case assign =>
     intro ll i W K hK
     gi_wp2
     exact hK
    case body =>
     rintro ll pre i W ⟨⟨⟨gE, gEf, gT, gN, gU, hpre⟩, hBX⟩, hMX⟩ _
     obtain ⟨y, hro⟩ : ∃ r, (l[i]).root.op = r := ⟨_, rfl⟩
     have hpa := placeN_at HS1.out i.2
     have hple := hpa.le
     have hpp := (l[i.1]).size_pos
     have hpl : placeN j l i.1 < ts.length := by omega
     obtain ⟨b2, o2, cp2, hv2, hb2', -, g0', -⟩ := HN.out.full (i := placeN j l i.1) hpl
     rw [HL.out] at hv2
     cases hv2
     have hy0 : (ts[placeN j l i.1]).op = y := by
      rw [← hro]
      have h9 := hpa
      obtain ⟨tt, htt⟩ : ∃ t, l[i.1] = t := ⟨_, rfl⟩
      show (ts[placeN j l i.1]).op = (l[i.1]).root.op
      rw [htt] at h9 ⊢
      obtain ⟨y0, l0⟩ := tt
      have h10 := h9.root.1
      rw [List.getElem?_eq_getElem hpl] at h10
      rw [Option.some.inj h10]
      rfl
     rw [hy0] at g0'
     have gY := (Below.cell hBX (p := ⟨b, o + placeN j l i.1 * 5, none⟩) hb).trans g0'
     have hi4 : i.1 < 4 := by have := many_le op; have h9 : l.length = manyN op := HX.out; have := i.2; omega
     have hplL : placeN j l i.1 < L := by rw [HL.out] at hpl; exact hpl
     have hidx := index_four op i.1 hi4
     have HXL := Lib.hid hBX
     have HSO := Lib.hid (fun W' (hl : Later W W') => sort_any y W' (HS.out.later (Later.trans HXL.out hl)))
     have HOF := Lib.hid (fun W' (hl : Later W W') => of_shape op W' (HS.out.later (Later.trans HXL.out hl)))
     unfold shpV at HOF
     have hMX' := Lib.hid hMX
     have hpre' := Lib.hid hpre
     have zE := World.block_lt_of_cell? _ _ gE
     have zT := World.block_lt_of_cell? _ _ gT
     have zN := World.block_lt_of_cell? _ _ gN
     have zU := World.block_lt_of_cell? _ _ gU
     have zY := World.block_lt_of_cell? _ _ gY
     have hszX := Below.size hBX
     obtain ⟨my, hmy⟩ : ∃ m, makesI y = m := ⟨_, rfl⟩
     obtain ⟨bi, hbi⟩ : ∃ m, belI op i.1 = m := ⟨_, rfl⟩
     rw [hmy] at HSO
     rw [hbi] at hidx
     have HRO := Lib.hid hro
     have HMY := Lib.hid hmy
     have HBI := Lib.hid hbi
     obtain ⟨pj, hpj⟩ : ∃ m, placeN j l i.1 = m := ⟨_, rfl⟩
     rw [hpj] at gY hplL ⊢
     clear g0' hy0 hpa hple hpp hpl hpj hmy hbi hro hBX hMX hpre e0 e1 e2 e3 e4 c1 c2 c4 hz hze
     by_cases hbad : my = bi
     ·subst hbad
      gi_wp2
      refine wpIn_region_plan 13 (.one [0, 1, 2, 3, 4, 6, 7, 10] 5 (.one [] 8 (.done [9, 11, 12]))) (by kernel_rfl) (by kernel_rfl) (by rintro ⟨_, _, h⟩; exact h) (fun _ _ d _ _ h => by cases d <;> exact h) ?_
      repeat' (first
       | ((first | refine plan_done (fun K hK => ?_) | refine plan_one (by rfl) (fun K hK => ?_)); (first | (simp only [zq9]; repeat (go_big_quiet_step (fail))) | simp only [pick_nil]); refine wpQuiet_nil (hK _ ?_); clear hK K)
       | ((with_reducible refine at_list ?_); go_wp2_with (first | (go_at_call 121; go_must (refine (HSO.out _ (by repeat (first | with_reducible (first | exact zq1 _ | assumption | refine zq2 ?_ | refine zq4 ?_ ?_ _ | refine zq5 ?_ _ | refine zq6 ?_ _ | refine zq7 ?_ | refine zq8 ?_ (by assumption)) | (simp only [zq10]; omega) | (simp; done) | (simp; omega)))).mono ?_; rintro e wa ⟨rfl, hba⟩; replace hba := Later.undrew hba; have aN := ((bcell hba).1 _ _ zN).trans gN; have zNa := Nat.lt_of_lt_of_le zN (Later.size hba))) | (go_at_call 122; go_must (refine (HOF.out _ (by repeat (first | with_reducible (first | exact zq1 _ | assumption | refine zq2 ?_ | refine zq4 ?_ ?_ _ | refine zq5 ?_ _ | refine zq6 ?_ _ | refine zq7 ?_ | refine zq8 ?_ (by assumption)) | (simp only [zq10]; omega) | (simp; done) | (simp; omega)))).mono ?_; rintro e wb ⟨rfl, hbb⟩))); first | refine behind_store (t := 13) (by decide) ?_ | refine behind (by with_reducible repeat (first | exact zq1 _ | assumption | refine zq2 ?_ | refine zq5 ?_ _ | refine zq6 ?_ _ | refine zq7 ?_ | refine zq8 ?_ (by assumption))) ?_))
      have hLL : Later W wb := hba.trans hbb
      have HLL := Lib.hid hLL
      clear hba hbb hLL
      gi_wp2
      refine ⟨keepsOthers_later HLL.out, ⟨Below.mono HLL.out hszX, ?_⟩, ⟨⟨((bcell HLL.out).1 _ _ zE).trans gE, ((bcell HLL.out).2 _ _ zE).trans gEf, ((bcell HLL.out).1 _ _ zT).trans gT, ((bcell HLL.out).1 _ _ zN).trans gN, ((bcell HLL.out).1 _ _ zU).trans gU, ?_⟩, below_later HXL.out hszX HLL.out⟩, hMX'.out.later HLL.out⟩
      ·intro c hc q
       obtain rfl : c = wr.heap.size + 1 := by simpa using hc
       exact (bcell HLL.out).1 _ _ zU
      ·refine Lib.hid (fun i' hi' => ?_)
       rcases List.mem_append.1 hi' with h | h
       ·exact hpre'.out i' h
       ·obtain rfl : i' = i := by simpa using h
        rw [HRO.out, HMY.out, HBI.out]
     ·have hb1 : (my == bi) = false := by simpa using hbad
      have hb2 : (my != bi) = true := by simpa using hbad
      have HBAD := Lib.hid hbad
      clear hbad
      gi_wp2
      refine wpIn_region_plan 13 (.one [0, 1, 2, 3, 4, 6, 7, 10] 5 (.one [] 8 (.done [9, 11, 12]))) (by kernel_rfl) (by kernel_rfl) (by rintro ⟨_, _, h⟩; exact h) (fun _ _ d _ _ h => by cases d <;> exact h) ?_
      repeat' (first
       | ((first | refine plan_done (fun K hK => ?_) | refine plan_one (by rfl) (fun K hK => ?_)); (first | (simp only [zq9]; repeat (go_big_quiet_step (fail))) | simp only [pick_nil]); refine wpQuiet_nil (hK _ ?_); clear hK K)
       | ((with_reducible refine at_list ?_); go_wp2_with (first | (go_at_call 121; go_must (refine (HSO.out _ (by repeat (first | with_reducible (first | exact zq1 _ | assumption | refine zq2 ?_ | refine zq4 ?_ ?_ _ | refine zq5 ?_ _ | refine zq6 ?_ _ | refine zq7 ?_ | refine zq8 ?_ (by assumption)) | (simp only [zq10]; omega) | (simp; done) | (simp; omega)))).mono ?_; rintro e wa ⟨rfl, hba⟩; replace hba := Later.undrew hba; have aN := ((bcell hba).1 _ _ zN).trans gN; have zNa := Nat.lt_of_lt_of_le zN (Later.size hba))) | (go_at_call 122; go_must (refine (HOF.out _ (by repeat (first | with_reducible (first | exact zq1 _ | assumption | refine zq2 ?_ | refine zq4 ?_ ?_ _ | refine zq5 ?_ _ | refine zq6 ?_ _ | refine zq7 ?_ | refine zq8 ?_ (by assumption)) | (simp only [zq10]; omega) | (simp; done) | (simp; omega)))).mono ?_; rintro e wb ⟨rfl, hbb⟩))); first | refine behind_store (t := 13) (by decide) ?_ | refine behind (by with_reducible repeat (first | exact zq1 _ | assumption | refine zq2 ?_ | refine zq5 ?_ _ | refine zq6 ?_ _ | refine zq7 ?_ | refine zq8 ?_ (by assumption))) ?_))
      have hLL : Later W wb := hba.trans hbb
      have HLL := Lib.hid hLL
      have qE := ((bcell hLL).1 _ _ zE).trans gE
      have qEf := ((bcell hLL).2 _ _ zE).trans gEf
      have qT := ((bcell hLL).1 _ _ zT).trans gT
      clear hba hbb hLL
      gi_wp2
      refine ⟨(keepsOthers_later HLL.out).trans (KeepsOthers.setCell _ _ _), ⟨⟨⟨rfl, i, ?_⟩, World.cell?_setCell_same' _ _ _ (by rw [qE]; rfl), (cell_other (by omega) _).trans qT⟩, (below_later HXL.out hszX HLL.out).setCell (p := ⟨w3.heap.size, 0, none⟩) (by show w.heap.size ≤ w3.heap.size; omega) _⟩, (hMX'.out.later HLL.out).others (KeepsOthers.setCell _ _ _)⟩
      rw [HRO.out, HMY.out, HBI.out]
      exact HBAD.out
    case done =>
     rintro D ys W hD rfl ⟨⟨⟨gE, gEf, gT, gN, gU, hpre⟩, hBX⟩, hMX⟩ hK
     gi_wp2
     refine ⟨⟨j + 1, D :: Ds, _, _, _, _, _, _, _, _, _, _, _, _, _, _, _, _, _, _, _, _, _, _, _, _, _, _, _, rfl, by omega, ?_, gT, gE, gEf, Lib.hid hBX, Lib.hid (Marks.cons hM0.out hMX (by omega) hD hK)⟩, by simp [intOf]; omega⟩
     refine Lib.hid (fun i s hi hs => ?_)
     by_cases hij : i = j
     ·subst hij
      rw [← TmAt.unique HS1.out hs]
      unfold Tm.top
      simp only [decide_eq_true_eq]
      exact fun k hk => hpre.out ⟨k, hk⟩ (List.mem_finRange _)
     ·exact htop.out i s (by omega) hs
    case stop =>
     rintro D c pre W hD _ ⟨⟨⟨⟨rfl, i, hbad⟩, gE, gT⟩, hBX⟩, hMX⟩ hK
     have hs : T.sorted = false := by
      cases hs : T.sorted with
      | false => rfl
      | true =>
       obtain ⟨hT1, hT2⟩ := treeOf_at HT.out
       have h8 := sorted_at hT1 hs (Nat.zero_le j) (by rw [hT2, HL.out]; omega) HS1.out
       unfold Tm.top at h8
       simp only [decide_eq_true_eq] at h8
       exact absurd (h8 i.1 i.2) hbad
     have hMC := Lib.hid (Marks.cons hM0.out hMX (by omega) hD hK)
     have HSS := Lib.hid hs
     clear hs hbad hMX hK
     gi_wp2
     go_wp2
     refine wp_calm ?_
     refine wp_region_plan 3 (.done [0, 1, 2]) (by kernel_rfl) (by kernel_rfl) (fun _ _ d _ _ h => by cases d <;> exact h) ?_
     repeat' (first
      | (refine plan_done (fun K hK => ?_); (first | (simp only [zq9]; repeat (go_big_quiet_step (fail))) | simp only [pick_nil]); refine wpQuiet_nil (hK _ ?_); clear hK K)
      | ((with_reducible refine at_list ?_); go_wp2_with (fail); first | refine behind_store (t := 3) (by decide) ?_ | refine behind (by with_reducible repeat (first | exact zq1 _ | assumption | refine zq2 ?_ | refine zq5 ?_ _ | refine zq6 ?_ _ | refine zq7 ?_ | refine zq8 ?_ (by assumption))) ?_))
     refine calm_intro ?_
     go_wp2
     rw [Exit.noGoto_ret]
     refine leaves_marks (lo := w.heap.size) (D :: Ds) W.drew (hMC.out.later ((Later.refl _).drew)) (fun W' _ hbw => ⟨_, results_tmp2 rfl _ _ _, ?_, Below.trans (Below.drew hBX) hbw⟩)
     rw [HSS.out, if_neg (by simp), if_neg (by simp)]
     rfl
   ·have hs : T.sorted = true := by
     cases hs : T.sorted with
     | true => rfl
     | false =>
      obtain ⟨hT1, hT2⟩ := treeOf_at HT.out
      obtain ⟨i, s, a1, a2, a3, a4⟩ := unsorted_at hT1 hs
      rw [htop.out i s (by rw [HL.out] at hT2; omega) a3] at a4
      cases a4
    obtain ⟨hT1, hT2⟩ := treeOf_at HT.out
    have HBL := Lib.hid (show Later w wr from hB.out)
    have HDE := Lib.hid (deep_any ts (by rw [HL.out]; omega) T 0 (.slice p L cp) wr hT1 (HS.out.later HBL.out) (HN.out.later HBL.out))
    obtain ⟨b, o, cp', hv, hb, hcap, g0, -⟩ := HN.out.full (i := 0) (by rw [HL.out]; omega)
    rw [HL.out] at hv
    cases hv
    have hr : (ts[0]'(by rw [HL.out]; omega)) = T.root := by
     obtain ⟨x, l⟩ := T
     have := hT1.root.1
     rw [List.getElem?_eq_getElem (by rw [HL.out]; omega)] at this
     exact Option.some.inj this
    rw [hr] at g0
    simp only [Nat.zero_mul, Nat.add_zero] at g0
    have HSO := Lib.hid (fun W hW => sort_any T.root.op W hW)
    have hs' : T.sorted = true := hs
    have hz := World.block_lt_of_cell? _ _ hTc
    have e0 := (Below.cell hB.out (p := ⟨b, o, none⟩) hb).trans g0
    have hsz := Below.size hB.out
    have HSS := Lib.hid hs'
    clear g0 htop hr hT1 hT2 hs hs'
    obtain ⟨mk, hmk⟩ : ∃ m, makesI T.root.op = m := ⟨_, rfl⟩
    rw [hmk] at HSO
    have HMK := Lib.hid hmk
    clear hmk
    generalize T.root.op = rop at HSO e0
    obtain ⟨dp, hdp⟩ : ∃ m, T.depth = m := ⟨_, rfl⟩
    rw [hdp] at HDE
    have HDP := Lib.hid hdp
    clear hdp
    gi_wp2
    go_wp2_with (first
     | (go_at_call 123; go_must (refine HDE.out.mono ?_; rintro e w5 ⟨rfl, hb5⟩; have t5 := ((bcell hb5).1 _ _ hz).trans hTc; have e5 := ((bcell hb5).1 _ _ (Nat.lt_of_lt_of_le hb hsz)).trans e0))
     | (go_at_call 121; go_must (refine (HSO.out _ (HS.out.later (HBL.out.trans hb5))).mono ?_; rintro e w6 ⟨rfl, hb6⟩)))
    ·rw [Exit.noGoto_ret]
     have hd12 : ¬ dp ≤ 12 := by omega
     refine leaves_marks (lo := w.heap.size) Ds w5 (hM.out.later hb5) (fun W' _ hbw => ⟨_, results_tmp2 rfl _ _ _, ?_, Below.trans (HBL.out.trans hb5) hbw⟩)
     rw [HSS.out, HDP.out, if_neg (by simp [hd12]), if_pos rfl, if_neg hd12]
     rfl
    ·rw [Exit.noGoto_ret]
     have hd12 : dp ≤ 12 := by omega
     refine leaves_marks (lo := w.heap.size) Ds w6 (hM.out.later (hb5.trans hb6)) (fun W' _ hbw => ⟨_, results_tmp2 rfl _ _ _, ?_, Below.trans (HBL.out.trans (hb5.trans hb6)) hbw⟩)
     rw [HSS.out, HDP.out, if_pos ⟨rfl, hd12⟩, if_pos rfl, if_pos hd12, HMK.out]
     rfl
end Go.Proofs.YtkjabiabeemfhaaGreatDoor
end
section
namespace Go.Proofs.YtkjabiabeemfhaaGreatDoor
open Go.RowKit
set_option maxRecDepth 100000
theorem tterm_any (ts : List Nd) (hlen : ts.length ≤ 100000) (hok : ∀ x ∈ ts, x.ok) (v : Value) (w : World) (hS : Shapes w) (hN : IsNodes w v ts) :
  Calls Tryz.prog 77 #[v] w fun e w' => e = .returned (.tuple #[.int .i64 (ofS ts), .int .i64 (ofE ts)]) ∧ Later w w' := by
 by_cases hg : 64 < ts.length
 ·have h1 : ofE ts = 15 := by unfold ofE; rw [if_pos hg]
  have h2 : ofS ts = 0 := by unfold ofS; rw [if_neg (by rw [h1]; decide)]
  rw [h1, h2]
  exact of_great ts v w hN hg hlen
 ·cases ht : treeOf ts with
  | none =>
   have h1 : ofE ts = 13 := by unfold ofE; rw [if_neg hg, ht]
   have h2 : ofS ts = 0 := by unfold ofS; rw [if_neg (by rw [h1]; decide)]
   rw [h1, h2]
   by_cases hne : ts.length = 0
   ·obtain rfl := List.eq_nil_of_length_eq_zero hne
    exact of_empty w v hN
   ·exact of_form ts v w hS hN (by omega) hne ht
  | some T =>
   cases hf : ts.all fieldsB with
   | false =>
    have h1 : ofE ts = 10 := by unfold ofE; rw [if_neg hg, ht]; simp [hf]
    have h2 : ofS ts = 0 := by unfold ofS; rw [if_neg (by rw [h1]; decide)]
    rw [h1, h2]
    exact of_range ts T v w hS hN hok (by omega) ht hf
   | true =>
    have h1 : ofE ts = (if T.sorted = true then (if T.depth ≤ 12 then 0 else 15) else 14) := by unfold ofE; rw [if_neg hg, ht]; simp only [hf, if_true]
    have h2 : ofS ts = (if T.sorted = true ∧ T.depth ≤ 12 then makesI T.root.op else 0) := by
     unfold ofS; rw [h1, ht]
     by_cases a : T.sorted = true <;> by_cases b : T.depth ≤ 12 <;> simp [a, b]
    rw [h1, h2]
    exact of_good ts T v w hS hN hok (by omega) ht hf
structure Good (ts : List Nd) (T : Tm) : Prop where
 tree : treeOf ts = some T
 len : ts.length ≤ 64
 fields : ∀ x ∈ ts, fieldsB x = true
 sorted : T.sorted = true
 depth : T.depth ≤ 12
theorem good_of {ts : List Nd} (h : ofE ts = 0) : ∃ T, Good ts T := by
 unfold ofE at h
 split at h
 ·cases h
 ·rename_i hg
  split at h
  ·cases h
  ·rename_i T ht
   split at h
   ·rename_i hf
    split at h
    ·rename_i hs
     split at h
     ·rename_i hd
      exact ⟨T, ht, by omega, fun x hx => (List.all_eq_true.1 hf) x hx, hs, hd⟩
     ·cases h
    ·cases h
   ·cases h
theorem Good.ofE {ts : List Nd} {T : Tm} (h : Good ts T) : ofE ts = 0 := by
 unfold Go.Proofs.YtkjabiabeemfhaaGreatDoor.ofE
 rw [if_neg (by have := h.len; omega), h.tree]
 simp only
 rw [if_pos (List.all_eq_true.2 h.fields), if_pos h.sorted, if_pos h.depth]
theorem Good.at {ts : List Nd} {T : Tm} (h : Good ts T) : TmAt ts 0 T ∧ T.size = ts.length := treeOf_at h.tree
end Go.Proofs.YtkjabiabeemfhaaGreatDoor
end
section
namespace Go.Proofs.YtkjabiabeemfhaaGreatDoor
open Go.RowKit
set_option maxRecDepth 100000
open Go.WideMaps Go.ChangeMaps
theorem laid_out : laidOutB Tryz.prog = true := by kernel_rfl
theorem place_deep : Tryz.prog.keyTypeAt 3 150 = true := by kernel_rfl
theorem place_row : (150 : TypeId) < Tryz.prog.types.size := of_decide_eq_true (by kernel_rfl)
theorem place_wide : (match Tryz.prog.underlying 150 with | some (.array _ _) | some (.struct _) => true | _ => false) = true := by kernel_rfl
theorem place_law : KL Tryz.prog 150 := KL.of (deep_law_laid laid_out (m := 3) (by omega) place_row place_deep place_wide)
def placeV (p : Int × Int) : Value := .agg #[.int .i64 p.1, .int .i64 p.2]
theorem placeV_inj (x y : Int × Int) (h : placeV x = placeV y) : x = y := by
 unfold placeV at h
 simp only [Value.agg.injEq, Array.mk.injEq, List.cons.injEq, Value.int.injEq, true_and, and_true] at h
 exact Prod.ext h.1 h.2
theorem wf_of {x : Int} (h : I64 x) : (Lit.int .i64 x).wf = true := WalkArith.wf_i64 h
theorem place_key (p : Int × Int) (h1 : I64 p.1) (h2 : I64 p.2) : ∃ lit, keyOf Tryz.prog 150 (placeV p) = some lit := by
 have hk : Tryz.prog.keyType 150 = true := by kernel_rfl
 have hc : Tryz.prog.cellsOf 150 = 2 := by kernel_rfl
 have hci : Tryz.prog.cellsOf 3 = 1 := by kernel_rfl
 have hf : (placeV p).formed Tryz.prog 150 = true := by simp [placeV, Value.formed, Tryz.underlying150, hc]
 obtain ⟨n, hn⟩ : ∃ n, Tryz.prog.types.size + 1 = n + 2 := ⟨Tryz.prog.types.size - 1, by have : 1 ≤ Tryz.prog.types.size := of_decide_eq_true (by kernel_rfl); omega⟩
 unfold keyOf
 rw [Tryz.underlying150]
 simp only [hk, hf, Bool.and_self, if_true, hn]
 simp [placeV, Value.cells, Program.keyLits, Tryz.underlying150, hc, hci, Tryz.underlying3, wf_of h1, wf_of h2]
def fixV (p : Int × Int) (v : Int × Int) : Value := .agg #[.int .i64 p.1, .int .i64 p.2, .int .i64 v.1, .int .i64 v.2]
def chV (p : Int × Int) (v : Int) : Value := .agg #[.int .i64 p.1, .int .i64 p.2, .int .i64 v]
abbrev FxMap (w : World) (b : Nat) (l : List ((Int × Int) × (Int × Int))) : Prop := MapL Tryz.prog 150 placeV fixV w b l
abbrev ChMap (w : World) (b : Nat) (l : List ((Int × Int) × Int)) : Prop := MapL Tryz.prog 150 placeV chV w b l
structure FactsAt (w : World) (p m1 m2 : Nat) (fx : List ((Int × Int) × (Int × Int))) (ch : List ((Int × Int) × Int)) : Prop where
 c0 : w.cell? ⟨p, 0, none⟩ = some (.map (some m1))
 c1 : w.cell? ⟨p, 1, none⟩ = some (.map (some m2))
 x1 : FxMap w m1 fx
 x2 : ChMap w m2 ch
 ne : m1 ≠ m2
theorem FactsAt.later {w w' : World} {p m1 m2 : Nat} {fx : List ((Int × Int) × (Int × Int))} {ch : List ((Int × Int) × Int)} (h : FactsAt w p m1 m2 fx ch) (hb : Later w w') : FactsAt w' p m1 m2 fx ch :=
 ⟨((bcell hb).1 _ _ (World.block_lt_of_cell? _ _ h.c0)).trans h.c0, ((bcell hb).1 _ _ (World.block_lt_of_cell? _ _ h.c1)).trans h.c1, h.x1.later hb, h.x2.later hb, h.ne⟩
theorem MapL.obj {κ β : Type} {P : Program} {k : TypeId} {ek : κ → Value} {ev : κ → β → Value} {w : World} {b : Nat} {l : List (κ × β)} (h : MapL P k ek ev w b l) : ∀ r, some b = some r → ∃ o : Obj, w.heap[r]? = some o ∧ o.isCells = false := by
 intro r e; cases e; obtain ⟨es, cl, h1, _⟩ := h; exact ⟨_, h1, rfl⟩
theorem grownBy_trans {w w' w'' : World} {row : Option Nat} (h : w.grownBy w' row) (k : w'.grownBy w'' row) : w.grownBy w'' row :=
 ⟨k.os.trans h.os, k.tape.trans h.tape, k.output.trans h.output, Nat.le_trans h.size k.size, fun i hi hn => (k.block i (Nat.lt_of_lt_of_le hi h.size) hn).trans (h.block i hi hn)⟩
theorem grownBy_later {w w' : World} (hb : Later w w') (row : Option Nat) : w.grownBy w' row := ⟨hb.os, hb.tape, hb.output, hb.size, fun k hk _ => hb.block k hk⟩
set_option maxHeartbeats 800000 in
theorem fnew_any (w : World) : Calls Tryz.prog 36 #[] w fun e w' => ∃ p m1 m2, e = .returned (.pointer (some ⟨p, 0, none⟩)) ∧ FactsAt w' p m1 m2 [] [] ∧ w.heap.size ≤ m1 ∧ w.heap.size ≤ m2 ∧ Later w w' := by
 have hmm := @run_makeMap Tryz.prog
 go_enter Tryz.func36, Tryz.ntmps36
 go_wp2
 go_ret
 refine ⟨w.heap.size + 1 + 1, w.heap.size, w.heap.size + 1, rfl, ?_, by omega, by omega, by repeat (first | with_reducible (first | exact zq1 _ | assumption | refine zq2 ?_ | refine zq4 ?_ ?_ _ | refine zq5 ?_ _ | refine zq6 ?_ _ | refine zq7 ?_ | refine zq8 ?_ (by assumption)) | (simp only [zq10]; omega) | (simp; done) | (simp; omega))⟩
 have h1 : FxMap (w.alloc (.map #[] 0)) w.heap.size [] := MapL.made w
 have h2 : ChMap ((w.alloc (.map #[] 0)).alloc (.map #[] 0)) (w.heap.size + 1) [] := by have := MapL.made (P := Tryz.prog) (k := 150) (ek := placeV) (ev := chV) (w.alloc (.map #[] 0)); rwa [World.size_alloc] at this
 have h3 := own_alloc ((w.alloc (.map #[] 0)).alloc (.map #[] 0)) #[.map (some w.heap.size), .map (some (w.heap.size + 1))] 148
 simp only [World.size_alloc] at h3
 obtain ⟨z, c, -⟩ := own_get h3
 exact ⟨c 0, c 1, h1.later (((Later.refl _).alloc _).alloc _), h2.later ((Later.refl _).alloc _), by omega⟩
def mayI (key day : Int) (right : Bool) : Int := if (decide (0 ≤ key) && decide (key ≤ 63) && right) = false then 10 else if (decide (0 ≤ day) && decide (day ≤ 73048)) = false then 18 else 0
set_option maxHeartbeats 1600000 in
theorem may_any (p : Addr) (key day : Int) (right : Bool) (w : World) : Calls Tryz.prog 111 #[.pointer (some p), .int .i64 key, .int .i64 day, .bool right] w fun e w' => e = .returned (.int .i64 (mayI key day right)) ∧ w = w' := by
 obtain ⟨r, hr⟩ : ∃ r, mayI key day right = r := ⟨_, rfl⟩
 rw [hr]
 unfold mayI at hr
 have HR := Lib.hid hr
 clear hr
 cases right
 all_goals
  go_enter Tryz.func111, Tryz.ntmps111
  go_wp2
  all_goals
   go_ret
   refine ⟨ret_int ?_, rfl⟩
   rw [← HR.out]
   clear HR
   simp
   try omega
end Go.Proofs.YtkjabiabeemfhaaGreatDoor
end
