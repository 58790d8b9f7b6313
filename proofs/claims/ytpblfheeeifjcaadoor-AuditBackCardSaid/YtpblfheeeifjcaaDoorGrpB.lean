/- audit.group -/
import Derived.Test.YtpblfheeeifjcaaDoorGrpA
set_option linter.all false
namespace Go.Proofs.YtpblfheeeifjcaaDoor
open Go.RowKit
set_option maxRecDepth 100000

theorem groups_step {l : List Rw} {j : Nat} (h : j < l.length) : (l.take (j + 1)).foldl addG [] = addG ((l.take j).foldl addG []) l[j] := by
  rw [List.take_add_one, List.getElem?_eq_getElem h, Option.toList_some, List.foldl_append]; rfl
theorem groups_bd : ∀ (l : List Rw) (gs : List (List Rw)), (l.foldl addG gs).length ≤ gs.length + l.length
  | [], gs => by simp
  | x :: t, gs => by
    rw [List.foldl_cons]
    refine Nat.le_trans (groups_bd t _) ?_
    have : (addG gs x).length ≤ gs.length + 1 := by
      unfold addG
      split
      · simp
      · split
        · simp
          try omega
        · simp
    rw [List.length_cons]; omega
theorem addG_nil (r : Rw) : addG [] r = [] ++ [[r]] := rfl
theorem addG_same {gs : List (List Rw)} {l : List Rw} {r : Rw} (h : gs.getLast? = some l) (hn : (hd l).no = r.no) : addG gs r = gs.dropLast ++ [l ++ [r]] := by unfold addG; rw [h]; simp only; rw [if_pos hn]
theorem addG_new {gs : List (List Rw)} {l : List Rw} {r : Rw} (h : gs.getLast? = some l) (hn : (hd l).no ≠ r.no) : addG gs r = gs ++ [[r]] := by unfold addG; rw [h]; simp only; rw [if_neg hn]
theorem hd_cell {w : World} {u : Value} {l : List Rw} (h : IsRow 9 rwF w u l) (hl : l ≠ []) : ∃ b o cap, u = .slice (some ⟨b, o, none⟩) l.length cap ∧ b < w.heap.size ∧ 0 < l.length ∧ ∀ k, k < 9 → w.cell? ⟨b, o + k, none⟩ = some (rwF (hd l) k) := by
  have h0 : 0 < l.length := List.length_pos_iff.2 hl
  obtain ⟨b, o, cap, e1, e2, e3⟩ := h.full h0
  refine ⟨b, o, cap, e1, e2, h0, fun k hk => ?_⟩
  have := e3 k hk
  rw [Nat.zero_mul, Nat.add_zero] at this
  rw [this]
  cases l with
  | nil => exact absurd rfl hl
  | cons x t => rfl


set_option maxHeartbeats 4000000 in
theorem group_any (l : List Rw) (hlen : l.length ≤ 10000) (v : Value) (w : World) (hN : IsRow 9 rwF w v l) :
    Calls Tryd.prog 24 #[v] w fun e w' => ∃ v', e = .returned v' ∧ GrAt w' v' (groups l) ∧ Later w w' := by
  obtain ⟨p, cp, rfl⟩ := hN.form
  have HN := Lib.hid hN
  clear hN
  obtain ⟨L, hL⟩ : ∃ L, l.length = L := ⟨_, rfl⟩
  rw [hL] at HN hlen ⊢
  have HL := Lib.hid hL
  clear hL
  go_enter Tryd.func24, Tryd.ntmps24
  go_wp2
  go_step3
  go_wp2
  go_step3
  go_wp2
  go_loopw [3, 9] (fun s3 s9 wr => ∃ j : Nat, j ≤ L ∧ s9 = .int .i64 j ∧ Hid (GrSt w wr s3 ((l.take j).foldl addG []))) (fun _ s9 _ => L - (intOf s9).toNat)
  case atStart => exact ⟨0, Nat.zero_le _, rfl, Lib.hid (.inl ⟨rfl, rfl, Later.refl _⟩)⟩
  case round =>
    obtain ⟨j, hj, rfl, hG⟩ := hrel
    have hlat := hG.out.lat
    by_cases hlt : j < L
    · have hjl : j < l.length := by rw [HL.out]; exact hlt
      obtain ⟨b, o, cp', hv, hb, g⟩ := HN.out.full (i := j) hjl
      rw [HL.out] at hv
      cases hv
      replace g := fun k (hk : k < 9) => ((bcell hlat).1 _ _ hb).trans (g k hk)
      have g0 := g 0 (by omega)
      have g1 := g 1 (by omega)
      have g2 := g 2 (by omega)
      have g3 := g 3 (by omega)
      have g4 := g 4 (by omega)
      have g5 := g 5 (by omega)
      have g6 := g 6 (by omega)
      have g7 := g 7 (by omega)
      have g8 := g 8 (by omega)
      simp only [rwF, Rw.nums, List.getD_cons_zero, List.getD_cons_succ, Nat.add_zero] at g0 g1 g2 g3 g4 g5 g6 g7 g8
      have hbw := Nat.lt_of_lt_of_le hb (Later.size hlat)
      have hbd : ((l.take j).foldl addG []).length ≤ 10000 := by
        have := groups_bd (l.take j) []
        rw [List.length_take] at this
        simp at this
        omega
      have HA := Lib.hid (groups_step hjl)
      have hflat : Hid (((l.take j).foldl addG []).flatten = l.take j) := Lib.hid (groups_sum (l.take j)).2
      have hlL := Lib.hid HL.out
      clear g HN HL hb
      generalize (l.take j).foldl addG [] = gs at *
      generalize l[j] = r at *
      obtain ⟨r0, r1, r2, r3, r4, r5, r6, r7, r8⟩ := r
      simp only at g0 g1 g2 g3 g4 g5 g6 g7 g8
      obtain ⟨xs, hM, hC⟩ := hG.out.out
      have HC8 := Lib.hid hC
      have HM8 := Lib.hid (fun W (hl : Later wr W) => hM.later hl)
      by_cases hgs : gs = []
      · subst hgs
        have hv0 := hG.out
        obtain ⟨pv, cv, rfl⟩ := hM.form
        rw [addG_nil] at HA
        clear hM hC hv0
        simp only [List.length_nil] at HM8 HC8 hbd ⊢
        go_upto_region 6 with (fail)
        refine wp_opaque (fun W8 hb8 => ?_)
        have hO8 := Own.one hb8
        have HO8 := Lib.hid hO8
        have hb9 := hb8.un1
        clear hb8
        obtain ⟨⟨z8, d8, f8⟩, -⟩ := hO8
        refine wp_region_plan 15 (.done [0, 1, 2, 3, 4, 5, 6, 7, 8, 9, 10, 11, 12, 13, 14]) (by kernel_rfl) (by kernel_rfl) (fun _ _ d _ _ h => by cases d <;> exact h) ?_
        repeat' (first
          | (refine plan_done (fun K hK => ?_); (first | (simp only [pick_cons, pick_nil, toList_some_append, List.getElem?_toArray, List.getElem?_cons_zero, List.getElem?_cons_succ]; repeat (go_big_quiet_step (fail))) | simp only [pick_nil]); refine wpQuiet_nil (hK _ ?_); clear hK K)
          | ((with_reducible refine at_list ?_); go_wp2_with (fail); first | refine behind_store (t := 15) (by decide) ?_ | refine behind (by repeat (first | with_reducible exact Later.refl _ | with_reducible assumption | with_reducible refine Later.ofdrew ?_ | with_reducible refine Later.ofdrewN ?_ | with_reducible refine Later.alloc ?_ _ | with_reducible refine Later.drewN ?_ _ | with_reducible refine Later.drew ?_ | (with_reducible refine Later.trans ?_ (by assumption)))) ?_))
        go_upto_region 8 with (fail)
        refine wp_opaque (fun W10 hb10 => ?_)
        obtain ⟨⟨z9, d9, f9⟩, -⟩ := HO8.out.later ((show Later W8 W8.drew by repeat (first | with_reducible exact Later.refl _ | with_reducible assumption | with_reducible refine Later.ofdrew ?_ | with_reducible refine Later.ofdrewN ?_ | with_reducible refine Later.setCell ?_ ?_ _ | with_reducible refine Later.alloc ?_ _ | with_reducible refine Later.drewN ?_ _ | with_reducible refine Later.drew ?_ | (with_reducible refine Later.trans ?_ (by assumption)) | (simp only [World.size_setCell, World.size_alloc, World.heap_drewN]; omega) | (simp; done) | (simp; omega))).trans hb10)
        have hw10 : Later wr W10 := Later.trans (by repeat (first | with_reducible exact Later.refl _ | with_reducible assumption | with_reducible refine Later.ofdrew ?_ | with_reducible refine Later.ofdrewN ?_ | with_reducible refine Later.setCell ?_ ?_ _ | with_reducible refine Later.alloc ?_ _ | with_reducible refine Later.drewN ?_ _ | with_reducible refine Later.drew ?_ | (with_reducible refine Later.trans ?_ (by assumption)) | (simp only [World.size_setCell, World.size_alloc, World.heap_drewN]; omega) | (simp; done) | (simp; omega))) ((show Later W8 W8.drew by repeat (first | with_reducible exact Later.refl _ | with_reducible assumption | with_reducible refine Later.ofdrew ?_ | with_reducible refine Later.ofdrewN ?_ | with_reducible refine Later.setCell ?_ ?_ _ | with_reducible refine Later.alloc ?_ _ | with_reducible refine Later.drewN ?_ _ | with_reducible refine Later.drew ?_ | (with_reducible refine Later.trans ?_ (by assumption)) | (simp only [World.size_setCell, World.size_alloc, World.heap_drewN]; omega) | (simp; done) | (simp; omega))).trans hb10)
        clear z8 d8 f8 hb10 HO8
        go_wp2_with (first | refine wpList_builtS (rw_one _ _ _ _ _ _ _ _ _ _) rfl rfl rfl ?_ | refine wpList_builtS (gr_one _ _ _ _) rfl rfl rfl ?_ | (at_builtin; go_must (refine wpList_pushAt sliceGr (HM8.out _ (by repeat (first | with_reducible exact Later.refl _ | with_reducible assumption | with_reducible refine Later.ofdrew ?_ | with_reducible refine Later.ofdrewN ?_ | with_reducible refine Later.setCell ?_ ?_ _ | with_reducible refine Later.alloc ?_ _ | with_reducible refine Later.drewN ?_ _ | with_reducible refine Later.drew ?_ | (with_reducible refine Later.trans ?_ (by assumption)) | (simp only [World.size_setCell, World.size_alloc, World.heap_drewN]; omega) | (simp; done) | (simp; omega)))) rfl _ _ rfl rfl 1 _ rfl (by simp) rfl (by simp [Value.oneCell']) (by omega) (by unfold maxLen; omega) ?_; intro v9 w9 hM9 hg9; obtain ⟨p9, cp9, rfl⟩ := hM9.form; have hG9 := Lib.hid (HC8.out _ w9 _ (⟨r0, r1, r2, r3, r4, r5, r6, r7, r8⟩ : Rw) (show Later wr _ by repeat (first | with_reducible exact Later.refl _ | with_reducible assumption | with_reducible refine Later.ofdrew ?_ | with_reducible refine Later.ofdrewN ?_ | with_reducible refine Later.setCell ?_ ?_ _ | with_reducible refine Later.alloc ?_ _ | with_reducible refine Later.drewN ?_ _ | with_reducible refine Later.drew ?_ | (with_reducible refine Later.trans ?_ (by assumption)) | (simp only [World.size_setCell, World.size_alloc, World.heap_drewN]; omega) | (simp; done) | (simp; omega))) hg9 hM9); clear hM9 hg9)))
        go_roundw
        case rel => exact ⟨j + 1, by omega, by go_num, Lib.hid (by rw [HA.out]; exact hG9.out)⟩
        case measure => simp [intOf]; omega
      · obtain ⟨g, cap, N, n, u, ll, hgl, hll, hgn, rfl, hgz, hgw, hcu, hown, hNw, hcont⟩ := hG.out.last hgs
        obtain ⟨hb2, ho2, hcap2, rfl, hbz, hl0, hc2⟩ := hd_cell (rowT_row hown).1 hll
        have hc20 := hc2 0 (by omega)
        simp only [rwF, Rw.nums, List.getD_cons_zero, Nat.add_zero] at hc20
        have hiN : IntKind.i64.wrap (((n + 1 : Nat) : Int) - 1) = n := by rw [show ((n + 1 : Nat) : Int) - 1 = n by omega]; exact IntWalk.i64_in _ (by omega)
        have hll3 : ll.length ≤ 10000 := by
          have h1 : (gs.flatten).length ≤ 10000 := by rw [hflat.out]; rw [List.length_take]; omega
          have h2 : ll ∈ gs := List.mem_of_getLast? hgl
          have h3 : ll.length ≤ gs.flatten.length := by
            obtain ⟨s, t, rfl⟩ := List.append_of_mem h2
            rw [List.flatten_append, List.flatten_cons, List.length_append, List.length_append]; omega
          omega
        by_cases hno : (hd ll).no = r0
        · rw [addG_same hgl hno] at HA
          have hnb : ((hd ll).no == r0) = true := by simpa using hno
          have HCONT := Lib.hid hcont
          have HOWN := Lib.hid (fun U (hl : Later wr U) => ownsRow_later hown hl)
          rw [hgn] at hbd
          have hll2 : ll.length ≤ 10000 := hll3
          clear hM hC HM8 HC8 hno hcont hown hgl hgs hgn hc2
          generalize (hd ll).no = ln at *
          generalize ll.length = M at *
          go_upto_region 6 with (fail)
          refine wp_opaque (fun W8 hb8 => ?_)
          have hO8 := Own.one hb8
          have HO8 := Lib.hid hO8
          have hb9 := hb8.un1
          clear hb8
          obtain ⟨⟨z8, d8, f8⟩, -⟩ := hO8
          have hcu8 := ((bcell hb9).1 _ _ hgz).trans hcu
          have hc8 := ((bcell hb9).1 _ _ hbz).trans hc20
          have hgz8 := Nat.lt_of_lt_of_le hgz (Later.size hb9)
          have hbz8 := Nat.lt_of_lt_of_le hbz (Later.size hb9)
          refine wp_region_plan 15 (.done [0, 1, 2, 3, 4, 5, 6, 7, 8, 9, 10, 11, 12, 13, 14]) (by kernel_rfl) (by kernel_rfl) (fun _ _ d _ _ h => by cases d <;> exact h) ?_
          repeat' (first
            | (refine plan_done (fun K hK => ?_); (first | (simp only [pick_cons, pick_nil, toList_some_append, List.getElem?_toArray, List.getElem?_cons_zero, List.getElem?_cons_succ]; repeat (go_big_quiet_step (fail))) | simp only [pick_nil]); refine wpQuiet_nil (hK _ ?_); clear hK K)
            | ((with_reducible refine at_list ?_); go_wp2_with (fail); first | refine behind_store (t := 15) (by decide) ?_ | refine behind (by repeat (first | with_reducible exact Later.refl _ | with_reducible assumption | with_reducible refine Later.ofdrew ?_ | with_reducible refine Later.ofdrewN ?_ | with_reducible refine Later.alloc ?_ _ | with_reducible refine Later.drewN ?_ _ | with_reducible refine Later.drew ?_ | (with_reducible refine Later.trans ?_ (by assumption)))) ?_))
          go_upto_region 7 with (fail)
          refine wp_opaque (fun W10 hb10 => ?_)
          have hl10 := (show Later W8 W8.drew by repeat (first | with_reducible exact Later.refl _ | with_reducible assumption | with_reducible refine Later.ofdrew ?_ | with_reducible refine Later.ofdrewN ?_ | with_reducible refine Later.setCell ?_ ?_ _ | with_reducible refine Later.alloc ?_ _ | with_reducible refine Later.drewN ?_ _ | with_reducible refine Later.drew ?_ | (with_reducible refine Later.trans ?_ (by assumption)) | (simp only [World.size_setCell, World.size_alloc, World.heap_drewN]; omega) | (simp; done) | (simp; omega))).trans hb10
          clear z8 d8 f8 hb10 hcu8 hc8 hgz8 hbz8
          refine W.wp_region_plan 10 (.two [0, 1, 3, 4, 5, 6, 7, 8] 2 (.one [] 9 (.one [] 10 (.one [] 11 (.one [] 12 (.done []))))) 9 (.two [] 2 (.one [] 10 (.one [] 11 (.one [] 12 (.done [])))) 10 (.one [] 2 (.one [] 11 (.one [] 12 (.done [])))))) (by kernel_rfl) (by kernel_rfl) (fun _ _ d _ _ h => by cases d <;> exact h) ?_
          refine W.open_drew (fun D hD => ?_)
          obtain ⟨⟨zD, dD, fD⟩, -⟩ := HO8.out.later (hl10.trans hD); have hwD : Later wr D := (hb9.trans hl10).trans hD; have cD := ((bcell hwD).1 _ _ hgz).trans hcu; have gD := Nat.lt_of_lt_of_le hgz (Later.size hwD); have szD := Nat.le_trans hNw (Later.size hwD)
          repeat' (first
            | (refine plan_done (fun K hK => ?_); (first | (simp only [pick_cons, pick_nil, toList_some_append, List.getElem?_toArray, List.getElem?_cons_zero, List.getElem?_cons_succ]; repeat (go_big_quiet_step (fail))) | simp only [pick_nil]); refine wpQuiet_nil (hK _ ?_); clear hK K)
            | (refine plan_one (by rfl) (fun K hK => ?_); (first | (simp only [pick_cons, pick_nil, toList_some_append, List.getElem?_toArray, List.getElem?_cons_zero, List.getElem?_cons_succ]; repeat (go_big_quiet_step (fail))) | simp only [pick_nil]); refine wpQuiet_nil (hK _ ?_); clear hK K)
            | (refine plan_two (by rfl) (by rfl) (fun K hK => ?_); (first | (simp only [pick_cons, pick_nil, toList_some_append, List.getElem?_toArray, List.getElem?_cons_zero, List.getElem?_cons_succ]; repeat (go_big_quiet_step (fail))) | simp only [pick_nil]); refine wpQuiet_nil (hK _ ?_); clear hK K; refine ⟨?_, ?_⟩)
            | ((with_reducible refine at_list ?_); (try simp only [List.getElem_toArray, List.getElem_cons_succ, List.getElem_cons_zero]); go_wp2_with (first | refine wpList_builtS (rw_one _ _ _ _ _ _ _ _ _ _) rfl rfl rfl ?_ | (at_builtin; go_must (refine wpList_pushB sliceRw (HOWN.out _ hwD) szD rfl _ _ rfl rfl 1 _ rfl (by simp) rfl (by simp [Value.oneCell']) (by omega) (by unfold maxLen; omega) ?_; intro v9 w9 hM9 hg9; obtain ⟨p9, cp9, rfl⟩ := ownsRow_form_ hM9; obtain ⟨⟨c9, fz9, zz9⟩, hG9⟩ := HCONT.out _ w9 _ (⟨r0, r1, r2, r3, r4, r5, r6, r7, r8⟩ : Rw) (show Later wr _ from hwD.alloc _) hg9 hM9; have HG9 := Lib.hid hG9; clear hG9 hM9 hg9))); first | refine behind_store (t := 10) (by decide) ?_ | refine behind (by repeat (first | with_reducible exact Later.refl _ | with_reducible assumption | with_reducible refine Later.ofdrew ?_ | with_reducible refine Later.ofdrewN ?_ | with_reducible refine Later.alloc ?_ _ | with_reducible refine Later.drewN ?_ _ | with_reducible refine Later.drew ?_ | (with_reducible refine Later.trans ?_ (by assumption)))) ?_))
          all_goals
            go_wp2
            go_roundw
            case rel => exact ⟨j + 1, by omega, by go_num, Lib.hid (by rw [HA.out]; exact HG9.out)⟩
            case measure => simp [intOf]; omega
        · rw [addG_new hgl hno] at HA
          have hnb : ((hd ll).no == r0) = false := by simpa using hno
          rw [hgn] at HM8 HC8 hbd
          clear hM hC hno hcont hown hgl hgs hgn hc2
          generalize (hd ll).no = ln at *
          go_upto_region 6 with (fail)
          refine wp_opaque (fun W8 hb8 => ?_)
          have hO8 := Own.one hb8
          have HO8 := Lib.hid hO8
          have hb9 := hb8.un1
          clear hb8
          obtain ⟨⟨z8, d8, f8⟩, -⟩ := hO8
          have hcu8 := ((bcell hb9).1 _ _ hgz).trans hcu
          have hc8 := ((bcell hb9).1 _ _ hbz).trans hc20
          have hgz8 := Nat.lt_of_lt_of_le hgz (Later.size hb9)
          have hbz8 := Nat.lt_of_lt_of_le hbz (Later.size hb9)
          clear hcu hc20 hgz hbz
          refine wp_region_plan 15 (.done [0, 1, 2, 3, 4, 5, 6, 7, 8, 9, 10, 11, 12, 13, 14]) (by kernel_rfl) (by kernel_rfl) (fun _ _ d _ _ h => by cases d <;> exact h) ?_
          repeat' (first
            | (refine plan_done (fun K hK => ?_); (first | (simp only [pick_cons, pick_nil, toList_some_append, List.getElem?_toArray, List.getElem?_cons_zero, List.getElem?_cons_succ]; repeat (go_big_quiet_step (fail))) | simp only [pick_nil]); refine wpQuiet_nil (hK _ ?_); clear hK K)
            | ((with_reducible refine at_list ?_); go_wp2_with (fail); first | refine behind_store (t := 15) (by decide) ?_ | refine behind (by repeat (first | with_reducible exact Later.refl _ | with_reducible assumption | with_reducible refine Later.ofdrew ?_ | with_reducible refine Later.ofdrewN ?_ | with_reducible refine Later.alloc ?_ _ | with_reducible refine Later.drewN ?_ _ | with_reducible refine Later.drew ?_ | (with_reducible refine Later.trans ?_ (by assumption)))) ?_))
          go_upto_region 8 with (fail)
          refine wp_opaque (fun W10 hb10 => ?_)
          obtain ⟨⟨z9, d9, f9⟩, -⟩ := HO8.out.later ((show Later W8 W8.drew by repeat (first | with_reducible exact Later.refl _ | with_reducible assumption | with_reducible refine Later.ofdrew ?_ | with_reducible refine Later.ofdrewN ?_ | with_reducible refine Later.setCell ?_ ?_ _ | with_reducible refine Later.alloc ?_ _ | with_reducible refine Later.drewN ?_ _ | with_reducible refine Later.drew ?_ | (with_reducible refine Later.trans ?_ (by assumption)) | (simp only [World.size_setCell, World.size_alloc, World.heap_drewN]; omega) | (simp; done) | (simp; omega))).trans hb10)
          have hw10 : Later wr W10 := Later.trans (by repeat (first | with_reducible exact Later.refl _ | with_reducible assumption | with_reducible refine Later.ofdrew ?_ | with_reducible refine Later.ofdrewN ?_ | with_reducible refine Later.setCell ?_ ?_ _ | with_reducible refine Later.alloc ?_ _ | with_reducible refine Later.drewN ?_ _ | with_reducible refine Later.drew ?_ | (with_reducible refine Later.trans ?_ (by assumption)) | (simp only [World.size_setCell, World.size_alloc, World.heap_drewN]; omega) | (simp; done) | (simp; omega))) ((show Later W8 W8.drew by repeat (first | with_reducible exact Later.refl _ | with_reducible assumption | with_reducible refine Later.ofdrew ?_ | with_reducible refine Later.ofdrewN ?_ | with_reducible refine Later.setCell ?_ ?_ _ | with_reducible refine Later.alloc ?_ _ | with_reducible refine Later.drewN ?_ _ | with_reducible refine Later.drew ?_ | (with_reducible refine Later.trans ?_ (by assumption)) | (simp only [World.size_setCell, World.size_alloc, World.heap_drewN]; omega) | (simp; done) | (simp; omega))).trans hb10)
          clear z8 d8 f8 hb10 HO8
          go_wp2_with (first | refine wpList_builtS (rw_one _ _ _ _ _ _ _ _ _ _) rfl rfl rfl ?_ | refine wpList_builtS (gr_one _ _ _ _) rfl rfl rfl ?_ | (at_builtin; go_must (refine wpList_pushAt sliceGr (HM8.out _ (by repeat (first | with_reducible exact Later.refl _ | with_reducible assumption | with_reducible refine Later.ofdrew ?_ | with_reducible refine Later.ofdrewN ?_ | with_reducible refine Later.setCell ?_ ?_ _ | with_reducible refine Later.alloc ?_ _ | with_reducible refine Later.drewN ?_ _ | with_reducible refine Later.drew ?_ | (with_reducible refine Later.trans ?_ (by assumption)) | (simp only [World.size_setCell, World.size_alloc, World.heap_drewN]; omega) | (simp; done) | (simp; omega)))) rfl _ _ rfl rfl 1 _ rfl (by simp) rfl (by simp [Value.oneCell']) (by omega) (by unfold maxLen; omega) ?_; intro v9 w9 hM9 hg9; obtain ⟨p9, cp9, rfl⟩ := hM9.form; have hG9 := Lib.hid (HC8.out _ w9 _ (⟨r0, r1, r2, r3, r4, r5, r6, r7, r8⟩ : Rw) (show Later wr _ by repeat (first | with_reducible exact Later.refl _ | with_reducible assumption | with_reducible refine Later.ofdrew ?_ | with_reducible refine Later.ofdrewN ?_ | with_reducible refine Later.setCell ?_ ?_ _ | with_reducible refine Later.alloc ?_ _ | with_reducible refine Later.drewN ?_ _ | with_reducible refine Later.drew ?_ | (with_reducible refine Later.trans ?_ (by assumption)) | (simp only [World.size_setCell, World.size_alloc, World.heap_drewN]; omega) | (simp; done) | (simp; omega))) hg9 hM9); clear hM9 hg9)))
          go_roundw
          case rel => exact ⟨j + 1, by omega, by go_num, Lib.hid (by rw [HA.out]; exact hG9.out)⟩
          case measure => simp [intOf]; omega
    · have HF := hG.out.at_
      rw [List.take_of_length_le (by rw [HL.out]; omega)] at HF
      replace HF := Lib.hid HF
      obtain ⟨xs, hM, -⟩ := hG.out.out
      obtain ⟨pv, cv, rfl⟩ := hM.form
      clear hM hG
      go_wp2
      rw [Exit.noGoto_ret]
      go_ret
      exact ⟨_, rfl, HF.out, hlat⟩

end Go.Proofs.YtpblfheeeifjcaaDoor
