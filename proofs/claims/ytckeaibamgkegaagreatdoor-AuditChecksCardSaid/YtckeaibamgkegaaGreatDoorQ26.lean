/- audit: mirrors, back, Check -/
import Derived.Test.YtckeaibamgkegaaGreatDoorQ25
set_option linter.all false
set_option linter.all false
section
/- audit: mirrors, back, Check -/
namespace Go.Proofs.YtckeaibamgkegaaGreatDoor
open Go.RowKit
set_option maxRecDepth 100000

def mirB (x y : Rw) : Bool := decide (x.con = y.con ∧ x.day = y.day ∧ x.cur = y.cur ∧ x.pty = y.pty ∧ x.amt = ng y.amt)
theorem mirR_eq (a b : List Rw) : mirR a b = (decide (a.length = b.length) && (a.zip b).all (fun p => mirB p.1 p.2)) := rfl


set_option maxHeartbeats 4000000 in
theorem mirrors1_any (x0 x1 x2 x3 x4 x5 x6 x7 x8 y0 y1 y2 y3 y4 y5 y6 y7 y8 : Int) (w : World) :
    Calls Tryz.prog 71 #[.agg #[.int .i64 x0, .int .i64 x1, .int .i64 x2, .int .i64 x3, .int .i64 x4, .int .i64 x5, .int .i64 x6, .int .i64 x7, .int .i64 x8], .agg #[.int .i64 y0, .int .i64 y1, .int .i64 y2, .int .i64 y3, .int .i64 y4, .int .i64 y5, .int .i64 y6, .int .i64 y7, .int .i64 y8]] w fun e w' => e = .returned (.bool (mirB (⟨x0, x1, x2, x3, x4, x5, x6, x7, x8⟩ : Rw) (⟨y0, y1, y2, y3, y4, y5, y6, y7, y8⟩ : Rw))) ∧ Later w w' := by
  obtain ⟨m, hm⟩ : ∃ m, wrap64 (-y8) = m := ⟨_, rfl⟩
  by_cases h3 : x3 = y3
  rotate_left
  · have hb3 : (x3 == y3) = false := by simpa using h3
    have hr : mirB (⟨x0, x1, x2, x3, x4, x5, x6, x7, x8⟩ : Rw) (⟨y0, y1, y2, y3, y4, y5, y6, y7, y8⟩ : Rw) = false := by unfold mirB; simp [ng, i64_wrap, *]
    rw [hr]
    clear hr
    go_enter Tryz.func71, Tryz.ntmps71
    go_wp2
    go_ret
    exact ⟨rfl, by repeat (first | with_reducible exact Later.refl _ | with_reducible assumption | with_reducible refine Later.ofdrew ?_ | with_reducible refine Later.ofdrewN ?_ | with_reducible refine Later.setCell ?_ ?_ _ | with_reducible refine Later.alloc ?_ _ | with_reducible refine Later.drewN ?_ _ | with_reducible refine Later.drew ?_ | (with_reducible refine Later.trans ?_ (by assumption)) | (simp only [World.size_setCell, World.size_alloc, World.heap_drewN]; omega) | (simp; done) | (simp; omega))⟩
  by_cases h4 : x4 = y4
  rotate_left
  · have hb4 : (x4 == y4) = false := by simpa using h4
    have hr : mirB (⟨x0, x1, x2, x3, x4, x5, x6, x7, x8⟩ : Rw) (⟨y0, y1, y2, y3, y4, y5, y6, y7, y8⟩ : Rw) = false := by unfold mirB; simp [ng, i64_wrap, *]
    rw [hr]
    clear hr
    go_enter Tryz.func71, Tryz.ntmps71
    go_wp2
    go_ret
    exact ⟨rfl, by repeat (first | with_reducible exact Later.refl _ | with_reducible assumption | with_reducible refine Later.ofdrew ?_ | with_reducible refine Later.ofdrewN ?_ | with_reducible refine Later.setCell ?_ ?_ _ | with_reducible refine Later.alloc ?_ _ | with_reducible refine Later.drewN ?_ _ | with_reducible refine Later.drew ?_ | (with_reducible refine Later.trans ?_ (by assumption)) | (simp only [World.size_setCell, World.size_alloc, World.heap_drewN]; omega) | (simp; done) | (simp; omega))⟩
  by_cases h7 : x7 = y7
  rotate_left
  · have hb7 : (x7 == y7) = false := by simpa using h7
    have hr : mirB (⟨x0, x1, x2, x3, x4, x5, x6, x7, x8⟩ : Rw) (⟨y0, y1, y2, y3, y4, y5, y6, y7, y8⟩ : Rw) = false := by unfold mirB; simp [ng, i64_wrap, *]
    rw [hr]
    clear hr
    go_enter Tryz.func71, Tryz.ntmps71
    go_wp2
    go_ret
    exact ⟨rfl, by repeat (first | with_reducible exact Later.refl _ | with_reducible assumption | with_reducible refine Later.ofdrew ?_ | with_reducible refine Later.ofdrewN ?_ | with_reducible refine Later.setCell ?_ ?_ _ | with_reducible refine Later.alloc ?_ _ | with_reducible refine Later.drewN ?_ _ | with_reducible refine Later.drew ?_ | (with_reducible refine Later.trans ?_ (by assumption)) | (simp only [World.size_setCell, World.size_alloc, World.heap_drewN]; omega) | (simp; done) | (simp; omega))⟩
  by_cases h6 : x6 = y6
  rotate_left
  · have hb6 : (x6 == y6) = false := by simpa using h6
    have hr : mirB (⟨x0, x1, x2, x3, x4, x5, x6, x7, x8⟩ : Rw) (⟨y0, y1, y2, y3, y4, y5, y6, y7, y8⟩ : Rw) = false := by unfold mirB; simp [ng, i64_wrap, *]
    rw [hr]
    clear hr
    go_enter Tryz.func71, Tryz.ntmps71
    go_wp2
    go_ret
    exact ⟨rfl, by repeat (first | with_reducible exact Later.refl _ | with_reducible assumption | with_reducible refine Later.ofdrew ?_ | with_reducible refine Later.ofdrewN ?_ | with_reducible refine Later.setCell ?_ ?_ _ | with_reducible refine Later.alloc ?_ _ | with_reducible refine Later.drewN ?_ _ | with_reducible refine Later.drew ?_ | (with_reducible refine Later.trans ?_ (by assumption)) | (simp only [World.size_setCell, World.size_alloc, World.heap_drewN]; omega) | (simp; done) | (simp; omega))⟩
  by_cases h8 : x8 = m
  rotate_left
  · have hb8 : (x8 == m) = false := by simpa using h8
    have hr : mirB (⟨x0, x1, x2, x3, x4, x5, x6, x7, x8⟩ : Rw) (⟨y0, y1, y2, y3, y4, y5, y6, y7, y8⟩ : Rw) = false := by unfold mirB; simp [ng, i64_wrap, *]
    rw [hr]
    clear hr
    go_enter Tryz.func71, Tryz.ntmps71
    go_wp2
    go_ret
    exact ⟨rfl, by repeat (first | with_reducible exact Later.refl _ | with_reducible assumption | with_reducible refine Later.ofdrew ?_ | with_reducible refine Later.ofdrewN ?_ | with_reducible refine Later.setCell ?_ ?_ _ | with_reducible refine Later.alloc ?_ _ | with_reducible refine Later.drewN ?_ _ | with_reducible refine Later.drew ?_ | (with_reducible refine Later.trans ?_ (by assumption)) | (simp only [World.size_setCell, World.size_alloc, World.heap_drewN]; omega) | (simp; done) | (simp; omega))⟩
  have hr : mirB (⟨x0, x1, x2, x3, x4, x5, x6, x7, x8⟩ : Rw) (⟨y0, y1, y2, y3, y4, y5, y6, y7, y8⟩ : Rw) = true := by unfold mirB; simp [ng, i64_wrap, *]
  rw [hr]
  clear hr
  go_enter Tryz.func71, Tryz.ntmps71
  go_wp2
  go_ret
  exact ⟨rfl, by repeat (first | with_reducible exact Later.refl _ | with_reducible assumption | with_reducible refine Later.ofdrew ?_ | with_reducible refine Later.ofdrewN ?_ | with_reducible refine Later.setCell ?_ ?_ _ | with_reducible refine Later.alloc ?_ _ | with_reducible refine Later.drewN ?_ _ | with_reducible refine Later.drew ?_ | (with_reducible refine Later.trans ?_ (by assumption)) | (simp only [World.size_setCell, World.size_alloc, World.heap_drewN]; omega) | (simp; done) | (simp; omega))⟩


set_option maxHeartbeats 4000000 in
theorem mirrors_ef (xs ys : List Rw) (hlen : xs.length ≤ 100000) (hlen2 : ys.length ≤ 100000) (v u : Value) (w : World) (hN : IsRow 9 rwF w v xs) (hM : IsRow 9 rwF w u ys) :
    Calls Tryz.prog 70 #[v, u, .func (.func 71) #[] #[]] w fun e w' => e = .returned (.bool (mirR xs ys)) ∧ Later w w' := by
  rw [mirR_eq]
  obtain ⟨p, cp, rfl⟩ := hN.form
  obtain ⟨q, cq, rfl⟩ := hM.form
  have HCL := Lib.hid (fun (x y : Rw) W => mirrors1_any x.no x.seq x.per x.con x.day x.ref x.pty x.cur x.amt y.no y.seq y.per y.con y.day y.ref y.pty y.cur y.amt W)
  by_cases hl : xs.length = ys.length
  · have HN := Lib.hid hN
    have HM := Lib.hid hM
    clear hN hM
    rw [decide_eq_true hl, Bool.true_and]
    rw [← hl] at HM hlen2 ⊢
    obtain ⟨L, hL⟩ : ∃ L, xs.length = L := ⟨_, rfl⟩
    rw [hL] at HN HM hlen hlen2 hl ⊢
    have HL := Lib.hid hL
    have HL2 := Lib.hid hl
    clear hL hl
    have HZ : Hid ((xs.zip ys).length = L) := Lib.hid (by rw [List.length_zip, HL.out, ← HL2.out]; exact Nat.min_self _)
    obtain ⟨r, hr⟩ : ∃ r, (xs.zip ys).all (fun p => mirB p.1 p.2) = r := ⟨_, rfl⟩
    rw [hr]
    have hr := Lib.hid hr
    go_enter Tryz.func70, Tryz.ntmps70
    go_wp2
    go_loopw [17] (fun s17 wr => ∃ j : Nat, j ≤ L ∧ s17 = .int .i64 j ∧ Hid (∀ i (h : i < (xs.zip ys).length), i < j → mirB (xs.zip ys)[i].1 (xs.zip ys)[i].2 = true) ∧ Later w wr) (fun s17 _ => L - (intOf s17).toNat)
    case atStart => exact ⟨0, Nat.zero_le _, rfl, Lib.hid (fun i _ h => by omega), Later.refl _⟩
    case round =>
      obtain ⟨j, hj, rfl, hall, hlat⟩ := hrel
      by_cases hlt : j < L
      · have hj1 : j < xs.length := by rw [HL.out]; exact hlt
        have hj2 : j < ys.length := by rw [← HL2.out]; exact hlt
        have hjz : j < (xs.zip ys).length := by rw [HZ.out]; exact hlt
        obtain ⟨b, o, cp', hv, hb, g⟩ := HN.out.full (i := j) hj1
        rw [HL.out] at hv
        cases hv
        obtain ⟨b', o', cq', hv, hb', k⟩ := HM.out.full (i := j) hj2
        rw [← HL2.out] at hv
        cases hv
        have g0 := ((bcell hlat).1 _ _ hb).trans (g 0 (by omega))
        have g1 := ((bcell hlat).1 _ _ hb).trans (g 1 (by omega))
        have g2 := ((bcell hlat).1 _ _ hb).trans (g 2 (by omega))
        have g3 := ((bcell hlat).1 _ _ hb).trans (g 3 (by omega))
        have g4 := ((bcell hlat).1 _ _ hb).trans (g 4 (by omega))
        have g5 := ((bcell hlat).1 _ _ hb).trans (g 5 (by omega))
        have g6 := ((bcell hlat).1 _ _ hb).trans (g 6 (by omega))
        have g7 := ((bcell hlat).1 _ _ hb).trans (g 7 (by omega))
        have g8 := ((bcell hlat).1 _ _ hb).trans (g 8 (by omega))
        have k0 := ((bcell hlat).1 _ _ hb').trans (k 0 (by omega))
        have k1 := ((bcell hlat).1 _ _ hb').trans (k 1 (by omega))
        have k2 := ((bcell hlat).1 _ _ hb').trans (k 2 (by omega))
        have k3 := ((bcell hlat).1 _ _ hb').trans (k 3 (by omega))
        have k4 := ((bcell hlat).1 _ _ hb').trans (k 4 (by omega))
        have k5 := ((bcell hlat).1 _ _ hb').trans (k 5 (by omega))
        have k6 := ((bcell hlat).1 _ _ hb').trans (k 6 (by omega))
        have k7 := ((bcell hlat).1 _ _ hb').trans (k 7 (by omega))
        have k8 := ((bcell hlat).1 _ _ hb').trans (k 8 (by omega))
        simp only [rwF, Rw.nums, List.getD_cons_zero, List.getD_cons_succ, Nat.add_zero] at g0 g1 g2 g3 g4 g5 g6 g7 g8 k0 k1 k2 k3 k4 k5 k6 k7 k8
        have hb := Nat.lt_of_lt_of_le hb (Later.size hlat)
        have hb' := Nat.lt_of_lt_of_le hb' (Later.size hlat)
        have HC := Lib.hid (fun W => HCL.out xs[j] ys[j] W)
        have hz1 : (xs.zip ys)[j] = (xs[j], ys[j]) := List.getElem_zip
        clear g k HN HM HCL
        cases hf : mirB xs[j] ys[j] with
        | true =>
          have HA : Hid (∀ i (h : i < (xs.zip ys).length), i < j + 1 → mirB (xs.zip ys)[i].1 (xs.zip ys)[i].2 = true) := Lib.hid (fun i h h3 => by
            by_cases h : i = j
            · subst h; rw [hz1]; exact hf
            · exact hall.out i _ (by omega))
          clear hall hz1 hr HL HL2 HZ
          generalize xs[j] = X at *
          generalize ys[j] = Y at *
          obtain ⟨x0, x1, x2, x3, x4, x5, x6, x7, x8⟩ := X
          obtain ⟨y0, y1, y2, y3, y4, y5, y6, y7, y8⟩ := Y
          simp only at g0 g1 g2 g3 g4 g5 g6 g7 g8 k0 k1 k2 k3 k4 k5 k6 k7 k8 HC
          rw [hf] at HC
          clear hf
          go_wp2_with (go_at_call 71; go_must (refine (HC.out _).mono ?_; rintro e w3 ⟨rfl, hb3⟩))
          go_roundw
          case rel => exact ⟨j + 1, by omega, by go_num, HA, by repeat (first | with_reducible exact Later.refl _ | with_reducible assumption | with_reducible refine Later.ofdrew ?_ | with_reducible refine Later.ofdrewN ?_ | with_reducible refine Later.setCell ?_ ?_ _ | with_reducible refine Later.alloc ?_ _ | with_reducible refine Later.drewN ?_ _ | with_reducible refine Later.drew ?_ | (with_reducible refine Later.trans ?_ (by assumption)) | (simp only [World.size_setCell, World.size_alloc, World.heap_drewN]; omega) | (simp; done) | (simp; omega))⟩
          case measure => simp [intOf]; omega
        | false =>
          have hr2 : r = false := by
            rw [← hr.out, List.all_eq_false]
            exact ⟨(xs.zip ys)[j], List.getElem_mem _, by rw [hz1]; simp [hf]⟩
          subst hr2
          clear hall hz1 hr HL HL2 HZ
          generalize xs[j] = X at *
          generalize ys[j] = Y at *
          obtain ⟨x0, x1, x2, x3, x4, x5, x6, x7, x8⟩ := X
          obtain ⟨y0, y1, y2, y3, y4, y5, y6, y7, y8⟩ := Y
          simp only at g0 g1 g2 g3 g4 g5 g6 g7 g8 k0 k1 k2 k3 k4 k5 k6 k7 k8 HC
          rw [hf] at HC
          clear hf
          go_wp2_with (go_at_call 71; go_must (refine (HC.out _).mono ?_; rintro e w3 ⟨rfl, hb3⟩))
          go_ret
          exact ⟨rfl, by repeat (first | with_reducible exact Later.refl _ | with_reducible assumption | with_reducible refine Later.ofdrew ?_ | with_reducible refine Later.ofdrewN ?_ | with_reducible refine Later.setCell ?_ ?_ _ | with_reducible refine Later.alloc ?_ _ | with_reducible refine Later.drewN ?_ _ | with_reducible refine Later.drew ?_ | (with_reducible refine Later.trans ?_ (by assumption)) | (simp only [World.size_setCell, World.size_alloc, World.heap_drewN]; omega) | (simp; done) | (simp; omega))⟩
      · have hr2 : r = true := by
          rw [← hr.out, List.all_eq_true]
          intro x hx
          obtain ⟨i, hi, rfl⟩ := List.getElem_of_mem hx
          exact hall.out i hi (by rw [HZ.out] at hi; omega)
        subst hr2
        clear hall hr
        go_wp2
        go_ret
        exact ⟨rfl, by repeat (first | with_reducible exact Later.refl _ | with_reducible assumption | with_reducible refine Later.ofdrew ?_ | with_reducible refine Later.ofdrewN ?_ | with_reducible refine Later.setCell ?_ ?_ _ | with_reducible refine Later.alloc ?_ _ | with_reducible refine Later.drewN ?_ _ | with_reducible refine Later.drew ?_ | (with_reducible refine Later.trans ?_ (by assumption)) | (simp only [World.size_setCell, World.size_alloc, World.heap_drewN]; omega) | (simp; done) | (simp; omega))⟩
  · have h1 : ((xs.length : Int) == (ys.length : Int)) = false := by rw [beq_eq_false_iff_ne]; omega
    have h2 : ((xs.length : Int) != (ys.length : Int)) = true := by rw [bne_iff_ne]; omega
    rw [decide_eq_false hl, Bool.false_and]
    clear hN hM HCL
    generalize xs.length = A at *
    generalize ys.length = B at *
    go_enter Tryz.func70, Tryz.ntmps70
    go_wp2
    go_ret
    exact ⟨rfl, by repeat (first | with_reducible exact Later.refl _ | with_reducible assumption | with_reducible refine Later.ofdrew ?_ | with_reducible refine Later.ofdrewN ?_ | with_reducible refine Later.setCell ?_ ?_ _ | with_reducible refine Later.alloc ?_ _ | with_reducible refine Later.drewN ?_ _ | with_reducible refine Later.drew ?_ | (with_reducible refine Later.trans ?_ (by assumption)) | (simp only [World.size_setCell, World.size_alloc, World.heap_drewN]; omega) | (simp; done) | (simp; omega))⟩

set_option maxHeartbeats 400000 in
theorem mirrors_rows (xs ys : List Rw) (hlen : xs.length ≤ 100000) (hlen2 : ys.length ≤ 100000) (v u : Value) (w : World) (hN : IsRow 9 rwF w v xs) (hM : IsRow 9 rwF w u ys) :
    Calls Tryz.prog 52 #[v, u] w fun e w' => e = .returned (.bool (mirR xs ys)) ∧ Later w w' := by
  have HC := Lib.hid (mirrors_ef xs ys hlen hlen2 v u w hN hM)
  obtain ⟨p, cp, rfl⟩ := hN.form
  obtain ⟨q, cq, rfl⟩ := hM.form
  clear hN hM
  generalize mirR xs ys = bb at *
  go_enter Tryz.func52, Tryz.ntmps52
  go_wp2_with (go_at_call 70; go_must (refine HC.out.mono ?_; rintro e w1 ⟨rfl, hb1⟩))
  go_ret
  exact ⟨rfl, by repeat (first | with_reducible exact Later.refl _ | with_reducible assumption | with_reducible refine Later.ofdrew ?_ | with_reducible refine Later.ofdrewN ?_ | with_reducible refine Later.setCell ?_ ?_ _ | with_reducible refine Later.alloc ?_ _ | with_reducible refine Later.drewN ?_ _ | with_reducible refine Later.drew ?_ | (with_reducible refine Later.trans ?_ (by assumption)) | (simp only [World.size_setCell, World.size_alloc, World.heap_drewN]; omega) | (simp; done) | (simp; omega))⟩


set_option maxHeartbeats 1600000 in
theorem back1_any (x : List Rw) (hx : x ≠ []) (B : Nat) (ref : Int) (u : Value) (w : World) (hc : w.cell? ⟨B, 0, none⟩ = some (.int .i64 ref)) (hu : IsRow 9 rwF w u x) :
    Calls Tryz.prog 51 #[u, .pointer (some ⟨B, 0, none⟩)] w fun e w' => e = .returned (.bool (decide ((hd x).ref = ref))) ∧ Later w w' := by
  obtain ⟨b, o, cap, rfl, hb, hl, g⟩ := hd_cell hu hx
  have zB := World.block_lt_of_cell? _ _ hc
  have g5 := g 5 (by omega)
  simp only [rwF, Rw.nums, List.getD_cons_zero, List.getD_cons_succ, Nat.add_zero] at g5
  clear g hu hx
  generalize (hd x).ref = n at *
  generalize x.length = L at *
  by_cases h : n = ref
  · subst h
    rw [decide_eq_true rfl]
    go_enter Tryz.func51, Tryz.ntmps51
    go_upto_region 1 with (fail)
    refine wp_region_plan 7 (.done [0, 1, 2, 3, 4, 5, 6]) (by kernel_rfl) (by kernel_rfl) (fun _ _ d _ _ h => by cases d <;> exact h) ?_
    repeat' (first
      | (refine plan_done (fun K hK => ?_); (first | (simp only [pick_cons, pick_nil, toList_some_append, List.getElem?_toArray, List.getElem?_cons_zero, List.getElem?_cons_succ]; repeat (go_big_quiet_step (fail))) | simp only [pick_nil]); refine wpQuiet_nil (hK _ ?_); clear hK K)
      | ((with_reducible refine at_list ?_); go_wp2_with (fail); first | refine behind_store (t := 7) (by decide) ?_ | refine behind (by repeat (first | with_reducible exact Later.refl _ | with_reducible assumption | with_reducible refine Later.ofdrew ?_ | with_reducible refine Later.ofdrewN ?_ | with_reducible refine Later.alloc ?_ _ | with_reducible refine Later.drewN ?_ _ | with_reducible refine Later.drew ?_ | (with_reducible refine Later.trans ?_ (by assumption)))) ?_))
    go_wp2
    go_ret
    exact ⟨rfl, by repeat (first | with_reducible exact Later.refl _ | with_reducible assumption | with_reducible refine Later.ofdrew ?_ | with_reducible refine Later.ofdrewN ?_ | with_reducible refine Later.setCell ?_ ?_ _ | with_reducible refine Later.alloc ?_ _ | with_reducible refine Later.drewN ?_ _ | with_reducible refine Later.drew ?_ | (with_reducible refine Later.trans ?_ (by assumption)) | (simp only [World.size_setCell, World.size_alloc, World.heap_drewN]; omega) | (simp; done) | (simp; omega))⟩
  · have hb : (n == ref) = false := by simpa using h
    rw [decide_eq_false h]
    go_enter Tryz.func51, Tryz.ntmps51
    go_upto_region 1 with (fail)
    refine wp_region_plan 7 (.done [0, 1, 2, 3, 4, 5, 6]) (by kernel_rfl) (by kernel_rfl) (fun _ _ d _ _ h => by cases d <;> exact h) ?_
    repeat' (first
      | (refine plan_done (fun K hK => ?_); (first | (simp only [pick_cons, pick_nil, toList_some_append, List.getElem?_toArray, List.getElem?_cons_zero, List.getElem?_cons_succ]; repeat (go_big_quiet_step (fail))) | simp only [pick_nil]); refine wpQuiet_nil (hK _ ?_); clear hK K)
      | ((with_reducible refine at_list ?_); go_wp2_with (fail); first | refine behind_store (t := 7) (by decide) ?_ | refine behind (by repeat (first | with_reducible exact Later.refl _ | with_reducible assumption | with_reducible refine Later.ofdrew ?_ | with_reducible refine Later.ofdrewN ?_ | with_reducible refine Later.alloc ?_ _ | with_reducible refine Later.drewN ?_ _ | with_reducible refine Later.drew ?_ | (with_reducible refine Later.trans ?_ (by assumption)))) ?_))
    go_wp2
    go_ret
    exact ⟨rfl, by repeat (first | with_reducible exact Later.refl _ | with_reducible assumption | with_reducible refine Later.ofdrew ?_ | with_reducible refine Later.ofdrewN ?_ | with_reducible refine Later.setCell ?_ ?_ _ | with_reducible refine Later.alloc ?_ _ | with_reducible refine Later.drewN ?_ _ | with_reducible refine Later.drew ?_ | (with_reducible refine Later.trans ?_ (by assumption)) | (simp only [World.size_setCell, World.size_alloc, World.heap_drewN]; omega) | (simp; done) | (simp; omega))⟩

set_option maxHeartbeats 1600000 in
theorem back1_idx (B : Nat) (ref : Int) (gs : List (List Rw)) (hlen : gs.length ≤ 100000) (v : Value) (w : World) (hG : GrAt w v gs) (hc : w.cell? ⟨B, 0, none⟩ = some (.int .i64 ref)) :
    Calls Tryz.prog 69 #[v, .func (.func 51) #[] #[.pointer (some ⟨B, 0, none⟩)]] w fun e w' => (∃ r : Int, e = .returned (.int .i64 r) ∧ decide (0 ≤ r) = gs.any (fun x => decide ((hd x).ref = ref))) ∧ Later w w' := by
  obtain ⟨p, cp, rfl⟩ := hG.form
  have HCL := Lib.hid (fun (x : List Rw) (hx : x ≠ []) W u (hl : Later w W) (hu : IsRow 9 rwF W u x) => back1_any x hx B ref u W (((bcell hl).1 _ _ (World.block_lt_of_cell? _ _ hc)).trans hc) hu)
  have HG := Lib.hid hG
  clear hG
  obtain ⟨L, hL⟩ : ∃ L, gs.length = L := ⟨_, rfl⟩
  rw [hL] at HG hlen ⊢
  have HL := Lib.hid hL
  clear hL
  go_enter Tryz.func69, Tryz.ntmps69
  go_wp2
  go_loopw [8] (fun s8 wr => ∃ j : Nat, j ≤ L ∧ s8 = .int .i64 j ∧ Hid (∀ i (h : i < gs.length), i < j → decide ((hd gs[i]).ref = ref) = false) ∧ Later w wr) (fun s8 _ => L - (intOf s8).toNat)
  case atStart => exact ⟨0, Nat.zero_le _, rfl, Lib.hid (fun i _ h => by omega), Later.refl _⟩
  case round =>
    obtain ⟨j, hj, rfl, hall, hlat⟩ := hrel
    by_cases hlt : j < L
    · have hjl : j < gs.length := by rw [HL.out]; exact hlt
      obtain ⟨b, o, cp', u, hv, hb, hcu, hne, hR⟩ := (HG.out.later hlat).full (i := j) hjl
      rw [HL.out] at hv
      cases hv
      have HC := Lib.hid (fun W (hl : Later wr W) => HCL.out gs[j] hne W u (hlat.trans hl) (hR.later hl))
      obtain ⟨pu, cu, rfl⟩ := hR.form
      clear HG HCL hR hne
      cases hf : decide ((hd gs[j]).ref = ref) with
      | false =>
        have HA : Hid (∀ i (h : i < gs.length), i < j + 1 → decide ((hd gs[i]).ref = ref) = false) := Lib.hid (fun i h1 h2 => by
          by_cases h : i = j
          · subst h; exact hf
          · exact hall.out i h1 (by omega))
        rw [hf] at HC
        clear hf hall HL
        generalize gs[j].length = gl at *
        go_wp2_with (go_at_call 51; go_must (refine (HC.out _ (by repeat (first | with_reducible exact Later.refl _ | with_reducible assumption | with_reducible refine Later.ofdrew ?_ | with_reducible refine Later.ofdrewN ?_ | with_reducible refine Later.setCell ?_ ?_ _ | with_reducible refine Later.alloc ?_ _ | with_reducible refine Later.drewN ?_ _ | with_reducible refine Later.drew ?_ | (with_reducible refine Later.trans ?_ (by assumption)) | (simp only [World.size_setCell, World.size_alloc, World.heap_drewN]; omega) | (simp; done) | (simp; omega)))).mono ?_; rintro e w3 ⟨rfl, hb3⟩))
        go_roundw
        case rel => exact ⟨j + 1, by omega, by go_num, HA, hlat.trans hb3⟩
        case measure => simp [intOf]; omega
      | true =>
        have HF : Hid (gs.any (fun x => decide ((hd x).ref = ref)) = true) := Lib.hid (List.any_eq_true.2 ⟨gs[j], List.getElem_mem _, hf⟩)
        rw [hf] at HC
        clear hf hall HL
        generalize gs[j].length = gl at *
        go_wp2_with (go_at_call 51; go_must (refine (HC.out _ (by repeat (first | with_reducible exact Later.refl _ | with_reducible assumption | with_reducible refine Later.ofdrew ?_ | with_reducible refine Later.ofdrewN ?_ | with_reducible refine Later.setCell ?_ ?_ _ | with_reducible refine Later.alloc ?_ _ | with_reducible refine Later.drewN ?_ _ | with_reducible refine Later.drew ?_ | (with_reducible refine Later.trans ?_ (by assumption)) | (simp only [World.size_setCell, World.size_alloc, World.heap_drewN]; omega) | (simp; done) | (simp; omega)))).mono ?_; rintro e w3 ⟨rfl, hb3⟩))
        go_ret
        exact ⟨⟨j, rfl, by rw [HF.out]; simp⟩, hlat.trans hb3⟩
    · have HF : Hid (gs.any (fun x => decide ((hd x).ref = ref)) = false) := Lib.hid (by
        rw [List.any_eq_false]
        intro r hr
        obtain ⟨i, hi, rfl⟩ := List.getElem_of_mem hr
        have := hall.out i hi (by rw [HL.out] at hi; omega)
        rw [this]; simp)
      clear hall
      go_wp2
      go_ret
      exact ⟨⟨-1, rfl, by rw [HF.out]; simp⟩, hlat⟩

set_option maxHeartbeats 400000 in
theorem back1_con (B : Nat) (ref : Int) (gs : List (List Rw)) (hlen : gs.length ≤ 100000) (v : Value) (w : World) (hG : GrAt w v gs) (hc : w.cell? ⟨B, 0, none⟩ = some (.int .i64 ref)) :
    Calls Tryz.prog 50 #[v, .func (.func 51) #[] #[.pointer (some ⟨B, 0, none⟩)]] w fun e w' => e = .returned (.bool (gs.any (fun x => decide ((hd x).ref = ref)))) ∧ Later w w' := by
  have HC := Lib.hid (back1_idx B ref gs hlen v w hG hc)
  obtain ⟨p, cp, rfl⟩ := hG.form
  clear hG hc
  generalize gs.any (fun x => decide ((hd x).ref = ref)) = bb at *
  go_enter Tryz.func50, Tryz.ntmps50
  go_wp2_with (go_at_call 69; go_must (refine HC.out.mono ?_; rintro e w1 ⟨⟨r, rfl, hr⟩, hb1⟩))
  go_ret
  exact ⟨by rw [← hr]; rfl, hb1⟩
theorem GrAt.take {w : World} {gs : List (List Rw)} {b o c : Nat} (h : GrAt w (.slice (some ⟨b, o, none⟩) gs.length c) gs) (hc : gs.length ≤ c) {i : Nat} (hi : i ≤ gs.length) : GrAt w (.slice (some ⟨b, o, none⟩) i c) (gs.take i) := by
  obtain ⟨xs, rfl, h2, h3⟩ := h
  rw [List.length_map] at hi h2
  refine ⟨xs.take i, List.map_take, ?_, fun x hx => h3 x (List.mem_of_mem_take hx)⟩
  rcases h2 with ⟨⟨p, h1⟩, h4⟩ | ⟨b', o', c', h1, h2, h3', h4, h5⟩
  · subst h4
    have hi0 : i = 0 := by simpa using hi
    subst hi0
    cases h1
    exact .inl ⟨⟨_, rfl⟩, rfl⟩
  · cases h1
    refine .inr ⟨b, o, c, by rw [List.length_take, Nat.min_eq_left hi], h2, by rw [List.length_take]; omega, h4, fun k hk j hj => ?_⟩
    rw [List.length_take] at hk
    rw [List.getElem_take]
    exact h5 k (by omega) j hj
theorem GrAt.cap {w : World} {gs : List (List Rw)} {b o n c : Nat} (h : GrAt w (.slice (some ⟨b, o, none⟩) n c) gs) : gs.length ≤ c ∧ c ≤ maxLen := by
  obtain ⟨xs, rfl, h2, _⟩ := h
  rcases h2 with ⟨⟨p, h1⟩, h4⟩ | ⟨b', o', c', h1, h2, h3', h4, h5⟩
  · subst h4
    cases h1
    exact ⟨by simp, Nat.zero_le _⟩
  · cases h1
    rw [List.length_map]
    exact ⟨h3', h4⟩


set_option maxHeartbeats 8000000 in
theorem back_any (gs : List (List Rw)) (i : Nat) (hi : i < gs.length) (hok : GrOk gs) (v : Value) (w : World) (hG : GrAt w v gs) :
    Calls Tryz.prog 20 #[v, .int .i64 i] w fun e w' => e = .returned (.int .i64 (backG gs i)) ∧ Later w w' := by
  have hmf : ∀ (fn : Fn) (first cap : Array Value) (w : World), (Instr.makeFunc fn first cap).run Tryz.prog w = .ok (.func fn first cap) w := fun _ _ _ _ => rfl
  obtain ⟨r, hr⟩ : ∃ r, backG gs i = r := ⟨_, rfl⟩
  rw [hr]
  unfold backG at hr
  rw [getD_at hi] at hr
  obtain ⟨b, o, cap, u, rfl, hb, hcu, hne, hR⟩ := hG.full hi
  obtain ⟨b2, o2, cap2, rfl, hzb, hl2, g⟩ := hd_cell hR hne
  have g5 := g 5 (by omega)
  simp only [rwF, Rw.nums, List.getD_cons_zero, List.getD_cons_succ, Nat.add_zero] at g5
  have hcap := hG.cap
  have hTK := hG.take hcap.1 (Nat.le_of_lt hi)
  obtain ⟨ref, href⟩ : ∃ ref, (hd gs[i]).ref = ref := ⟨_, rfl⟩
  simp only [href] at hr g5
  have hil : i < 10000 := Nat.lt_of_lt_of_le hi hok.1
  by_cases h1 : ref = -1
  · subst h1
    have hrv : r = 0 := by rw [← hr]; simp
    subst hrv
    clear hr hG hR hTK g href hok hne hcap
    generalize gs[i].length = xl at *
    generalize gs.length = gl at *
    go_enter Tryz.func20, Tryz.ntmps20
    go_upto_region 2 with (fail)
    refine wp_opaque (fun W8 hb8 => ?_)
    obtain ⟨⟨z8, d8, f8⟩, -⟩ := Own.one hb8
    have hb9 := hb8.un1
    have d80 := d8 0
    go_wp2
    go_ret
    exact ⟨rfl, by repeat (first | with_reducible exact Later.refl _ | with_reducible assumption | with_reducible refine Later.ofdrew ?_ | with_reducible refine Later.ofdrewN ?_ | with_reducible refine Later.setCell ?_ ?_ _ | with_reducible refine Later.alloc ?_ _ | with_reducible refine Later.drewN ?_ _ | with_reducible refine Later.drew ?_ | (with_reducible refine Later.trans ?_ (by assumption)) | (simp only [World.size_setCell, World.size_alloc, World.heap_drewN]; omega) | (simp; done) | (simp; omega))⟩
  · have h1b : (ref == -1) = false := by simpa using h1
    rw [if_neg h1] at hr
    by_cases h2 : ref < 0
    · have hrv : r = 16 := by rw [← hr, if_pos (.inl h2)]
      subst hrv
      clear hr hG hR hTK g href hok hne hcap
      generalize gs[i].length = xl at *
      generalize gs.length = gl at *
      go_enter Tryz.func20, Tryz.ntmps20
      go_upto_region 2 with (fail)
      refine wp_opaque (fun W8 hb8 => ?_)
      obtain ⟨⟨z8, d8, f8⟩, -⟩ := Own.one hb8
      have hb9 := hb8.un1
      have d80 := d8 0
      go_wp2
      go_ret
      exact ⟨rfl, by repeat (first | with_reducible exact Later.refl _ | with_reducible assumption | with_reducible refine Later.ofdrew ?_ | with_reducible refine Later.ofdrewN ?_ | with_reducible refine Later.setCell ?_ ?_ _ | with_reducible refine Later.alloc ?_ _ | with_reducible refine Later.drewN ?_ _ | with_reducible refine Later.drew ?_ | (with_reducible refine Later.trans ?_ (by assumption)) | (simp only [World.size_setCell, World.size_alloc, World.heap_drewN]; omega) | (simp; done) | (simp; omega))⟩
    · by_cases h3 : (i : Int) ≤ ref
      · have hrv : r = 16 := by rw [← hr, if_pos (.inr h3)]
        subst hrv
        clear hr hG hR hTK g href hok hne hcap
        generalize gs[i].length = xl at *
        generalize gs.length = gl at *
        go_enter Tryz.func20, Tryz.ntmps20
        go_upto_region 2 with (fail)
        refine wp_opaque (fun W8 hb8 => ?_)
        obtain ⟨⟨z8, d8, f8⟩, -⟩ := Own.one hb8
        have hb9 := hb8.un1
        have d80 := d8 0
        go_wp2
        go_ret
        exact ⟨rfl, by repeat (first | with_reducible exact Later.refl _ | with_reducible assumption | with_reducible refine Later.ofdrew ?_ | with_reducible refine Later.ofdrewN ?_ | with_reducible refine Later.setCell ?_ ?_ _ | with_reducible refine Later.alloc ?_ _ | with_reducible refine Later.drewN ?_ _ | with_reducible refine Later.drew ?_ | (with_reducible refine Later.trans ?_ (by assumption)) | (simp only [World.size_setCell, World.size_alloc, World.heap_drewN]; omega) | (simp; done) | (simp; omega))⟩
      · rw [if_neg (by rintro (h | h) <;> omega)] at hr
        obtain ⟨k, rfl⟩ : ∃ k : Nat, ref = k := ⟨ref.toNat, by omega⟩
        have hki : k < i := by omega
        have hkl : k < gs.length := Nat.lt_trans hki hi
        rw [Int.toNat_natCast, getD_at hkl] at hr
        obtain ⟨bp, op, capp, up, hvp, hbp', hcup, hnep, hRp⟩ := hG.full (i := k) hkl
        cases hvp
        obtain ⟨b3, o3, cap3, rfl, hbq, hl3, gp⟩ := hd_cell hRp hnep
        have p5 := gp 5 (by omega)
        simp only [rwF, Rw.nums, List.getD_cons_zero, List.getD_cons_succ, Nat.add_zero] at p5
        have HQ0 := Lib.hid (fun W (hl : Later w W) => ((bcell hl).1 _ _ hb).trans hcup)
        have HQ1 := Lib.hid (fun W (hl : Later w W) => ((bcell hl).1 _ _ hbq).trans p5)
        have HC0 := Lib.hid (fun W (hl : Later w W) => ((bcell hl).1 _ _ hb).trans hcu)
        have HCON := Lib.hid (fun W (hl : Later w W) (B : Nat) (hc : W.cell? ⟨B, 0, none⟩ = some (.int .i64 (k : Int))) => back1_con B k (gs.take i) (by rw [List.length_take]; omega) _ W (hTK.later hl) hc)
        have HMIR := Lib.hid (fun W (hl : Later w W) => mirrors_rows gs[k] gs[i] (Nat.le_trans (hok.2 _ (List.getElem_mem _)).1 (by omega)) (Nat.le_trans (hok.2 _ (List.getElem_mem _)).1 (by omega)) _ _ W (hRp.later hl) (hR.later hl))
        obtain ⟨glr, hglr⟩ : ∃ n, gs.length = n := ⟨_, rfl⟩
        have hgi : i < glr := by omega
        have hcl : glr ≤ cap := by rw [← hglr]; exact hcap.1
        have hcm := hcap.2
        clear hcap
        rw [hglr]
        clear hG hR hTK hRp g gp p5 hcup h1 h2 h3 hnep hne href
        generalize (gs.take i).any (fun g => decide ((hd g).ref = (k : Int))) = an at *
        generalize (hd gs[k]).ref = kr at *
        generalize mirR gs[k] gs[i] = mm at *
        generalize gs[i].length = xl at *
        generalize gs[k].length = xk at *
        clear hok hglr
        cases an
        · by_cases h4 : kr = -1
          · subst h4
            cases mm
            all_goals
              first | (have hrv : r = 20 := by rw [← hr]; simp) | (have hrv : r = 0 := by rw [← hr]; simp)
              subst hrv
              clear hr
              go_enter Tryz.func20, Tryz.ntmps20
              go_upto_region 2 with (fail)
              refine wp_opaque (fun W8 hb8 => ?_)
              obtain ⟨⟨z8, d8, f8⟩, -⟩ := Own.one hb8
              have hb9 := hb8.un1
              have d80 := d8 0
              go_upto_region 10 with ((go_at_call 50; go_must (refine (HCON.out _ hb9 _ (by assumption)).mono ?_; rintro e w2 ⟨rfl, hb2⟩; obtain ⟨⟨z2, d2, f2⟩, -⟩ := (Own.one hb8).later hb2; have hw2 := hb9.trans hb2; have q0 := HQ0.out w2 hw2; have q1 := HQ1.out w2 hw2; have zb2 := Nat.lt_of_lt_of_le hb (Later.size hw2); have zq2 := Nat.lt_of_lt_of_le hbq (Later.size hw2))))
              refine wp_opaque (fun W5 hb5 => ?_)
              have hw5 := hw2.trans hb5
              obtain ⟨⟨z5, d5, f5⟩, -⟩ := ((Own.one hb8).later hb2).later hb5
              clear q0 q1 zb2 zq2 z2 d2 f2 z8 d8 f8 d80
              have q0 := HQ0.out W5 hw5
              have q2 := HC0.out W5 hw5
              have zb5 := Nat.lt_of_lt_of_le hb (Later.size hw5)
              refine wp_region_plan 11 (.one [0, 1, 2, 3, 4, 5, 6, 7] 8 (.done [9, 10])) (by kernel_rfl) (by kernel_rfl) (fun _ _ d _ _ h => by cases d <;> exact h) ?_
              repeat' (first
                | (refine plan_done (fun K hK => ?_); (first | (simp only [pick_cons, pick_nil, toList_some_append, List.getElem?_toArray, List.getElem?_cons_zero, List.getElem?_cons_succ]; repeat (go_big_quiet_step (fail))) | simp only [pick_nil]); refine wpQuiet_nil (hK _ ?_); clear hK K)
                | (refine plan_one (by rfl) (fun K hK => ?_); (first | (simp only [pick_cons, pick_nil, toList_some_append, List.getElem?_toArray, List.getElem?_cons_zero, List.getElem?_cons_succ]; repeat (go_big_quiet_step (fail))) | simp only [pick_nil]); refine wpQuiet_nil (hK _ ?_); clear hK K)
                | ((with_reducible refine at_list ?_); go_wp2_with ((go_at_call 52; go_must (refine (HMIR.out _ (by repeat (first | with_reducible exact Later.refl _ | with_reducible assumption | with_reducible refine Later.ofdrew ?_ | with_reducible refine Later.ofdrewN ?_ | with_reducible refine Later.setCell ?_ ?_ _ | with_reducible refine Later.alloc ?_ _ | with_reducible refine Later.drewN ?_ _ | with_reducible refine Later.drew ?_ | (with_reducible refine Later.trans ?_ (by assumption)) | (simp only [World.size_setCell, World.size_alloc, World.heap_drewN]; omega) | (simp; done) | (simp; omega)))).mono ?_; rintro e w6 ⟨rfl, hb6⟩))); first | refine behind_store (t := 11) (by decide) ?_ | refine behind (by repeat (first | with_reducible exact Later.refl _ | with_reducible assumption | with_reducible refine Later.ofdrew ?_ | with_reducible refine Later.ofdrewN ?_ | with_reducible refine Later.alloc ?_ _ | with_reducible refine Later.drewN ?_ _ | with_reducible refine Later.drew ?_ | (with_reducible refine Later.trans ?_ (by assumption)))) ?_))
              all_goals
                go_wp2
                go_ret
                exact ⟨rfl, by repeat (first | with_reducible exact Later.refl _ | with_reducible assumption | with_reducible refine Later.ofdrew ?_ | with_reducible refine Later.ofdrewN ?_ | with_reducible refine Later.setCell ?_ ?_ _ | with_reducible refine Later.alloc ?_ _ | with_reducible refine Later.drewN ?_ _ | with_reducible refine Later.drew ?_ | (with_reducible refine Later.trans ?_ (by assumption)) | (simp only [World.size_setCell, World.size_alloc, World.heap_drewN]; omega) | (simp; done) | (simp; omega))⟩
          · have hkb : (kr == -1) = false := by simpa using h4
            have hrv : r = 24 := by rw [← hr]; simp [h4]
            subst hrv
            clear hr
            go_enter Tryz.func20, Tryz.ntmps20
            go_upto_region 2 with (fail)
            refine wp_opaque (fun W8 hb8 => ?_)
            obtain ⟨⟨z8, d8, f8⟩, -⟩ := Own.one hb8
            have hb9 := hb8.un1
            have d80 := d8 0
            go_wp2_with ((go_at_call 50; go_must (refine (HCON.out _ hb9 _ (by assumption)).mono ?_; rintro e w2 ⟨rfl, hb2⟩; obtain ⟨⟨z2, d2, f2⟩, -⟩ := (Own.one hb8).later hb2; have hw2 := hb9.trans hb2; have q0 := HQ0.out w2 hw2; have q1 := HQ1.out w2 hw2; have zb2 := Nat.lt_of_lt_of_le hb (Later.size hw2); have zq2 := Nat.lt_of_lt_of_le hbq (Later.size hw2))))
            go_ret
            exact ⟨rfl, by repeat (first | with_reducible exact Later.refl _ | with_reducible assumption | with_reducible refine Later.ofdrew ?_ | with_reducible refine Later.ofdrewN ?_ | with_reducible refine Later.setCell ?_ ?_ _ | with_reducible refine Later.alloc ?_ _ | with_reducible refine Later.drewN ?_ _ | with_reducible refine Later.drew ?_ | (with_reducible refine Later.trans ?_ (by assumption)) | (simp only [World.size_setCell, World.size_alloc, World.heap_drewN]; omega) | (simp; done) | (simp; omega))⟩
        · have hrv : r = 17 := by rw [← hr]; simp
          subst hrv
          clear hr
          go_enter Tryz.func20, Tryz.ntmps20
          go_upto_region 2 with (fail)
          refine wp_opaque (fun W8 hb8 => ?_)
          obtain ⟨⟨z8, d8, f8⟩, -⟩ := Own.one hb8
          have hb9 := hb8.un1
          have d80 := d8 0
          go_wp2_with ((go_at_call 50; go_must (refine (HCON.out _ hb9 _ (by assumption)).mono ?_; rintro e w2 ⟨rfl, hb2⟩; obtain ⟨⟨z2, d2, f2⟩, -⟩ := (Own.one hb8).later hb2; have hw2 := hb9.trans hb2; have q0 := HQ0.out w2 hw2; have q1 := HQ1.out w2 hw2; have zb2 := Nat.lt_of_lt_of_le hb (Later.size hw2); have zq2 := Nat.lt_of_lt_of_le hbq (Later.size hw2))))
          go_ret
          exact ⟨rfl, by repeat (first | with_reducible exact Later.refl _ | with_reducible assumption | with_reducible refine Later.ofdrew ?_ | with_reducible refine Later.ofdrewN ?_ | with_reducible refine Later.setCell ?_ ?_ _ | with_reducible refine Later.alloc ?_ _ | with_reducible refine Later.drewN ?_ _ | with_reducible refine Later.drew ?_ | (with_reducible refine Later.trans ?_ (by assumption)) | (simp only [World.size_setCell, World.size_alloc, World.heap_drewN]; omega) | (simp; done) | (simp; omega))⟩

set_option maxHeartbeats 2000000 in
theorem check_rows (l : List Rw) (hlen : l.length ≤ 10000) (hw : ∀ r ∈ l, r.ok) (v : Value) (w : World) (hN : IsRow 9 rwF w v l) :
    Calls Tryz.prog 6 #[v] w fun e w' => e = .returned (.int .i64 (checkG (groups l))) ∧ Later w w' := by
  have HGR := Lib.hid (fun W (hl : Later w W) => group_any l hlen v W (hN.later hl))
  obtain ⟨p, cp, rfl⟩ := hN.form
  have hok : GrOk (groups l) := groups_ok l hlen hw
  clear hN
  generalize groups l = gs at *
  obtain ⟨r, hr⟩ : ∃ r, checkG gs = r := ⟨_, rfl⟩
  rw [hr]
  have hr := Lib.hid hr
  have HOWN := Lib.hid (fun (i : Nat) (hi : i < gs.length) v W (hG : GrAt W v gs) => own_any gs i hi hok v W hG)
  have HBACK := Lib.hid (fun (i : Nat) (hi : i < gs.length) v W (hG : GrAt W v gs) => back_any gs i hi hok v W hG)
  have hgl := hok.1
  clear hok
  go_enter Tryz.func6, Tryz.ntmps6
  go_upto_region 2 with (go_at_call 18; go_must (refine (HGR.out _ (by repeat (first | with_reducible exact Later.refl _ | with_reducible assumption | with_reducible refine Later.ofdrew ?_ | with_reducible refine Later.ofdrewN ?_ | with_reducible refine Later.setCell ?_ ?_ _ | with_reducible refine Later.alloc ?_ _ | with_reducible refine Later.drewN ?_ _ | with_reducible refine Later.drew ?_ | (with_reducible refine Later.trans ?_ (by assumption)) | (simp only [World.size_setCell, World.size_alloc, World.heap_drewN]; omega) | (simp; done) | (simp; omega)))).mono ?_; rintro e w1 ⟨v1, rfl, hG1, hb1⟩; obtain ⟨p1, c1, rfl⟩ := hG1.form; have HG1 := Lib.hid hG1; clear hG1))
  go_wp2
  obtain ⟨GL, hGL⟩ : ∃ n, gs.length = n := ⟨_, rfl⟩
  rw [hGL] at HG1 hgl ⊢
  have HGL := Lib.hid hGL
  clear hGL
  go_loopw [11] (fun s11 wr => ∃ j : Nat, j ≤ GL ∧ s11 = .int .i64 j ∧ Hid (∀ i, i < j → ruleG gs i = 0) ∧ Later w1 wr) (fun s11 _ => GL - (intOf s11).toNat)
  case atStart => exact ⟨0, Nat.zero_le _, rfl, Lib.hid (fun i h => by omega), Later.refl _⟩
  case round =>
    obtain ⟨j, hj, rfl, hall, hlat⟩ := hrel
    by_cases hlt : j < GL
    · have hjl : j < gs.length := by rw [HGL.out]; exact hlt
      have HO := Lib.hid (fun W (hl : Later wr W) => HOWN.out j hjl _ W (HG1.out.later (hlat.trans hl)))
      have HB := Lib.hid (fun W (hl : Later wr W) => HBACK.out j hjl _ W (HG1.out.later (hlat.trans hl)))
      have hFIRST := Lib.hid (fun (h : ruleG gs j ≠ 0) => checkG_first hjl hall.out h)
      have hrule : Hid (ruleG gs j = if ownG gs j ≠ 0 then ownG gs j else backG gs j) := Lib.hid rfl
      clear HOWN HBACK HG1 HGR
      obtain ⟨ru, hru⟩ : ∃ n, ruleG gs j = n := ⟨_, rfl⟩
      rw [hru] at hFIRST hrule
      have HALL : ru = 0 → Hid (∀ i, i < j + 1 → ruleG gs i = 0) := fun h0 => Lib.hid (fun i hi => by
        by_cases h : i = j
        · subst h; rw [hru]; exact h0
        · exact hall.out i (by omega))
      clear hru hall
      generalize ownG gs j = a at *
      generalize backG gs j = c at *
      by_cases ha : a = 0
      · subst ha
        by_cases hc : c = 0
        · subst hc
          have hA := HALL (by rw [hrule.out]; simp)
          clear HALL hFIRST hrule hr
          go_wp2_with (first | (go_at_call 19; go_must (refine (HO.out _ (by repeat (first | with_reducible exact Later.refl _ | with_reducible assumption | with_reducible refine Later.ofdrew ?_ | with_reducible refine Later.ofdrewN ?_ | with_reducible refine Later.setCell ?_ ?_ _ | with_reducible refine Later.alloc ?_ _ | with_reducible refine Later.drewN ?_ _ | with_reducible refine Later.drew ?_ | (with_reducible refine Later.trans ?_ (by assumption)) | (simp only [World.size_setCell, World.size_alloc, World.heap_drewN]; omega) | (simp; done) | (simp; omega)))).mono ?_; rintro e w2 ⟨rfl, hb2⟩)) | (go_at_call 20; go_must (refine (HB.out _ (by repeat (first | with_reducible exact Later.refl _ | with_reducible assumption | with_reducible refine Later.ofdrew ?_ | with_reducible refine Later.ofdrewN ?_ | with_reducible refine Later.setCell ?_ ?_ _ | with_reducible refine Later.alloc ?_ _ | with_reducible refine Later.drewN ?_ _ | with_reducible refine Later.drew ?_ | (with_reducible refine Later.trans ?_ (by assumption)) | (simp only [World.size_setCell, World.size_alloc, World.heap_drewN]; omega) | (simp; done) | (simp; omega)))).mono ?_; rintro e w3 ⟨rfl, hb3⟩)))
          go_roundw
          case rel => exact ⟨j + 1, by omega, by go_num, hA, by repeat (first | with_reducible exact Later.refl _ | with_reducible assumption | with_reducible refine Later.ofdrew ?_ | with_reducible refine Later.ofdrewN ?_ | with_reducible refine Later.setCell ?_ ?_ _ | with_reducible refine Later.alloc ?_ _ | with_reducible refine Later.drewN ?_ _ | with_reducible refine Later.drew ?_ | (with_reducible refine Later.trans ?_ (by assumption)) | (simp only [World.size_setCell, World.size_alloc, World.heap_drewN]; omega) | (simp; done) | (simp; omega))⟩
          case measure => simp [intOf]; omega
        · have hcb : (c == 0) = false := by simpa using hc
          have hcn : (c != 0) = true := by simpa using hc
          have hrc : r = c := by
            have e : ru = c := by rw [hrule.out]; simp
            rw [← hr.out, hFIRST.out (by rw [e]; exact hc), e]
          subst hrc
          clear HALL hFIRST hrule hr
          go_wp2_with (first | (go_at_call 19; go_must (refine (HO.out _ (by repeat (first | with_reducible exact Later.refl _ | with_reducible assumption | with_reducible refine Later.ofdrew ?_ | with_reducible refine Later.ofdrewN ?_ | with_reducible refine Later.setCell ?_ ?_ _ | with_reducible refine Later.alloc ?_ _ | with_reducible refine Later.drewN ?_ _ | with_reducible refine Later.drew ?_ | (with_reducible refine Later.trans ?_ (by assumption)) | (simp only [World.size_setCell, World.size_alloc, World.heap_drewN]; omega) | (simp; done) | (simp; omega)))).mono ?_; rintro e w2 ⟨rfl, hb2⟩)) | (go_at_call 20; go_must (refine (HB.out _ (by repeat (first | with_reducible exact Later.refl _ | with_reducible assumption | with_reducible refine Later.ofdrew ?_ | with_reducible refine Later.ofdrewN ?_ | with_reducible refine Later.setCell ?_ ?_ _ | with_reducible refine Later.alloc ?_ _ | with_reducible refine Later.drewN ?_ _ | with_reducible refine Later.drew ?_ | (with_reducible refine Later.trans ?_ (by assumption)) | (simp only [World.size_setCell, World.size_alloc, World.heap_drewN]; omega) | (simp; done) | (simp; omega)))).mono ?_; rintro e w3 ⟨rfl, hb3⟩)))
          go_ret
          exact ⟨rfl, by repeat (first | with_reducible exact Later.refl _ | with_reducible assumption | with_reducible refine Later.ofdrew ?_ | with_reducible refine Later.ofdrewN ?_ | with_reducible refine Later.setCell ?_ ?_ _ | with_reducible refine Later.alloc ?_ _ | with_reducible refine Later.drewN ?_ _ | with_reducible refine Later.drew ?_ | (with_reducible refine Later.trans ?_ (by assumption)) | (simp only [World.size_setCell, World.size_alloc, World.heap_drewN]; omega) | (simp; done) | (simp; omega))⟩
      · have hcb : (a == 0) = false := by simpa using ha
        have hcn : (a != 0) = true := by simpa using ha
        have hrc : r = a := by
          have e : ru = a := by rw [hrule.out]; simp [ha]
          rw [← hr.out, hFIRST.out (by rw [e]; exact ha), e]
        subst hrc
        clear HALL hFIRST hrule hr HB
        go_wp2_with (go_at_call 19; go_must (refine (HO.out _ (by repeat (first | with_reducible exact Later.refl _ | with_reducible assumption | with_reducible refine Later.ofdrew ?_ | with_reducible refine Later.ofdrewN ?_ | with_reducible refine Later.setCell ?_ ?_ _ | with_reducible refine Later.alloc ?_ _ | with_reducible refine Later.drewN ?_ _ | with_reducible refine Later.drew ?_ | (with_reducible refine Later.trans ?_ (by assumption)) | (simp only [World.size_setCell, World.size_alloc, World.heap_drewN]; omega) | (simp; done) | (simp; omega)))).mono ?_; rintro e w2 ⟨rfl, hb2⟩))
        go_ret
        exact ⟨rfl, by repeat (first | with_reducible exact Later.refl _ | with_reducible assumption | with_reducible refine Later.ofdrew ?_ | with_reducible refine Later.ofdrewN ?_ | with_reducible refine Later.setCell ?_ ?_ _ | with_reducible refine Later.alloc ?_ _ | with_reducible refine Later.drewN ?_ _ | with_reducible refine Later.drew ?_ | (with_reducible refine Later.trans ?_ (by assumption)) | (simp only [World.size_setCell, World.size_alloc, World.heap_drewN]; omega) | (simp; done) | (simp; omega))⟩
    · have hr0 : r = 0 := by rw [← hr.out]; exact checkG_zero (fun i hi => hall.out i (by rw [HGL.out] at hi; omega))
      subst hr0
      clear hall hr
      go_wp2
      go_ret
      exact ⟨rfl, by repeat (first | with_reducible exact Later.refl _ | with_reducible assumption | with_reducible refine Later.ofdrew ?_ | with_reducible refine Later.ofdrewN ?_ | with_reducible refine Later.setCell ?_ ?_ _ | with_reducible refine Later.alloc ?_ _ | with_reducible refine Later.drewN ?_ _ | with_reducible refine Later.drew ?_ | (with_reducible refine Later.trans ?_ (by assumption)) | (simp only [World.size_setCell, World.size_alloc, World.heap_drewN]; omega) | (simp; done) | (simp; omega))⟩
end Go.Proofs.YtckeaibamgkegaaGreatDoor
end
