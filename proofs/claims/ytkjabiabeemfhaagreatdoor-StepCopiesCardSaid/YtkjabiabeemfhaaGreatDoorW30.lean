/- step: a contract that is given (plain) -/
import Derived.Test.YtkjabiabeemfhaaGreatDoorW16
import Derived.Test.YtkjabiabeemfhaaGreatDoorW18
import Derived.Test.YtkjabiabeemfhaaGreatDoorW19
import Derived.Test.YtkjabiabeemfhaaGreatDoorW17
import Derived.Test.YtkjabiabeemfhaaGreatDoorW21
import Derived.Deep.LoopGhost
import Derived.Test.YtkjabiabeemfhaaGreatDoorW28
import Derived.Test.YtkjabiabeemfhaaGreatDoorW13
import Derived.Test.YtkjabiabeemfhaaGreatDoorW29
set_option linter.all false
set_option linter.all false
section
namespace Go.Proofs.YtkjabiabeemfhaaGreatDoor
open Go.RowKit
set_option maxRecDepth 100000
theorem same_at {α : Type} {xs ys : List α} (hl : xs.length = ys.length) (h : ∀ i (h1 : i < xs.length) (h2 : i < ys.length), xs[i] = ys[i]) : xs = ys := List.ext_getElem hl h
set_option maxHeartbeats 1600000 in
theorem lflows_any (xs ys : List Fl) (u v : Value) (w : World) (hN : IsFlows w u xs) (hM : IsFlows w v ys) (hlen0 : xs.length ≤ 1000000) :
    Calls Tryz.prog 23 #[u, v] w fun e w' => e = .returned (.bool (decide (xs = ys))) ∧ Later w w' := by
  obtain ⟨p, cp, rfl⟩ := hN.form
  obtain ⟨q, cq, rfl⟩ := hM.form
  have HN := Lib.hid hN
  have HM := Lib.hid hM
  obtain ⟨R, hR⟩ : ∃ R, decide (xs = ys) = R := ⟨_, rfl⟩
  rw [hR]
  have HR := Lib.hid hR
  obtain ⟨N, hNL⟩ : ∃ N, xs.length = N := ⟨_, rfl⟩
  obtain ⟨M, hML⟩ : ∃ M, ys.length = M := ⟨_, rfl⟩
  rw [hNL] at HN hlen0 ⊢
  rw [hML] at HM ⊢
  have HL := Lib.hid (show xs.length = N ∧ ys.length = M from ⟨hNL, hML⟩)
  clear hR hN hM hNL hML
  by_cases hlen : N = M
  · subst hlen
    go_enter Tryz.func23, Tryz.ntmps23
    go_wp2
    go_loopw [5] (fun s5 wr => ∃ j : Nat, j ≤ N ∧ s5 = .int .i64 j ∧ Hid (∀ i (h1 : i < xs.length) (h2 : i < ys.length), i < j → xs[i] = ys[i]) ∧ Later w wr) (fun s5 _ => N - (intOf s5).toNat)
    case atStart => exact ⟨0, Nat.zero_le _, rfl, Lib.hid (fun i _ _ h => by omega), Later.refl _⟩
    case round =>
      obtain ⟨j, hj, rfl, hall, hlat⟩ := hrel
      by_cases hlt : j < N
      · have hjx : j < xs.length := by rw [HL.out.1]; exact hlt
        have hjy : j < ys.length := by rw [HL.out.2]; exact hlt
        obtain ⟨b, o, c1, hv, hb, g⟩ := HN.out.full (i := j) hjx
        obtain ⟨b', o', c2, hv', hb', g'⟩ := HM.out.full (i := j) hjy
        rw [HL.out.1] at hv
        rw [HL.out.2] at hv'
        cases hv
        cases hv'
        have e0 := ((bcell hlat).1 _ _ hb).trans (g 0 (by decide))
        have e1 := ((bcell hlat).1 _ _ hb).trans (g 1 (by decide))
        have e2 := ((bcell hlat).1 _ _ hb).trans (g 2 (by decide))
        have f0 := ((bcell hlat).1 _ _ hb').trans (g' 0 (by decide))
        have f1 := ((bcell hlat).1 _ _ hb').trans (g' 1 (by decide))
        have f2 := ((bcell hlat).1 _ _ hb').trans (g' 2 (by decide))
        simp only [flF, Nat.add_zero] at e0 e1 e2 f0 f1 f2
        by_cases heq : xs[j] = ys[j]
        · have HA : Hid (∀ i (h1 : i < xs.length) (h2 : i < ys.length), i < j + 1 → xs[i] = ys[i]) := Lib.hid (fun i h1 h2 h3 => by
            by_cases h : i = j
            · subst h; exact heq
            · exact hall.out i h1 h2 (by omega))
          rw [← heq] at f0 f1 f2
          clear g g' HN HM hall heq
          generalize (xs[j]).day = x0 at *
          generalize (xs[j]).cur = x1 at *
          generalize (xs[j]).amt = x2 at *
          go_upto_region 6 with (fail)
          refine wp_region_plan 9 (.done [0, 1, 2, 3, 4, 5, 6, 7, 8]) (by kernel_rfl) (by kernel_rfl) (fun _ _ d _ _ h => by cases d <;> exact h) ?_
          repeat' (first
            | (refine plan_done (fun K hK => ?_); (first | (simp only [pick_cons, pick_nil, toList_some_append, List.getElem?_toArray, List.getElem?_cons_zero, List.getElem?_cons_succ]; repeat (go_big_quiet_step (fail))) | simp only [pick_nil]); refine wpQuiet_nil (hK _ ?_); clear hK K)
            | ((with_reducible refine at_list ?_); go_wp2_with (fail); first | refine behind_store (t := 9) (by decide) ?_ | refine behind (by repeat (first | with_reducible exact Later.refl _ | with_reducible assumption | with_reducible refine Later.ofdrew ?_ | with_reducible refine Later.ofdrewN ?_ | with_reducible refine Later.alloc ?_ _ | with_reducible refine Later.drewN ?_ _ | with_reducible refine Later.drew ?_ | (with_reducible refine Later.trans ?_ (by assumption)))) ?_))
          go_wp2
          go_roundw
          case rel => exact ⟨j + 1, by omega, by go_num, HA, hlat.drew⟩
          case measure => simp [intOf]; omega
        · have HF : Hid (R = false) := Lib.hid (by rw [← HR.out, decide_eq_false_iff_not]; intro e; exact heq (by simp only [e]))
          have hne : ¬ ((xs[j]).day = (ys[j]).day ∧ (xs[j]).cur = (ys[j]).cur ∧ (xs[j]).amt = (ys[j]).amt) := fun ⟨a, b, c⟩ => heq (by
            cases hx : xs[j]; cases hy : ys[j]; rw [hx, hy] at a b c; simp only at a b c; rw [a, b, c])
          clear g g' HN HM hall heq HR
          generalize (xs[j]).day = x0 at *
          generalize (xs[j]).cur = x1 at *
          generalize (xs[j]).amt = x2 at *
          generalize (ys[j]).day = y0 at *
          generalize (ys[j]).cur = y1 at *
          generalize (ys[j]).amt = y2 at *
          by_cases h0 : x0 = y0
          · subst h0
            by_cases h1 : x1 = y1
            · subst h1
              have h2 : (x2 == y2) = false := by rw [beq_eq_false_iff_ne]; intro e; exact hne ⟨rfl, rfl, e⟩
              clear hne
              go_upto_region 6 with (fail)
              refine wp_region_plan 9 (.done [0, 1, 2, 3, 4, 5, 6, 7, 8]) (by kernel_rfl) (by kernel_rfl) (fun _ _ d _ _ h => by cases d <;> exact h) ?_
              repeat' (first
                | (refine plan_done (fun K hK => ?_); (first | (simp only [pick_cons, pick_nil, toList_some_append, List.getElem?_toArray, List.getElem?_cons_zero, List.getElem?_cons_succ]; repeat (go_big_quiet_step (fail))) | simp only [pick_nil]); refine wpQuiet_nil (hK _ ?_); clear hK K)
                | ((with_reducible refine at_list ?_); go_wp2_with (fail); first | refine behind_store (t := 9) (by decide) ?_ | refine behind (by repeat (first | with_reducible exact Later.refl _ | with_reducible assumption | with_reducible refine Later.ofdrew ?_ | with_reducible refine Later.ofdrewN ?_ | with_reducible refine Later.alloc ?_ _ | with_reducible refine Later.drewN ?_ _ | with_reducible refine Later.drew ?_ | (with_reducible refine Later.trans ?_ (by assumption)))) ?_))
              go_wp2
              go_ret
              exact ⟨by rw [HF.out]; rfl, hlat.drew⟩
            · have h1' : (x1 == y1) = false := by rw [beq_eq_false_iff_ne]; exact h1
              clear hne h1
              go_upto_region 6 with (fail)
              refine wp_region_plan 9 (.done [0, 1, 2, 3, 4, 5, 6, 7, 8]) (by kernel_rfl) (by kernel_rfl) (fun _ _ d _ _ h => by cases d <;> exact h) ?_
              repeat' (first
                | (refine plan_done (fun K hK => ?_); (first | (simp only [pick_cons, pick_nil, toList_some_append, List.getElem?_toArray, List.getElem?_cons_zero, List.getElem?_cons_succ]; repeat (go_big_quiet_step (fail))) | simp only [pick_nil]); refine wpQuiet_nil (hK _ ?_); clear hK K)
                | ((with_reducible refine at_list ?_); go_wp2_with (fail); first | refine behind_store (t := 9) (by decide) ?_ | refine behind (by repeat (first | with_reducible exact Later.refl _ | with_reducible assumption | with_reducible refine Later.ofdrew ?_ | with_reducible refine Later.ofdrewN ?_ | with_reducible refine Later.alloc ?_ _ | with_reducible refine Later.drewN ?_ _ | with_reducible refine Later.drew ?_ | (with_reducible refine Later.trans ?_ (by assumption)))) ?_))
              go_wp2
              go_ret
              exact ⟨by rw [HF.out]; rfl, hlat.drew⟩
          · have h0' : (x0 == y0) = false := by rw [beq_eq_false_iff_ne]; exact h0
            clear hne h0
            go_upto_region 6 with (fail)
            refine wp_region_plan 9 (.done [0, 1, 2, 3, 4, 5, 6, 7, 8]) (by kernel_rfl) (by kernel_rfl) (fun _ _ d _ _ h => by cases d <;> exact h) ?_
            repeat' (first
              | (refine plan_done (fun K hK => ?_); (first | (simp only [pick_cons, pick_nil, toList_some_append, List.getElem?_toArray, List.getElem?_cons_zero, List.getElem?_cons_succ]; repeat (go_big_quiet_step (fail))) | simp only [pick_nil]); refine wpQuiet_nil (hK _ ?_); clear hK K)
              | ((with_reducible refine at_list ?_); go_wp2_with (fail); first | refine behind_store (t := 9) (by decide) ?_ | refine behind (by repeat (first | with_reducible exact Later.refl _ | with_reducible assumption | with_reducible refine Later.ofdrew ?_ | with_reducible refine Later.ofdrewN ?_ | with_reducible refine Later.alloc ?_ _ | with_reducible refine Later.drewN ?_ _ | with_reducible refine Later.drew ?_ | (with_reducible refine Later.trans ?_ (by assumption)))) ?_))
            go_wp2
            go_ret
            exact ⟨by rw [HF.out]; rfl, hlat.drew⟩
      · have HF : Hid (R = true) := Lib.hid (by
          rw [← HR.out, decide_eq_true_iff]
          exact same_at (by rw [HL.out.1, HL.out.2]) (fun i h1 h2 => hall.out i h1 h2 (by rw [HL.out.1] at h1; omega)))
        clear HR hall
        go_wp2
        go_ret
        exact ⟨by rw [HF.out]; rfl, hlat⟩
  · have HF : Hid (R = false) := Lib.hid (by rw [← HR.out, decide_eq_false_iff_not]; intro e; have h1 := HL.out.1; have h2 := HL.out.2; rw [e] at h1; omega)
    have hne : ((N : Int) == (M : Int)) = false := by rw [beq_eq_false_iff_ne]; omega
    clear HR HN HM
    go_enter Tryz.func23, Tryz.ntmps23
    go_wp2
    go_ret
    exact ⟨by rw [HF.out]; rfl, by repeat (first | with_reducible exact Later.refl _ | with_reducible assumption | with_reducible refine Later.ofdrew ?_ | with_reducible refine Later.ofdrewN ?_ | with_reducible refine Later.setCell ?_ ?_ _ | with_reducible refine Later.alloc ?_ _ | with_reducible refine Later.drewN ?_ _ | with_reducible refine Later.drew ?_ | (with_reducible refine Later.trans ?_ (by assumption)) | (simp only [World.size_setCell, World.size_alloc, World.heap_drewN]; omega) | (simp; done) | (simp; omega))⟩
set_option maxHeartbeats 1600000 in
theorem lwaits_any (xs ys : List Wt) (u v : Value) (w : World) (hN : IsWaits w u xs) (hM : IsWaits w v ys) (hlen0 : xs.length ≤ 1000000) :
    Calls Tryz.prog 29 #[u, v] w fun e w' => e = .returned (.bool (decide (xs = ys))) ∧ Later w w' := by
  obtain ⟨p, cp, rfl⟩ := hN.form
  obtain ⟨q, cq, rfl⟩ := hM.form
  have HN := Lib.hid hN
  have HM := Lib.hid hM
  obtain ⟨R, hR⟩ : ∃ R, decide (xs = ys) = R := ⟨_, rfl⟩
  rw [hR]
  have HR := Lib.hid hR
  obtain ⟨N, hNL⟩ : ∃ N, xs.length = N := ⟨_, rfl⟩
  obtain ⟨M, hML⟩ : ∃ M, ys.length = M := ⟨_, rfl⟩
  rw [hNL] at HN hlen0 ⊢
  rw [hML] at HM ⊢
  have HL := Lib.hid (show xs.length = N ∧ ys.length = M from ⟨hNL, hML⟩)
  clear hR hN hM hNL hML
  by_cases hlen : N = M
  · subst hlen
    go_enter Tryz.func29, Tryz.ntmps29
    go_wp2
    go_loopw [5] (fun s5 wr => ∃ j : Nat, j ≤ N ∧ s5 = .int .i64 j ∧ Hid (∀ i (h1 : i < xs.length) (h2 : i < ys.length), i < j → xs[i] = ys[i]) ∧ Later w wr) (fun s5 _ => N - (intOf s5).toNat)
    case atStart => exact ⟨0, Nat.zero_le _, rfl, Lib.hid (fun i _ _ h => by omega), Later.refl _⟩
    case round =>
      obtain ⟨j, hj, rfl, hall, hlat⟩ := hrel
      by_cases hlt : j < N
      · have hjx : j < xs.length := by rw [HL.out.1]; exact hlt
        have hjy : j < ys.length := by rw [HL.out.2]; exact hlt
        obtain ⟨b, o, c1, hv, hb, g⟩ := HN.out.full (i := j) hjx
        obtain ⟨b', o', c2, hv', hb', g'⟩ := HM.out.full (i := j) hjy
        rw [HL.out.1] at hv
        rw [HL.out.2] at hv'
        cases hv
        cases hv'
        have e0 := ((bcell hlat).1 _ _ hb).trans (g 0 (by decide))
        have e1 := ((bcell hlat).1 _ _ hb).trans (g 1 (by decide))
        have e2 := ((bcell hlat).1 _ _ hb).trans (g 2 (by decide))
        have f0 := ((bcell hlat).1 _ _ hb').trans (g' 0 (by decide))
        have f1 := ((bcell hlat).1 _ _ hb').trans (g' 1 (by decide))
        have f2 := ((bcell hlat).1 _ _ hb').trans (g' 2 (by decide))
        simp only [wtF, Nat.add_zero] at e0 e1 e2 f0 f1 f2
        by_cases heq : xs[j] = ys[j]
        · have HA : Hid (∀ i (h1 : i < xs.length) (h2 : i < ys.length), i < j + 1 → xs[i] = ys[i]) := Lib.hid (fun i h1 h2 h3 => by
            by_cases h : i = j
            · subst h; exact heq
            · exact hall.out i h1 h2 (by omega))
          rw [← heq] at f0 f1 f2
          clear g g' HN HM hall heq
          generalize (xs[j]).cho = x0 at *
          generalize (xs[j]).key = x1 at *
          generalize (xs[j]).day = x2 at *
          go_upto_region 6 with (fail)
          refine wp_region_plan 9 (.done [0, 1, 2, 3, 4, 5, 6, 7, 8]) (by kernel_rfl) (by kernel_rfl) (fun _ _ d _ _ h => by cases d <;> exact h) ?_
          repeat' (first
            | (refine plan_done (fun K hK => ?_); (first | (simp only [pick_cons, pick_nil, toList_some_append, List.getElem?_toArray, List.getElem?_cons_zero, List.getElem?_cons_succ]; repeat (go_big_quiet_step (fail))) | simp only [pick_nil]); refine wpQuiet_nil (hK _ ?_); clear hK K)
            | ((with_reducible refine at_list ?_); go_wp2_with (fail); first | refine behind_store (t := 9) (by decide) ?_ | refine behind (by repeat (first | with_reducible exact Later.refl _ | with_reducible assumption | with_reducible refine Later.ofdrew ?_ | with_reducible refine Later.ofdrewN ?_ | with_reducible refine Later.alloc ?_ _ | with_reducible refine Later.drewN ?_ _ | with_reducible refine Later.drew ?_ | (with_reducible refine Later.trans ?_ (by assumption)))) ?_))
          go_wp2
          go_roundw
          case rel => exact ⟨j + 1, by omega, by go_num, HA, hlat.drew⟩
          case measure => simp [intOf]; omega
        · have HF : Hid (R = false) := Lib.hid (by rw [← HR.out, decide_eq_false_iff_not]; intro e; exact heq (by simp only [e]))
          have hne : ¬ ((xs[j]).cho = (ys[j]).cho ∧ (xs[j]).key = (ys[j]).key ∧ (xs[j]).day = (ys[j]).day) := fun ⟨a, b, c⟩ => heq (by
            cases hx : xs[j]; cases hy : ys[j]; rw [hx, hy] at a b c; simp only at a b c; rw [a, b, c])
          clear g g' HN HM hall heq HR
          generalize (xs[j]).cho = x0 at *
          generalize (xs[j]).key = x1 at *
          generalize (xs[j]).day = x2 at *
          generalize (ys[j]).cho = y0 at *
          generalize (ys[j]).key = y1 at *
          generalize (ys[j]).day = y2 at *
          by_cases h0 : x0 = y0
          · subst h0
            by_cases h1 : x1 = y1
            · subst h1
              have h2 : (x2 == y2) = false := by rw [beq_eq_false_iff_ne]; intro e; exact hne ⟨rfl, rfl, e⟩
              clear hne
              go_upto_region 6 with (fail)
              refine wp_region_plan 9 (.done [0, 1, 2, 3, 4, 5, 6, 7, 8]) (by kernel_rfl) (by kernel_rfl) (fun _ _ d _ _ h => by cases d <;> exact h) ?_
              repeat' (first
                | (refine plan_done (fun K hK => ?_); (first | (simp only [pick_cons, pick_nil, toList_some_append, List.getElem?_toArray, List.getElem?_cons_zero, List.getElem?_cons_succ]; repeat (go_big_quiet_step (fail))) | simp only [pick_nil]); refine wpQuiet_nil (hK _ ?_); clear hK K)
                | ((with_reducible refine at_list ?_); go_wp2_with (fail); first | refine behind_store (t := 9) (by decide) ?_ | refine behind (by repeat (first | with_reducible exact Later.refl _ | with_reducible assumption | with_reducible refine Later.ofdrew ?_ | with_reducible refine Later.ofdrewN ?_ | with_reducible refine Later.alloc ?_ _ | with_reducible refine Later.drewN ?_ _ | with_reducible refine Later.drew ?_ | (with_reducible refine Later.trans ?_ (by assumption)))) ?_))
              go_wp2
              go_ret
              exact ⟨by rw [HF.out]; rfl, hlat.drew⟩
            · have h1' : (x1 == y1) = false := by rw [beq_eq_false_iff_ne]; exact h1
              clear hne h1
              go_upto_region 6 with (fail)
              refine wp_region_plan 9 (.done [0, 1, 2, 3, 4, 5, 6, 7, 8]) (by kernel_rfl) (by kernel_rfl) (fun _ _ d _ _ h => by cases d <;> exact h) ?_
              repeat' (first
                | (refine plan_done (fun K hK => ?_); (first | (simp only [pick_cons, pick_nil, toList_some_append, List.getElem?_toArray, List.getElem?_cons_zero, List.getElem?_cons_succ]; repeat (go_big_quiet_step (fail))) | simp only [pick_nil]); refine wpQuiet_nil (hK _ ?_); clear hK K)
                | ((with_reducible refine at_list ?_); go_wp2_with (fail); first | refine behind_store (t := 9) (by decide) ?_ | refine behind (by repeat (first | with_reducible exact Later.refl _ | with_reducible assumption | with_reducible refine Later.ofdrew ?_ | with_reducible refine Later.ofdrewN ?_ | with_reducible refine Later.alloc ?_ _ | with_reducible refine Later.drewN ?_ _ | with_reducible refine Later.drew ?_ | (with_reducible refine Later.trans ?_ (by assumption)))) ?_))
              go_wp2
              go_ret
              exact ⟨by rw [HF.out]; rfl, hlat.drew⟩
          · have h0' : (x0 == y0) = false := by rw [beq_eq_false_iff_ne]; exact h0
            clear hne h0
            go_upto_region 6 with (fail)
            refine wp_region_plan 9 (.done [0, 1, 2, 3, 4, 5, 6, 7, 8]) (by kernel_rfl) (by kernel_rfl) (fun _ _ d _ _ h => by cases d <;> exact h) ?_
            repeat' (first
              | (refine plan_done (fun K hK => ?_); (first | (simp only [pick_cons, pick_nil, toList_some_append, List.getElem?_toArray, List.getElem?_cons_zero, List.getElem?_cons_succ]; repeat (go_big_quiet_step (fail))) | simp only [pick_nil]); refine wpQuiet_nil (hK _ ?_); clear hK K)
              | ((with_reducible refine at_list ?_); go_wp2_with (fail); first | refine behind_store (t := 9) (by decide) ?_ | refine behind (by repeat (first | with_reducible exact Later.refl _ | with_reducible assumption | with_reducible refine Later.ofdrew ?_ | with_reducible refine Later.ofdrewN ?_ | with_reducible refine Later.alloc ?_ _ | with_reducible refine Later.drewN ?_ _ | with_reducible refine Later.drew ?_ | (with_reducible refine Later.trans ?_ (by assumption)))) ?_))
            go_wp2
            go_ret
            exact ⟨by rw [HF.out]; rfl, hlat.drew⟩
      · have HF : Hid (R = true) := Lib.hid (by
          rw [← HR.out, decide_eq_true_iff]
          exact same_at (by rw [HL.out.1, HL.out.2]) (fun i h1 h2 => hall.out i h1 h2 (by rw [HL.out.1] at h1; omega)))
        clear HR hall
        go_wp2
        go_ret
        exact ⟨by rw [HF.out]; rfl, hlat⟩
  · have HF : Hid (R = false) := Lib.hid (by rw [← HR.out, decide_eq_false_iff_not]; intro e; have h1 := HL.out.1; have h2 := HL.out.2; rw [e] at h1; omega)
    have hne : ((N : Int) == (M : Int)) = false := by rw [beq_eq_false_iff_ne]; omega
    clear HR HN HM
    go_enter Tryz.func29, Tryz.ntmps29
    go_wp2
    go_ret
    exact ⟨by rw [HF.out]; rfl, by repeat (first | with_reducible exact Later.refl _ | with_reducible assumption | with_reducible refine Later.ofdrew ?_ | with_reducible refine Later.ofdrewN ?_ | with_reducible refine Later.setCell ?_ ?_ _ | with_reducible refine Later.alloc ?_ _ | with_reducible refine Later.drewN ?_ _ | with_reducible refine Later.drew ?_ | (with_reducible refine Later.trans ?_ (by assumption)) | (simp only [World.size_setCell, World.size_alloc, World.heap_drewN]; omega) | (simp; done) | (simp; omega))⟩
end Go.Proofs.YtkjabiabeemfhaaGreatDoor
end
section
namespace Go.Proofs.YtkjabiabeemfhaaGreatDoor
open Go.RowKit Go.Sort
theorem round_neg {d : Int} (hd : 0 < d) (n : Int) : roundI (-n) d = -roundI n d := by
  unfold roundI
  rw [Int.natAbs_neg]
  by_cases h0 : n = 0
  · subst h0
    have : nearQ 0 d = 0 := by unfold nearQ; simp; omega
    simp [this]
  · by_cases h1 : n < 0
    · rw [if_neg (by omega), if_pos h1, Int.neg_neg]
    · rw [if_pos (by omega), if_neg h1]
theorem r_neg1 {d : Int} (hd : 0 < d) (n : Int) : rN (-n) d = -rN n d ∧ rD (-n) d = rD n d ∧ rE (-n) d = rE n d := by
  have hg : gcdI (-n) d = gcdI n d := by unfold gcdI; rw [Int.neg_gcd]
  have h1 : redN (-n) d = -redN n d := by
    unfold redN
    rw [hg, if_neg (by omega), if_neg (by omega)]
    exact Int.neg_ediv_of_dvd (Int.gcd_dvd_left ..)
  have h2 : redD (-n) d = redD n d := by unfold redD; rw [hg]
  have h3 : rE (-n) d = rE n d := by unfold rE; rw [h1, h2, Int.natAbs_neg]
  refine ⟨?_, ?_, h3⟩
  · unfold rN; rw [h3, h1]; split
    · rfl
    · simp
  · unfold rD; rw [h3, h2]
def Hd.neg (h : Hd) : Hd := ⟨h.T, h.pl, h.day, -h.n, h.d⟩
def Fl.neg (x : Fl) : Fl := ⟨x.day, x.cur, -x.amt⟩
theorem kidH_neg (l : List Tm) (k i : Nat) (day n d : Int) : kidH l k i day (-n) d = (kidH l k i day n d).map Hd.neg := by
  unfold kidH
  split <;> rfl
theorem one_neg {env : Env} {tod : Int} {ts : List Nd} {T : Tm} (hG : Good ts T) (hok : ∀ x ∈ ts, x.ok) (hE : EnvOk env) {h : Hd} (hh : HdOk ts h) :
    oneH env tod h.neg = ((oneH env tod h).1, (oneH env tod h).2.1.map Hd.neg, (oneH env tod h).2.2.1.map Fl.neg, (oneH env tod h).2.2.2) := by
  obtain ⟨⟨x, l⟩, pl, day, n, d⟩ := h
  obtain ⟨hT, hs, hm, h0, h1, hv⟩ := hh
  simp only at hT hs hm h0 h1 hv
  obtain ⟨r1, -, -, r4⟩ := hT.root
  have hd := hv.d0
  unfold oneH Hd.neg
  simp only
  split
  · rfl
  show stepT env tod x l pl day (-n) d = ((stepT env tod x l pl day n d).1, (stepT env tod x l pl day n d).2.1.map Hd.neg, (stepT env tod x l pl day n d).2.2.1.map Fl.neg, (stepT env tod x l pl day n d).2.2.2)
  unfold stepT
  by_cases h10 : x.op = 10
  · rw [if_pos h10, if_pos h10, round_neg hd]
    by_cases hz : roundI n d = 0
    · simp [hz]
    · simp [hz, Fl.neg]
  rw [if_neg h10, if_neg h10]
  by_cases h11 : x.op = 11
  · rw [if_pos h11, if_pos h11, kidH_neg]; rfl
  rw [if_neg h11, if_neg h11]
  by_cases h12 : x.op = 12
  · rw [if_pos h12, if_pos h12, kidH_neg, kidH_neg]; simp
  rw [if_neg h12, if_neg h12]
  by_cases h13 : x.op = 13
  · rw [if_pos h13, if_pos h13]
    have hl : l.length = 2 := by rw [r4, h13]; decide
    obtain ⟨k1, k2, k3⟩ := kid_num hG hok hT hs (i := 0) (by omega) (by rw [h13]; decide)
    have hr := valT_res (hE.get day) k2
    have e : numT env day l 0 = valT (env.get day) l[0] := by unfold numT; rw [List.getElem?_eq_getElem (by omega)]
    unfold scaleT
    rw [e]
    by_cases hz : (valT (env.get day) l[0]).1 = 0
    · simp only [hz, ne_eq, not_true_eq_false, if_false]
      cases hv2 : (valT (env.get day) l[0]).2 with
      | none => rfl
      | some v =>
        have hvv := hr.val v hv2
        obtain ⟨q1, q2, q3⟩ := r_neg1 (Int.mul_pos hd hvv.d0) (n * v.1)
        simp only [Int.neg_mul, q1, q2, q3]
        split
        · rfl
        · rw [kidH_neg]; rfl
    · simp [hz]
  rw [if_neg h13, if_neg h13]
  by_cases h14 : x.op = 14
  · rw [if_pos h14, if_pos h14]
    by_cases hz : day ≤ x.a
    · simp [hz, kidH_neg]
    · simp [hz]
  rw [if_neg h14, if_neg h14]
  by_cases h15 : x.op = 15
  · rw [if_pos h15, if_pos h15]
    unfold condT
    split
    · rfl
    split
    · rfl
    split
    · rw [kidH_neg]; rfl
    · rfl
  rw [if_neg h15, if_neg h15]
  by_cases h16 : x.op = 16
  · rw [if_pos h16, if_pos h16]
    split
    · rw [kidH_neg]; rfl
    · rfl
  rw [if_neg h16, if_neg h16]
  by_cases h17 : x.op = 17
  · rw [if_pos h17, if_pos h17]
    split
    · rw [kidH_neg]; rfl
    · rfl
  rw [if_neg h17, if_neg h17]
  rfl
theorem comb_neg (a b : Rs) : comb (a.1, a.2.1.map Fl.neg, a.2.2) (b.1, b.2.1.map Fl.neg, b.2.2) = ((comb a b).1, (comb a b).2.1.map Fl.neg, (comb a b).2.2) := by
  unfold comb
  by_cases ha : a.1 = 0
  · by_cases hb : b.1 = 0 <;> simp [ha, hb]
  · simp [ha]
def Hd.z (h : Hd) : Hd := ⟨h.T, 0, h.day, h.n, h.d⟩
theorem kidH_place (l : List Tm) (k k' i : Nat) (day n d : Int) : (kidH l k i day n d).map Hd.z = (kidH l k' i day n d).map Hd.z := by
  unfold kidH
  split <;> rfl
theorem step_place (env : Env) (tod : Int) (x : Nd) (l : List Tm) (k k' : Nat) (day n d : Int) :
    (stepT env tod x l k day n d).1 = (stepT env tod x l k' day n d).1 ∧ (stepT env tod x l k day n d).2.1.map Hd.z = (stepT env tod x l k' day n d).2.1.map Hd.z ∧ (stepT env tod x l k day n d).2.2 = (stepT env tod x l k' day n d).2.2 := by
  unfold stepT
  split
  · exact ⟨rfl, rfl, rfl⟩
  split
  · exact ⟨rfl, kidH_place _ _ _ _ _ _ _, rfl⟩
  split
  · refine ⟨rfl, ?_, rfl⟩
    rw [List.map_append, List.map_append, kidH_place l k k', kidH_place l k k']
  split
  · unfold scaleT
    split
    · exact ⟨rfl, rfl, rfl⟩
    split
    · exact ⟨rfl, rfl, rfl⟩
    split
    · exact ⟨rfl, rfl, rfl⟩
    · exact ⟨rfl, kidH_place _ _ _ _ _ _ _, rfl⟩
  split
  · refine ⟨rfl, ?_, rfl⟩
    simp only
    split
    · exact kidH_place _ _ _ _ _ _ _
    · rfl
  split
  · unfold condT
    split
    · exact ⟨rfl, rfl, rfl⟩
    split
    · exact ⟨rfl, rfl, rfl⟩
    split
    · exact ⟨rfl, kidH_place _ _ _ _ _ _ _, rfl⟩
    · exact ⟨rfl, rfl, rfl⟩
  split
  · split
    · exact ⟨rfl, kidH_place _ _ _ _ _ _ _, rfl⟩
    · exact ⟨rfl, rfl, rfl⟩
  split
  · split
    · exact ⟨rfl, kidH_place _ _ _ _ _ _ _, rfl⟩
    · exact ⟨rfl, rfl, rfl⟩
  exact ⟨rfl, rfl, rfl⟩
theorem one_place (env : Env) (tod : Int) (h : Hd) : (oneH env tod h).1 = (oneH env tod h.z).1 ∧ (oneH env tod h).2.1.map Hd.z = (oneH env tod h.z).2.1.map Hd.z ∧ (oneH env tod h).2.2 = (oneH env tod h.z).2.2 := by
  unfold oneH
  show (if tod < h.day then _ else _ : St).1 = (if tod < h.day then _ else _ : St).1 ∧ _
  by_cases hd : tod < h.day
  · simp only [Hd.z, hd, if_true, and_self]
  · simp only [Hd.z, hd, if_false]
    exact step_place _ _ _ _ _ _ _ _ _
end Go.Proofs.YtkjabiabeemfhaaGreatDoor
end
section
namespace Go.Proofs.YtkjabiabeemfhaaGreatDoor
open Go.RowKit Go.Sort
structure Part (t : Tm) : Prop where
  ok : t.ok
  so : t.sorted = true
  fields : ∀ y ∈ t.flat, fieldsB y = true
theorem part_of {ts : List Nd} {T : Tm} (h : Good ts T) : Part T ∧ T.flat = ts := by
  obtain ⟨h1, h2⟩ := treeOf_iff.1 h.tree
  exact ⟨⟨h1, h.sorted, by rw [h2]; exact h.fields⟩, h2⟩
section
variable {x : Nd} {l : List Tm}
theorem joins_tree (hm : makesI x.op ≠ 0) (hl : l.length = manyN x.op) (hk : ∀ t ∈ l, Part t) : treeOf (x :: l.flatMap Tm.flat) = some (.node x l) :=
  treeOf_iff.2 ⟨⟨hm, hl, (Tm.oks_iff l).2 (fun t ht => (hk t ht).ok)⟩, by rw [← Tm.flats_eq]; rfl⟩
theorem joins_sorted (hb : ∀ i (h : i < l.length), makesI (l[i]).root.op = belI x.op i) (hk : ∀ t ∈ l, Part t) : (Tm.node x l).sorted = true := by
  unfold Tm.sorted
  simp only [Bool.and_eq_true]
  exact ⟨by unfold Tm.top; exact decide_eq_true hb, (Tm.sorteds_iff l).2 (fun t ht => (hk t ht).so)⟩
theorem joins_fields (hf : fieldsB x = true) (hk : ∀ t ∈ l, Part t) : ∀ y ∈ x :: l.flatMap Tm.flat, fieldsB y = true := by
  intro y hy
  rcases List.mem_cons.1 hy with rfl | hy
  · exact hf
  · obtain ⟨t, ht, hy⟩ := List.mem_flatMap.1 hy
    exact (hk t ht).fields y hy
theorem joins_of (hm : makesI x.op ≠ 0) (hl : l.length = manyN x.op) (hb : ∀ i (h : i < l.length), makesI (l[i]).root.op = belI x.op i) (hf : fieldsB x = true) (hk : ∀ t ∈ l, Part t) :
    (ofE (x :: l.flatMap Tm.flat) = 0 ∧ Good (x :: l.flatMap Tm.flat) (.node x l)) ∨ (ofE (x :: l.flatMap Tm.flat) = 15 ∧ (64 < (x :: l.flatMap Tm.flat).length ∨ 12 < (Tm.node x l).depth)) := by
  have ht := joins_tree hm hl hk
  have hs := joins_sorted hb hk
  have hfs := joins_fields hf hk
  by_cases h1 : 64 < (x :: l.flatMap Tm.flat).length
  · exact .inr ⟨by unfold ofE; rw [if_pos h1], .inl h1⟩
  · by_cases h2 : (Tm.node x l).depth ≤ 12
    · have hG : Good (x :: l.flatMap Tm.flat) (.node x l) := ⟨ht, by omega, hfs, hs, h2⟩
      exact .inl ⟨hG.ofE, hG⟩
    · refine .inr ⟨?_, .inr (by omega)⟩
      unfold ofE
      rw [if_neg h1, ht]
      simp only
      rw [if_pos (List.all_eq_true.2 hfs), if_pos hs, if_neg h2]
theorem joins_ct (h2 : makesI x.op = 2) (hl : l.length = manyN x.op) (hb : ∀ i (h : i < l.length), makesI (l[i]).root.op = belI x.op i) (hf : fieldsB x = true) (hk : ∀ t ∈ l, Part t) :
    (ctE (x :: l.flatMap Tm.flat) = 0 ∧ Good (x :: l.flatMap Tm.flat) (.node x l)) ∨ (ctE (x :: l.flatMap Tm.flat) = 15 ∧ (64 < (x :: l.flatMap Tm.flat).length ∨ 12 < (Tm.node x l).depth)) := by
  rcases joins_of (by rw [h2]; decide) hl hb hf hk with ⟨h, hG⟩ | ⟨h, hd⟩
  · exact .inl ⟨ct_of_good hG h2, hG⟩
  · refine .inr ⟨?_, hd⟩
    unfold ctE
    rw [h, if_neg (by simp)]
end
section
variable {env : Env} {ts us : List Nd} {T U : Tm} {day tod : Int}
def giveN : Nd := ⟨11, 0, 0, 0, 0⟩
theorem mk_give : makesI (Tm.node giveN [T]).root.op = 2 := show makesI 11 = 2 by decide
theorem bel_one {m : Int} {op : Int} (h : makesI T.root.op = m) (hb : belI op 0 = m) : ∀ i (h : i < [T].length), makesI ([T][i]).root.op = belI op i := by
  intro i hi
  obtain rfl : i = 0 := by simpa using hi
  rw [hb]; exact h
theorem partsB_one (h : Part T) : ∀ t ∈ [T], Part t := fun t ht => by rw [List.mem_singleton.1 ht]; exact h
theorem give_flat (hG : Good ts T) : giveN :: [T].flatMap Tm.flat = giveN :: ts := by simp [(part_of hG).2]
theorem give_ct (hG : Good ts T) (hm : makesI T.root.op = 2) : (ctE (giveN :: ts) = 0 ∧ Good (giveN :: ts) (.node giveN [T])) ∨ (ctE (giveN :: ts) = 15 ∧ (64 < (giveN :: ts).length ∨ 12 < (Tm.node giveN [T]).depth)) := by
  rw [← give_flat hG]
  exact joins_ct (by decide) rfl (bel_one hm (by decide)) (by decide) (partsB_one (part_of hG).1)
end
theorem puts_sort (l : List Fl) : ∀ m : List Fl, l.foldl (insL ordF) (sortL ordF m) = sortL ordF (m ++ l) := by
  induction l with
  | nil => intro m; simp
  | cons x l ih =>
    intro m
    rw [List.foldl_cons, sort_put swoF totF, ih, List.append_assoc]
    rfl
theorem puts_nil (l : List Fl) : l.foldl (insL ordF) [] = sortL ordF l := by have := puts_sort l []; simpa [sortL] using this
end Go.Proofs.YtkjabiabeemfhaaGreatDoor
end
section
namespace Go.Proofs.YtkjabiabeemfhaaGreatDoor
open Go.RowKit
set_option maxRecDepth 100000
open Go.Sort
theorem flows_of_own {w : World} {b : Nat} {x : Fl} (h : Own w [(b, #[.int .i64 x.day, .int .i64 x.cur, .int .i64 x.amt])]) : IsFlows w (.slice (some ⟨b, 0, none⟩) 1 1) [x] := by
  obtain ⟨z, c, -⟩ := own_get h
  refine .inr ⟨b, 0, 1, rfl, z, Nat.le_refl _, by decide, fun i hi j hj => ?_⟩
  obtain rfl : i = 0 := by simpa using hi
  rw [Nat.zero_mul, Nat.add_zero, Nat.zero_add, c, List.getElem?_toArray]
  exact flCs_get x j hj
end Go.Proofs.YtkjabiabeemfhaaGreatDoor
end
section
namespace Go.Proofs.YtkjabiabeemfhaaGreatDoor
open Go.RowKit Go.Sort
theorem kept_place (env : Env) (tod : Int) (h : Hd) : (keptH env tod h).map Hd.z = keptH env tod h.z := by
  obtain ⟨⟨x, l⟩, pl, day, n, d⟩ := h
  show (keptH env tod ⟨.node x l, pl, day, n, d⟩).map Hd.z = keptH env tod ⟨.node x l, 0, day, n, d⟩
  rw [keptH_node, keptH_node]
  repeat' split
  all_goals rfl
theorem kept_neg (env : Env) (tod : Int) (h : Hd) : keptH env tod h.neg = (keptH env tod h).map Hd.neg := by
  obtain ⟨⟨x, l⟩, pl, day, n, d⟩ := h
  show keptH env tod ⟨.node x l, pl, day, -n, d⟩ = (keptH env tod ⟨.node x l, pl, day, n, d⟩).map Hd.neg
  rw [keptH_node, keptH_node]
  repeat' split
  all_goals rfl
theorem run_z (env : Env) (tod : Int) : ∀ (n : Nat) (q q' : List Hd), q.map Hd.z = q'.map Hd.z → runQ env tod n q = runQ env tod n q' ∧ (keptQ env tod n q).map Hd.z = (keptQ env tod n q').map Hd.z := by
  intro n
  induction n with
  | zero => intro q q' _; exact ⟨rfl, rfl⟩
  | succ n ih =>
    intro q q' hq
    cases q with
    | nil =>
      cases q' with
      | nil => exact ⟨rfl, rfl⟩
      | cons g r => cases hq
    | cons h r =>
      cases q' with
      | nil => cases hq
      | cons g r' =>
        rw [List.map_cons, List.map_cons, List.cons.injEq] at hq
        obtain ⟨a1, a2, a3⟩ := one_place env tod h
        obtain ⟨b1, b2, b3⟩ := one_place env tod g
        obtain ⟨k1, k2⟩ := ih (r ++ (oneH env tod h).2.1) (r' ++ (oneH env tod g).2.1) (by rw [List.map_append, List.map_append, hq.2, a2, b2, hq.1])
        refine ⟨?_, ?_⟩
        · simp only [runQ]
          rw [k1, a1, b1, hq.1, a3, b3, hq.1]
        · show (keptH env tod h ++ keptQ env tod n (r ++ (oneH env tod h).2.1)).map Hd.z = (keptH env tod g ++ keptQ env tod n (r' ++ (oneH env tod g).2.1)).map Hd.z
          rw [List.map_append, List.map_append, kept_place, kept_place, hq.1, k2]
theorem run_neg {ts : List Nd} {T : Tm} {env : Env} {tod : Int} (hG : Good ts T) (hok : ∀ x ∈ ts, x.ok) (hE : EnvOk env) : ∀ (n : Nat) (q : List Hd), (∀ h ∈ q, HdOk ts h) →
    runQ env tod n (q.map Hd.neg) = ((runQ env tod n q).1, (runQ env tod n q).2.1.map Fl.neg, (runQ env tod n q).2.2) ∧ keptQ env tod n (q.map Hd.neg) = (keptQ env tod n q).map Hd.neg := by
  intro n
  induction n with
  | zero => intro q _; exact ⟨rfl, rfl⟩
  | succ n ih =>
    intro q hq
    cases q with
    | nil => exact ⟨rfl, rfl⟩
    | cons h r =>
      have hh := hq h List.mem_cons_self
      obtain ⟨k1, k2⟩ := ih (r ++ (oneH env tod h).2.1) (fun y hy => by
        rcases List.mem_append.1 hy with hy | hy
        · exact hq y (List.mem_cons_of_mem _ hy)
        · exact one_ok hG hok hE hh y hy)
      rw [List.map_append] at k1 k2
      refine ⟨?_, ?_⟩
      · rw [List.map_cons]
        simp only [runQ]
        rw [one_neg hG hok hE hh]
        simp only
        rw [k1]
        split
        · rfl
        · exact comb_neg (0, (oneH env tod h).2.2.1, (oneH env tod h).2.2.2) _
      · rw [List.map_cons]
        show keptH env tod h.neg ++ keptQ env tod n (r.map Hd.neg ++ (oneH env tod h.neg).2.1) = (keptH env tod h ++ keptQ env tod n (r ++ (oneH env tod h).2.1)).map Hd.neg
        rw [kept_neg, one_neg hG hok hE hh, List.map_append]
        simp only
        rw [k2]
theorem sizes_z {q q' : List Hd} (h : q.map Hd.z = (q'.map Hd.neg).map Hd.z) : sizesH q = sizesH q' := by
  have e1 : q.map (fun h => h.T.size) = (q.map Hd.z).map (fun h => h.T.size) := by rw [List.map_map]; rfl
  have e2 : q'.map (fun h => h.T.size) = ((q'.map Hd.neg).map Hd.z).map (fun h => h.T.size) := by rw [List.map_map, List.map_map]; rfl
  unfold sizesH
  rw [e1, e2, h]
def GivS (T : Tm) (day : Int) (r s : RunS) : Prop :=
  r.day = s.day ∧ r.W = s.W ∧ ((r.L = [⟨T, 0, day, 1, 1⟩] ∧ s.L = [⟨.node giveN [T], 0, day, 1, 1⟩]) ∨ r.L.map Hd.z = (s.L.map Hd.neg).map Hd.z)
theorem GivS.new (T : Tm) (day : Int) : GivS T day (newR T day) (newR (.node giveN [T]) day) := ⟨rfl, rfl, .inl ⟨rfl, rfl⟩⟩
theorem GivS.len {T : Tm} {day : Int} {r s : RunS} (h : GivS T day r s) : r.L.length = s.L.length := by
  rcases h.2.2 with ⟨h1, h2⟩ | h
  · rw [h1, h2]; rfl
  · simpa using congrArg List.length h
theorem run_giv {ts : List Nd} {T : Tm} {env : Env} {tod : Int} (hG : Good ts T) (hok : ∀ x ∈ ts, x.ok) (hE : EnvOk env) {q q' : List Hd} (hq : ∀ h ∈ q', HdOk ts h) (h : q.map Hd.z = (q'.map Hd.neg).map Hd.z) (n : Nat) :
    runQ env tod n q = ((runQ env tod n q').1, (runQ env tod n q').2.1.map Fl.neg, (runQ env tod n q').2.2) ∧ (keptQ env tod n q).map Hd.z = ((keptQ env tod n q').map Hd.neg).map Hd.z := by
  obtain ⟨a1, a2⟩ := run_z env tod n _ _ h
  obtain ⟨b1, b2⟩ := run_neg (tod := tod) hG hok hE n q' hq
  exact ⟨a1.trans b1, by rw [a2, b2]⟩
theorem comb_run (env : Env) (tod : Int) (n : Nat) (q : List Hd) : comb (0, [], []) (runQ env tod n q) = runQ env tod n q := by
  have hf := run_fail env tod n q
  generalize runQ env tod n q = y at *
  unfold comb
  by_cases hy : y.1 = 0
  · obtain ⟨a, b, c⟩ := y
    simp only at hy
    subst hy
    simp
  · have := hf hy
    obtain ⟨a, b⟩ := y
    simp only at hy this
    subst this
    simp [hy]
theorem giv_run {ts : List Nd} {T : Tm} {env : Env} {tod day : Int} (hJ : Good (giveN :: ts) (.node giveN [T])) (hok : ∀ x ∈ giveN :: ts, x.ok) (hE : EnvOk env) {r s : RunS} (hs : RunOk (giveN :: ts) s) (h : GivS T day r s) :
    runQ env tod (sizesH r.L) r.L = ((runQ env tod (sizesH s.L) s.L).1, (runQ env tod (sizesH s.L) s.L).2.1.map Fl.neg, (runQ env tod (sizesH s.L) s.L).2.2) ∧
    ∀ d W, GivS T day ⟨keptQ env tod (sizesH r.L) r.L, d, W⟩ ⟨keptQ env tod (sizesH s.L) s.L, d, W⟩ := by
  rcases h.2.2 with ⟨h1, h2⟩ | hz
  · have hsT : (Tm.node giveN [T]).size = T.size + 1 := by simp [Tm.size, Tm.size.sizes]; omega
    have e1 : sizesH r.L = T.size := by rw [h1]; simp [sizesH]
    have e2 : sizesH s.L = T.size + 1 := by rw [h2]; simp [sizesH, hsT]
    rw [e1, e2, h1, h2]
    obtain ⟨m, hm⟩ : ∃ m, T.size = m + 1 := ⟨T.size - 1, by have := T.size_pos; omega⟩
    by_cases hd : tod < day
    · have o1 : oneH env tod ⟨T, 0, day, 1, 1⟩ = (0, [], [], []) := by unfold oneH; rw [if_pos hd]
      have o2 : oneH env tod ⟨.node giveN [T], 0, day, 1, 1⟩ = (0, [], [], []) := by unfold oneH; rw [if_pos hd]
      have k1 : keptH env tod ⟨T, 0, day, 1, 1⟩ = [⟨T, 0, day, 1, 1⟩] := by unfold keptH; rw [if_pos hd]
      have k2 : keptH env tod ⟨.node giveN [T], 0, day, 1, 1⟩ = [⟨.node giveN [T], 0, day, 1, 1⟩] := by unfold keptH; rw [if_pos hd]
      have r0 : ∀ n, runQ env tod n [] = (0, [], []) := fun n => by cases n <;> rfl
      have q0 : ∀ n, keptQ env tod n [] = [] := fun n => by cases n <;> rfl
      rw [hm]
      refine ⟨?_, fun d W => ⟨rfl, rfl, .inl ⟨?_, ?_⟩⟩⟩
      · simp [runQ, o1, o2, r0, comb]
      · simp [keptQ, o1, k1, q0]
      · simp [keptQ, o2, k2, q0]
    · have o2 : oneH env tod ⟨.node giveN [T], 0, day, 1, 1⟩ = (0, kidH [T] 0 0 day (-1) 1, [], []) := by rw [oneH_node, if_neg hd]; simp [stepT, giveN]
      have k2 : keptH env tod ⟨.node giveN [T], 0, day, 1, 1⟩ = [] := by rw [keptH_node, if_neg hd]; simp [giveN]
      have hh := hs.held ⟨.node giveN [T], 0, day, 1, 1⟩ (by rw [h2]; exact List.mem_singleton.2 rfl)
      have hk := one_ok (tod := tod) hJ hok hE hh
      rw [o2] at hk
      have e4 : runQ env tod (T.size + 1) [⟨.node giveN [T], 0, day, 1, 1⟩] = runQ env tod T.size (kidH [T] 0 0 day (-1) 1) := by
        simp only [runQ, o2, ne_eq, not_true_eq_false, if_false]
        exact comb_run _ _ _ _
      have e5 : keptQ env tod (T.size + 1) [⟨.node giveN [T], 0, day, 1, 1⟩] = keptQ env tod T.size (kidH [T] 0 0 day (-1) 1) := by
        simp only [keptQ, o2, k2]
        rfl
      rw [e4, e5]
      obtain ⟨b1, b2⟩ := run_giv (tod := tod) hJ hok hE (q := [⟨T, 0, day, 1, 1⟩]) hk (by simp [kidH, Hd.z, Hd.neg]) T.size
      exact ⟨b1, fun d W => ⟨rfl, rfl, .inr b2⟩⟩
  · rw [sizes_z hz]
    obtain ⟨b1, b2⟩ := run_giv (tod := tod) hJ hok hE hs.held hz (sizesH s.L)
    exact ⟨b1, fun d W => ⟨rfl, rfl, .inr b2⟩⟩
theorem go_giv {ts : List Nd} {T : Tm} {env : Env} {tod day : Int} (hJ : Good (giveN :: ts) (.node giveN [T])) (hok : ∀ x ∈ giveN :: ts, x.ok) (hE : EnvOk env) {r s : RunS} (hs : RunOk (giveN :: ts) s) (h : GivS T day r s) :
    (goR env r tod).1 = (goR env s tod).1 ∧ sortL ordF ((goR env s tod).2.1.map Fl.neg) = (goR env r tod).2.1 ∧ GivS T day (goR env r tod).2.2 (goR env s tod).2.2 := by
  by_cases h0 : tod < r.day ∨ 73048 < tod
  · have h0' : tod < s.day ∨ 73048 < tod := by rw [← h.1]; exact h0
    rw [goR_early h0, goR_early h0']
    exact ⟨rfl, by simp [sortL], h⟩
  · have h0' : ¬ (tod < s.day ∨ 73048 < tod) := by rw [← h.1]; exact h0
    obtain ⟨g1, g2⟩ := giv_run (tod := tod) hJ hok hE hs h
    by_cases h1 : (runQ env tod (sizesH s.L) s.L).1 = 0
    · have h1' : (runQ env tod (sizesH r.L) r.L).1 = 0 := by rw [g1]; exact h1
      rw [goR_done h0 h1', goR_done h0' h1, g1]
      refine ⟨rfl, ?_, g2 _ _⟩
      simp only
      exact sort_same swoF totF ((sortL_perm ordF _).map _)
    · have h1' : (runQ env tod (sizesH r.L) r.L).1 ≠ 0 := by rw [g1]; exact h1
      rw [goR_over h0 h1', goR_over h0' h1, g1]
      exact ⟨rfl, by simp [sortL], h⟩
end Go.Proofs.YtkjabiabeemfhaaGreatDoor
end
