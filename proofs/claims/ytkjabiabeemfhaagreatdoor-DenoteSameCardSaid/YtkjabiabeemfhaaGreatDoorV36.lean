/- denote: the chapter's example -/
import Derived.Test.YtkjabiabeemfhaaGreatDoorV35
import Derived.Test.YtkjabiabeemfhaaGreatDoorV34
import Derived.Test.YtkjabiabeemfhaaGreatDoorV23
import Derived.Test.YtkjabiabeemfhaaGreatDoorV19
set_option linter.all false
set_option linter.all false
section
namespace Go.Proofs.YtkjabiabeemfhaaGreatDoor
open Go.RowKit
set_option maxRecDepth 100000
theorem same_at {α : Type} {xs ys : List α} (hl : xs.length = ys.length) (h : ∀ i (h1 : i < xs.length) (h2 : i < ys.length), xs[i] = ys[i]) : xs = ys := List.ext_getElem hl h
set_option maxHeartbeats 1600000 in
theorem lflows_any (xs ys : List Fl) (u v : Value) (w : World) (hN : IsFlows w u xs) (hM : IsFlows w v ys) (hlen0 : xs.length ≤ 1000000) :
    Calls Tryz.prog 23 #[u, v] w fun e w' => e = .returned (.bool (decide (xs = ys))) ∧ Later w w' := by
  obtain ⟨p, cp, rfl⟩ := hN.form
  obtain ⟨q, cq, rfl⟩ := hM.form
  have HN := Lib.hid hN
  have HM := Lib.hid hM
  obtain ⟨R, hR⟩ : ∃ R, decide (xs = ys) = R := ⟨_, rfl⟩
  rw [hR]
  have HR := Lib.hid hR
  obtain ⟨N, hNL⟩ : ∃ N, xs.length = N := ⟨_, rfl⟩
  obtain ⟨M, hML⟩ : ∃ M, ys.length = M := ⟨_, rfl⟩
  rw [hNL] at HN hlen0 ⊢
  rw [hML] at HM ⊢
  have HL := Lib.hid (show xs.length = N ∧ ys.length = M from ⟨hNL, hML⟩)
  clear hR hN hM hNL hML
  by_cases hlen : N = M
  · subst hlen
    go_enter Tryz.func23, Tryz.ntmps23
    go_wp2
    go_loopw [5] (fun s5 wr => ∃ j : Nat, j ≤ N ∧ s5 = .int .i64 j ∧ Hid (∀ i (h1 : i < xs.length) (h2 : i < ys.length), i < j → xs[i] = ys[i]) ∧ Later w wr) (fun s5 _ => N - (intOf s5).toNat)
    case atStart => exact ⟨0, Nat.zero_le _, rfl, Lib.hid (fun i _ _ h => by omega), Later.refl _⟩
    case round =>
      obtain ⟨j, hj, rfl, hall, hlat⟩ := hrel
      by_cases hlt : j < N
      · have hjx : j < xs.length := by rw [HL.out.1]; exact hlt
        have hjy : j < ys.length := by rw [HL.out.2]; exact hlt
        obtain ⟨b, o, c1, hv, hb, g⟩ := HN.out.full (i := j) hjx
        obtain ⟨b', o', c2, hv', hb', g'⟩ := HM.out.full (i := j) hjy
        rw [HL.out.1] at hv
        rw [HL.out.2] at hv'
        cases hv
        cases hv'
        have e0 := ((bcell hlat).1 _ _ hb).trans (g 0 (by decide))
        have e1 := ((bcell hlat).1 _ _ hb).trans (g 1 (by decide))
        have e2 := ((bcell hlat).1 _ _ hb).trans (g 2 (by decide))
        have f0 := ((bcell hlat).1 _ _ hb').trans (g' 0 (by decide))
        have f1 := ((bcell hlat).1 _ _ hb').trans (g' 1 (by decide))
        have f2 := ((bcell hlat).1 _ _ hb').trans (g' 2 (by decide))
        simp only [flF, Nat.add_zero] at e0 e1 e2 f0 f1 f2
        by_cases heq : xs[j] = ys[j]
        · have HA : Hid (∀ i (h1 : i < xs.length) (h2 : i < ys.length), i < j + 1 → xs[i] = ys[i]) := Lib.hid (fun i h1 h2 h3 => by
            by_cases h : i = j
            · subst h; exact heq
            · exact hall.out i h1 h2 (by omega))
          rw [← heq] at f0 f1 f2
          clear g g' HN HM hall heq
          generalize (xs[j]).day = x0 at *
          generalize (xs[j]).cur = x1 at *
          generalize (xs[j]).amt = x2 at *
          go_upto_region 6 with (fail)
          refine wp_region_plan 9 (.done [0, 1, 2, 3, 4, 5, 6, 7, 8]) (by kernel_rfl) (by kernel_rfl) (fun _ _ d _ _ h => by cases d <;> exact h) ?_
          repeat' (first
            | (refine plan_done (fun K hK => ?_); (first | (simp only [pick_cons, pick_nil, toList_some_append, List.getElem?_toArray, List.getElem?_cons_zero, List.getElem?_cons_succ]; repeat (go_big_quiet_step (fail))) | simp only [pick_nil]); refine wpQuiet_nil (hK _ ?_); clear hK K)
            | ((with_reducible refine at_list ?_); go_wp2_with (fail); first | refine behind_store (t := 9) (by decide) ?_ | refine behind (by repeat (first | with_reducible exact Later.refl _ | with_reducible assumption | with_reducible refine Later.ofdrew ?_ | with_reducible refine Later.ofdrewN ?_ | with_reducible refine Later.alloc ?_ _ | with_reducible refine Later.drewN ?_ _ | with_reducible refine Later.drew ?_ | (with_reducible refine Later.trans ?_ (by assumption)))) ?_))
          go_wp2
          go_roundw
          case rel => exact ⟨j + 1, by omega, by go_num, HA, hlat.drew⟩
          case measure => simp [intOf]; omega
        · have HF : Hid (R = false) := Lib.hid (by rw [← HR.out, decide_eq_false_iff_not]; intro e; exact heq (by simp only [e]))
          have hne : ¬ ((xs[j]).day = (ys[j]).day ∧ (xs[j]).cur = (ys[j]).cur ∧ (xs[j]).amt = (ys[j]).amt) := fun ⟨a, b, c⟩ => heq (by
            cases hx : xs[j]; cases hy : ys[j]; rw [hx, hy] at a b c; simp only at a b c; rw [a, b, c])
          clear g g' HN HM hall heq HR
          generalize (xs[j]).day = x0 at *
          generalize (xs[j]).cur = x1 at *
          generalize (xs[j]).amt = x2 at *
          generalize (ys[j]).day = y0 at *
          generalize (ys[j]).cur = y1 at *
          generalize (ys[j]).amt = y2 at *
          by_cases h0 : x0 = y0
          · subst h0
            by_cases h1 : x1 = y1
            · subst h1
              have h2 : (x2 == y2) = false := by rw [beq_eq_false_iff_ne]; intro e; exact hne ⟨rfl, rfl, e⟩
              clear hne
              go_upto_region 6 with (fail)
              refine wp_region_plan 9 (.done [0, 1, 2, 3, 4, 5, 6, 7, 8]) (by kernel_rfl) (by kernel_rfl) (fun _ _ d _ _ h => by cases d <;> exact h) ?_
              repeat' (first
                | (refine plan_done (fun K hK => ?_); (first | (simp only [pick_cons, pick_nil, toList_some_append, List.getElem?_toArray, List.getElem?_cons_zero, List.getElem?_cons_succ]; repeat (go_big_quiet_step (fail))) | simp only [pick_nil]); refine wpQuiet_nil (hK _ ?_); clear hK K)
                | ((with_reducible refine at_list ?_); go_wp2_with (fail); first | refine behind_store (t := 9) (by decide) ?_ | refine behind (by repeat (first | with_reducible exact Later.refl _ | with_reducible assumption | with_reducible refine Later.ofdrew ?_ | with_reducible refine Later.ofdrewN ?_ | with_reducible refine Later.alloc ?_ _ | with_reducible refine Later.drewN ?_ _ | with_reducible refine Later.drew ?_ | (with_reducible refine Later.trans ?_ (by assumption)))) ?_))
              go_wp2
              go_ret
              exact ⟨by rw [HF.out]; rfl, hlat.drew⟩
            · have h1' : (x1 == y1) = false := by rw [beq_eq_false_iff_ne]; exact h1
              clear hne h1
              go_upto_region 6 with (fail)
              refine wp_region_plan 9 (.done [0, 1, 2, 3, 4, 5, 6, 7, 8]) (by kernel_rfl) (by kernel_rfl) (fun _ _ d _ _ h => by cases d <;> exact h) ?_
              repeat' (first
                | (refine plan_done (fun K hK => ?_); (first | (simp only [pick_cons, pick_nil, toList_some_append, List.getElem?_toArray, List.getElem?_cons_zero, List.getElem?_cons_succ]; repeat (go_big_quiet_step (fail))) | simp only [pick_nil]); refine wpQuiet_nil (hK _ ?_); clear hK K)
                | ((with_reducible refine at_list ?_); go_wp2_with (fail); first | refine behind_store (t := 9) (by decide) ?_ | refine behind (by repeat (first | with_reducible exact Later.refl _ | with_reducible assumption | with_reducible refine Later.ofdrew ?_ | with_reducible refine Later.ofdrewN ?_ | with_reducible refine Later.alloc ?_ _ | with_reducible refine Later.drewN ?_ _ | with_reducible refine Later.drew ?_ | (with_reducible refine Later.trans ?_ (by assumption)))) ?_))
              go_wp2
              go_ret
              exact ⟨by rw [HF.out]; rfl, hlat.drew⟩
          · have h0' : (x0 == y0) = false := by rw [beq_eq_false_iff_ne]; exact h0
            clear hne h0
            go_upto_region 6 with (fail)
            refine wp_region_plan 9 (.done [0, 1, 2, 3, 4, 5, 6, 7, 8]) (by kernel_rfl) (by kernel_rfl) (fun _ _ d _ _ h => by cases d <;> exact h) ?_
            repeat' (first
              | (refine plan_done (fun K hK => ?_); (first | (simp only [pick_cons, pick_nil, toList_some_append, List.getElem?_toArray, List.getElem?_cons_zero, List.getElem?_cons_succ]; repeat (go_big_quiet_step (fail))) | simp only [pick_nil]); refine wpQuiet_nil (hK _ ?_); clear hK K)
              | ((with_reducible refine at_list ?_); go_wp2_with (fail); first | refine behind_store (t := 9) (by decide) ?_ | refine behind (by repeat (first | with_reducible exact Later.refl _ | with_reducible assumption | with_reducible refine Later.ofdrew ?_ | with_reducible refine Later.ofdrewN ?_ | with_reducible refine Later.alloc ?_ _ | with_reducible refine Later.drewN ?_ _ | with_reducible refine Later.drew ?_ | (with_reducible refine Later.trans ?_ (by assumption)))) ?_))
            go_wp2
            go_ret
            exact ⟨by rw [HF.out]; rfl, hlat.drew⟩
      · have HF : Hid (R = true) := Lib.hid (by
          rw [← HR.out, decide_eq_true_iff]
          exact same_at (by rw [HL.out.1, HL.out.2]) (fun i h1 h2 => hall.out i h1 h2 (by rw [HL.out.1] at h1; omega)))
        clear HR hall
        go_wp2
        go_ret
        exact ⟨by rw [HF.out]; rfl, hlat⟩
  · have HF : Hid (R = false) := Lib.hid (by rw [← HR.out, decide_eq_false_iff_not]; intro e; have h1 := HL.out.1; have h2 := HL.out.2; rw [e] at h1; omega)
    have hne : ((N : Int) == (M : Int)) = false := by rw [beq_eq_false_iff_ne]; omega
    clear HR HN HM
    go_enter Tryz.func23, Tryz.ntmps23
    go_wp2
    go_ret
    exact ⟨by rw [HF.out]; rfl, by repeat (first | with_reducible exact Later.refl _ | with_reducible assumption | with_reducible refine Later.ofdrew ?_ | with_reducible refine Later.ofdrewN ?_ | with_reducible refine Later.setCell ?_ ?_ _ | with_reducible refine Later.alloc ?_ _ | with_reducible refine Later.drewN ?_ _ | with_reducible refine Later.drew ?_ | (with_reducible refine Later.trans ?_ (by assumption)) | (simp only [World.size_setCell, World.size_alloc, World.heap_drewN]; omega) | (simp; done) | (simp; omega))⟩
set_option maxHeartbeats 1600000 in
theorem lwaits_any (xs ys : List Wt) (u v : Value) (w : World) (hN : IsWaits w u xs) (hM : IsWaits w v ys) (hlen0 : xs.length ≤ 1000000) :
    Calls Tryz.prog 29 #[u, v] w fun e w' => e = .returned (.bool (decide (xs = ys))) ∧ Later w w' := by
  obtain ⟨p, cp, rfl⟩ := hN.form
  obtain ⟨q, cq, rfl⟩ := hM.form
  have HN := Lib.hid hN
  have HM := Lib.hid hM
  obtain ⟨R, hR⟩ : ∃ R, decide (xs = ys) = R := ⟨_, rfl⟩
  rw [hR]
  have HR := Lib.hid hR
  obtain ⟨N, hNL⟩ : ∃ N, xs.length = N := ⟨_, rfl⟩
  obtain ⟨M, hML⟩ : ∃ M, ys.length = M := ⟨_, rfl⟩
  rw [hNL] at HN hlen0 ⊢
  rw [hML] at HM ⊢
  have HL := Lib.hid (show xs.length = N ∧ ys.length = M from ⟨hNL, hML⟩)
  clear hR hN hM hNL hML
  by_cases hlen : N = M
  · subst hlen
    go_enter Tryz.func29, Tryz.ntmps29
    go_wp2
    go_loopw [5] (fun s5 wr => ∃ j : Nat, j ≤ N ∧ s5 = .int .i64 j ∧ Hid (∀ i (h1 : i < xs.length) (h2 : i < ys.length), i < j → xs[i] = ys[i]) ∧ Later w wr) (fun s5 _ => N - (intOf s5).toNat)
    case atStart => exact ⟨0, Nat.zero_le _, rfl, Lib.hid (fun i _ _ h => by omega), Later.refl _⟩
    case round =>
      obtain ⟨j, hj, rfl, hall, hlat⟩ := hrel
      by_cases hlt : j < N
      · have hjx : j < xs.length := by rw [HL.out.1]; exact hlt
        have hjy : j < ys.length := by rw [HL.out.2]; exact hlt
        obtain ⟨b, o, c1, hv, hb, g⟩ := HN.out.full (i := j) hjx
        obtain ⟨b', o', c2, hv', hb', g'⟩ := HM.out.full (i := j) hjy
        rw [HL.out.1] at hv
        rw [HL.out.2] at hv'
        cases hv
        cases hv'
        have e0 := ((bcell hlat).1 _ _ hb).trans (g 0 (by decide))
        have e1 := ((bcell hlat).1 _ _ hb).trans (g 1 (by decide))
        have e2 := ((bcell hlat).1 _ _ hb).trans (g 2 (by decide))
        have f0 := ((bcell hlat).1 _ _ hb').trans (g' 0 (by decide))
        have f1 := ((bcell hlat).1 _ _ hb').trans (g' 1 (by decide))
        have f2 := ((bcell hlat).1 _ _ hb').trans (g' 2 (by decide))
        simp only [wtF, Nat.add_zero] at e0 e1 e2 f0 f1 f2
        by_cases heq : xs[j] = ys[j]
        · have HA : Hid (∀ i (h1 : i < xs.length) (h2 : i < ys.length), i < j + 1 → xs[i] = ys[i]) := Lib.hid (fun i h1 h2 h3 => by
            by_cases h : i = j
            · subst h; exact heq
            · exact hall.out i h1 h2 (by omega))
          rw [← heq] at f0 f1 f2
          clear g g' HN HM hall heq
          generalize (xs[j]).cho = x0 at *
          generalize (xs[j]).key = x1 at *
          generalize (xs[j]).day = x2 at *
          go_upto_region 6 with (fail)
          refine wp_region_plan 9 (.done [0, 1, 2, 3, 4, 5, 6, 7, 8]) (by kernel_rfl) (by kernel_rfl) (fun _ _ d _ _ h => by cases d <;> exact h) ?_
          repeat' (first
            | (refine plan_done (fun K hK => ?_); (first | (simp only [pick_cons, pick_nil, toList_some_append, List.getElem?_toArray, List.getElem?_cons_zero, List.getElem?_cons_succ]; repeat (go_big_quiet_step (fail))) | simp only [pick_nil]); refine wpQuiet_nil (hK _ ?_); clear hK K)
            | ((with_reducible refine at_list ?_); go_wp2_with (fail); first | refine behind_store (t := 9) (by decide) ?_ | refine behind (by repeat (first | with_reducible exact Later.refl _ | with_reducible assumption | with_reducible refine Later.ofdrew ?_ | with_reducible refine Later.ofdrewN ?_ | with_reducible refine Later.alloc ?_ _ | with_reducible refine Later.drewN ?_ _ | with_reducible refine Later.drew ?_ | (with_reducible refine Later.trans ?_ (by assumption)))) ?_))
          go_wp2
          go_roundw
          case rel => exact ⟨j + 1, by omega, by go_num, HA, hlat.drew⟩
          case measure => simp [intOf]; omega
        · have HF : Hid (R = false) := Lib.hid (by rw [← HR.out, decide_eq_false_iff_not]; intro e; exact heq (by simp only [e]))
          have hne : ¬ ((xs[j]).cho = (ys[j]).cho ∧ (xs[j]).key = (ys[j]).key ∧ (xs[j]).day = (ys[j]).day) := fun ⟨a, b, c⟩ => heq (by
            cases hx : xs[j]; cases hy : ys[j]; rw [hx, hy] at a b c; simp only at a b c; rw [a, b, c])
          clear g g' HN HM hall heq HR
          generalize (xs[j]).cho = x0 at *
          generalize (xs[j]).key = x1 at *
          generalize (xs[j]).day = x2 at *
          generalize (ys[j]).cho = y0 at *
          generalize (ys[j]).key = y1 at *
          generalize (ys[j]).day = y2 at *
          by_cases h0 : x0 = y0
          · subst h0
            by_cases h1 : x1 = y1
            · subst h1
              have h2 : (x2 == y2) = false := by rw [beq_eq_false_iff_ne]; intro e; exact hne ⟨rfl, rfl, e⟩
              clear hne
              go_upto_region 6 with (fail)
              refine wp_region_plan 9 (.done [0, 1, 2, 3, 4, 5, 6, 7, 8]) (by kernel_rfl) (by kernel_rfl) (fun _ _ d _ _ h => by cases d <;> exact h) ?_
              repeat' (first
                | (refine plan_done (fun K hK => ?_); (first | (simp only [pick_cons, pick_nil, toList_some_append, List.getElem?_toArray, List.getElem?_cons_zero, List.getElem?_cons_succ]; repeat (go_big_quiet_step (fail))) | simp only [pick_nil]); refine wpQuiet_nil (hK _ ?_); clear hK K)
                | ((with_reducible refine at_list ?_); go_wp2_with (fail); first | refine behind_store (t := 9) (by decide) ?_ | refine behind (by repeat (first | with_reducible exact Later.refl _ | with_reducible assumption | with_reducible refine Later.ofdrew ?_ | with_reducible refine Later.ofdrewN ?_ | with_reducible refine Later.alloc ?_ _ | with_reducible refine Later.drewN ?_ _ | with_reducible refine Later.drew ?_ | (with_reducible refine Later.trans ?_ (by assumption)))) ?_))
              go_wp2
              go_ret
              exact ⟨by rw [HF.out]; rfl, hlat.drew⟩
            · have h1' : (x1 == y1) = false := by rw [beq_eq_false_iff_ne]; exact h1
              clear hne h1
              go_upto_region 6 with (fail)
              refine wp_region_plan 9 (.done [0, 1, 2, 3, 4, 5, 6, 7, 8]) (by kernel_rfl) (by kernel_rfl) (fun _ _ d _ _ h => by cases d <;> exact h) ?_
              repeat' (first
                | (refine plan_done (fun K hK => ?_); (first | (simp only [pick_cons, pick_nil, toList_some_append, List.getElem?_toArray, List.getElem?_cons_zero, List.getElem?_cons_succ]; repeat (go_big_quiet_step (fail))) | simp only [pick_nil]); refine wpQuiet_nil (hK _ ?_); clear hK K)
                | ((with_reducible refine at_list ?_); go_wp2_with (fail); first | refine behind_store (t := 9) (by decide) ?_ | refine behind (by repeat (first | with_reducible exact Later.refl _ | with_reducible assumption | with_reducible refine Later.ofdrew ?_ | with_reducible refine Later.ofdrewN ?_ | with_reducible refine Later.alloc ?_ _ | with_reducible refine Later.drewN ?_ _ | with_reducible refine Later.drew ?_ | (with_reducible refine Later.trans ?_ (by assumption)))) ?_))
              go_wp2
              go_ret
              exact ⟨by rw [HF.out]; rfl, hlat.drew⟩
          · have h0' : (x0 == y0) = false := by rw [beq_eq_false_iff_ne]; exact h0
            clear hne h0
            go_upto_region 6 with (fail)
            refine wp_region_plan 9 (.done [0, 1, 2, 3, 4, 5, 6, 7, 8]) (by kernel_rfl) (by kernel_rfl) (fun _ _ d _ _ h => by cases d <;> exact h) ?_
            repeat' (first
              | (refine plan_done (fun K hK => ?_); (first | (simp only [pick_cons, pick_nil, toList_some_append, List.getElem?_toArray, List.getElem?_cons_zero, List.getElem?_cons_succ]; repeat (go_big_quiet_step (fail))) | simp only [pick_nil]); refine wpQuiet_nil (hK _ ?_); clear hK K)
              | ((with_reducible refine at_list ?_); go_wp2_with (fail); first | refine behind_store (t := 9) (by decide) ?_ | refine behind (by repeat (first | with_reducible exact Later.refl _ | with_reducible assumption | with_reducible refine Later.ofdrew ?_ | with_reducible refine Later.ofdrewN ?_ | with_reducible refine Later.alloc ?_ _ | with_reducible refine Later.drewN ?_ _ | with_reducible refine Later.drew ?_ | (with_reducible refine Later.trans ?_ (by assumption)))) ?_))
            go_wp2
            go_ret
            exact ⟨by rw [HF.out]; rfl, hlat.drew⟩
      · have HF : Hid (R = true) := Lib.hid (by
          rw [← HR.out, decide_eq_true_iff]
          exact same_at (by rw [HL.out.1, HL.out.2]) (fun i h1 h2 => hall.out i h1 h2 (by rw [HL.out.1] at h1; omega)))
        clear HR hall
        go_wp2
        go_ret
        exact ⟨by rw [HF.out]; rfl, hlat⟩
  · have HF : Hid (R = false) := Lib.hid (by rw [← HR.out, decide_eq_false_iff_not]; intro e; have h1 := HL.out.1; have h2 := HL.out.2; rw [e] at h1; omega)
    have hne : ((N : Int) == (M : Int)) = false := by rw [beq_eq_false_iff_ne]; omega
    clear HR HN HM
    go_enter Tryz.func29, Tryz.ntmps29
    go_wp2
    go_ret
    exact ⟨by rw [HF.out]; rfl, by repeat (first | with_reducible exact Later.refl _ | with_reducible assumption | with_reducible refine Later.ofdrew ?_ | with_reducible refine Later.ofdrewN ?_ | with_reducible refine Later.setCell ?_ ?_ _ | with_reducible refine Later.alloc ?_ _ | with_reducible refine Later.drewN ?_ _ | with_reducible refine Later.drew ?_ | (with_reducible refine Later.trans ?_ (by assumption)) | (simp only [World.size_setCell, World.size_alloc, World.heap_drewN]; omega) | (simp; done) | (simp; omega))⟩
end Go.Proofs.YtkjabiabeemfhaaGreatDoor
end
section
namespace Go.Proofs.YtkjabiabeemfhaaGreatDoor
open Go.RowKit Go.Sort
def Hd.sim (a b : Hd) : Prop := a.T = b.T ∧ a.day = b.day ∧ a.n = b.n ∧ a.d = b.d
def Hd.z (h : Hd) : Hd := ⟨h.T, 0, h.day, h.n, h.d⟩
theorem kidH_place (l : List Tm) (k k' i : Nat) (day n d : Int) : (kidH l k i day n d).map Hd.z = (kidH l k' i day n d).map Hd.z := by
  unfold kidH
  split <;> rfl
theorem step_place (env : Env) (tod : Int) (x : Nd) (l : List Tm) (k k' : Nat) (day n d : Int) :
    (stepT env tod x l k day n d).1 = (stepT env tod x l k' day n d).1 ∧ (stepT env tod x l k day n d).2.1.map Hd.z = (stepT env tod x l k' day n d).2.1.map Hd.z ∧ (stepT env tod x l k day n d).2.2 = (stepT env tod x l k' day n d).2.2 := by
  unfold stepT
  split
  · exact ⟨rfl, rfl, rfl⟩
  split
  · exact ⟨rfl, kidH_place _ _ _ _ _ _ _, rfl⟩
  split
  · refine ⟨rfl, ?_, rfl⟩
    rw [List.map_append, List.map_append, kidH_place l k k', kidH_place l k k']
  split
  · unfold scaleT
    split
    · exact ⟨rfl, rfl, rfl⟩
    split
    · exact ⟨rfl, rfl, rfl⟩
    split
    · exact ⟨rfl, rfl, rfl⟩
    · exact ⟨rfl, kidH_place _ _ _ _ _ _ _, rfl⟩
  split
  · refine ⟨rfl, ?_, rfl⟩
    simp only
    split
    · exact kidH_place _ _ _ _ _ _ _
    · rfl
  split
  · unfold condT
    split
    · exact ⟨rfl, rfl, rfl⟩
    split
    · exact ⟨rfl, rfl, rfl⟩
    split
    · exact ⟨rfl, kidH_place _ _ _ _ _ _ _, rfl⟩
    · exact ⟨rfl, rfl, rfl⟩
  split
  · split
    · exact ⟨rfl, kidH_place _ _ _ _ _ _ _, rfl⟩
    · exact ⟨rfl, rfl, rfl⟩
  split
  · split
    · exact ⟨rfl, kidH_place _ _ _ _ _ _ _, rfl⟩
    · exact ⟨rfl, rfl, rfl⟩
  exact ⟨rfl, rfl, rfl⟩
theorem one_place (env : Env) (tod : Int) (h : Hd) : (oneH env tod h).1 = (oneH env tod h.z).1 ∧ (oneH env tod h).2.1.map Hd.z = (oneH env tod h.z).2.1.map Hd.z ∧ (oneH env tod h).2.2 = (oneH env tod h.z).2.2 := by
  unfold oneH
  show (if tod < h.day then _ else _ : St).1 = (if tod < h.day then _ else _ : St).1 ∧ _
  by_cases hd : tod < h.day
  · simp only [Hd.z, hd, if_true, and_self]
  · simp only [Hd.z, hd, if_false]
    exact step_place _ _ _ _ _ _ _ _ _
theorem den_z (env : Env) (tod : Int) : ∀ h : Hd, den env tod h = den env tod h.z := by
  refine hd_ind (fun h ih => ?_)
  obtain ⟨k1, k2, k3⟩ := one_place env tod h
  rw [den_eq, den_eq env tod h.z, k1, k3]
  have k4 : (oneH env tod h).2.1.map (den env tod) = (oneH env tod h.z).2.1.map (den env tod) := by
    have e1 : (oneH env tod h).2.1.map (den env tod) = ((oneH env tod h).2.1.map Hd.z).map (den env tod) := by
      rw [List.map_map]; exact List.map_congr_left (fun g hg => ih g (mem_lt hg))
    have e2 : (oneH env tod h.z).2.1.map (den env tod) = ((oneH env tod h.z).2.1.map Hd.z).map (den env tod) := by
      rw [List.map_map]; exact List.map_congr_left (fun g hg => ih g (mem_lt (h := h.z) hg))
    rw [e1, e2, k2]
  rw [k4]
theorem den_place (env : Env) (tod : Int) (h g : Hd) (hs : h.sim g) : den env tod h = den env tod g := by
  rw [den_z env tod h, den_z env tod g]
  obtain ⟨T, pl, day, n, d⟩ := h
  obtain ⟨T', pl', day', n', d'⟩ := g
  obtain ⟨e1, e2, e3, e4⟩ := hs
  simp only at e1 e2 e3 e4
  subst e1 e2 e3 e4
  rfl
end Go.Proofs.YtkjabiabeemfhaaGreatDoor
end
section
namespace Go.Proofs.YtkjabiabeemfhaaGreatDoor
open Go.RowKit Go.Sort
section
variable {env : Env} {tod : Int}
theorem comb_nil_eq {b : Rs} (h : b.1 ≠ 0 → b.2 = ([], [])) : comb (0, [], []) b = b := by
  unfold comb
  obtain ⟨e, f, w⟩ := b
  by_cases h0 : e = 0
  · subst h0; simp
  · have := h h0
    simp only [Prod.mk.injEq] at this
    obtain ⟨rfl, rfl⟩ := this
    simp [h0]
theorem comb_eq_nil {a : Rs} (h : a.1 ≠ 0 → a.2 = ([], [])) : comb a (0, [], []) = a := by
  unfold comb
  obtain ⟨e, f, w⟩ := a
  by_cases h0 : e = 0
  · subst h0; simp
  · have := h h0
    simp only [Prod.mk.injEq] at this
    obtain ⟨rfl, rfl⟩ := this
    simp [h0]
theorem comb_err {a b : Rs} (h : (comb a b).1 ≠ 0) : (comb a b).2 = ([], []) := by
  unfold comb at h ⊢
  split
  · rfl
  · rename_i h1
    rw [if_neg h1] at h
    split
    · rfl
    · rename_i h2
      rw [if_neg h2] at h
      exact absurd rfl h
theorem den_via {h g : Hd} (h1 : oneH env tod h = (0, [g], [], [])) : den env tod h = den env tod g := by
  rw [den_eq, h1]
  simp only [ne_eq, not_true_eq_false, if_false, List.map_cons, List.map_nil]
  show comb (0, [], []) (comb (den env tod g) (0, [], [])) = _
  rw [comb_eq_nil (fun e => den_err e), comb_nil_eq (fun e => den_err e)]
theorem den_two {h g g' : Hd} (h1 : oneH env tod h = (0, [g, g'], [], [])) : den env tod h = comb (den env tod g) (den env tod g') := by
  rw [den_eq, h1]
  simp only [ne_eq, not_true_eq_false, if_false, List.map_cons, List.map_nil]
  show comb (0, [], []) (comb (den env tod g) (comb (den env tod g') (0, [], []))) = _
  rw [comb_eq_nil (fun e => den_err e), comb_nil_eq (fun e => comb_err e)]
theorem den_stop {h : Hd} (h1 : oneH env tod h = (0, [], [], [])) : den env tod h = (0, [], []) := by
  rw [den_eq, h1]
  simp [comb, combL]
def zeroT : Tm := .node ⟨9, 0, 0, 0, 0⟩ []
def numO : Tm := .node ⟨1, 0, 0, 1, 1⟩ []
theorem den_zero (k : Nat) (day n d : Int) : den env tod ⟨zeroT, k, day, n, d⟩ = (0, [], []) := by
  refine den_stop ?_
  unfold oneH
  split
  · rfl
  · simp [stepT, zeroT, Tm.root]
theorem den_and (T U : Tm) (k k' k2 : Nat) (day n d : Int) : den env tod ⟨.node ⟨12, 0, 0, 0, 0⟩ [T, U], k, day, n, d⟩ = comb (den env tod ⟨T, k', day, n, d⟩) (den env tod ⟨U, k2, day, n, d⟩) := by
  by_cases hd : tod < day
  · rw [den_late hd, den_late hd, den_late hd]; rfl
  · have h1 : oneH env tod ⟨.node ⟨12, 0, 0, 0, 0⟩ [T, U], k, day, n, d⟩ = (0, [⟨T, placeN k [T, U] 0, day, n, d⟩, ⟨U, placeN k [T, U] 1, day, n, d⟩], [], []) := by
      unfold oneH
      rw [if_neg hd]
      simp [stepT, Tm.root, Tm.kids, kidH]
    rw [den_two h1, den_place env tod ⟨T, placeN k [T, U] 0, day, n, d⟩ ⟨T, k', day, n, d⟩ ⟨rfl, rfl, rfl, rfl⟩, den_place env tod ⟨U, placeN k [T, U] 1, day, n, d⟩ ⟨U, k2, day, n, d⟩ ⟨rfl, rfl, rfl, rfl⟩]
theorem den_when (T : Tm) (k k' : Nat) (a day n d : Int) : den env tod ⟨.node ⟨14, a, 0, 0, 0⟩ [T], k, day, n, d⟩ = if day ≤ a then den env tod ⟨T, k', a, n, d⟩ else (0, [], []) := by
  by_cases hd : tod < day
  · rw [den_late hd]
    split
    · rw [den_late (by simp only; omega)]
    · rfl
  · split
    · rename_i ha
      refine (den_via (g := ⟨T, placeN k [T] 0, a, n, d⟩) ?_).trans (den_place _ _ _ _ ⟨rfl, rfl, rfl, rfl⟩)
      unfold oneH
      rw [if_neg hd]
      simp [stepT, Tm.root, Tm.kids, kidH, ha]
    · rename_i ha
      refine den_stop ?_
      unfold oneH
      rw [if_neg hd]
      simp [stepT, Tm.root, Tm.kids, ha]
theorem one_rat : rE 1 1 = 0 ∧ rN 1 1 = 1 ∧ rD 1 1 = 1 := by
  obtain ⟨a, b, c⟩ := valid_r (n := 1) (d := 1) (N := 1) (D := 1) ⟨by decide, by decide, by decide, by decide, by decide⟩ (by decide) rfl
  exact ⟨c, a, b⟩
theorem val_num (get : Int → Option Q2) (n d : Int) : valT get (.node ⟨1, 0, 0, n, d⟩ []) = (0, some (n, d)) := by
  rw [valT_node]; unfold nodeV; rw [if_pos rfl]
theorem den_scale (T : Tm) (k k' : Nat) (day : Int) : den env tod ⟨.node ⟨13, 0, 0, 0, 0⟩ [numO, T], k, day, 1, 1⟩ = den env tod ⟨T, k', day, 1, 1⟩ := by
  by_cases hd : tod < day
  · rw [den_late hd, den_late hd]
  · refine (den_via (g := ⟨T, placeN k [numO, T] 1, day, 1, 1⟩) ?_).trans (den_place _ _ _ _ ⟨rfl, rfl, rfl, rfl⟩)
    obtain ⟨r1, r2, r3⟩ := one_rat
    unfold oneH
    rw [if_neg hd]
    simp [stepT, Tm.root, Tm.kids, scaleT, numT, numO, val_num, kidH, r1, r2, r3]
theorem den_cond (a b : Int) (T U : Tm) (k k' : Nat) (day n d : Int) : den env tod ⟨.node ⟨15, 0, 0, 0, 0⟩ [.node ⟨1, 0, 0, a, 1⟩ [], .node ⟨1, 0, 0, b, 1⟩ [], T, U], k, day, n, d⟩ = den env tod ⟨if a < b then T else U, k', day, n, d⟩ := by
  by_cases hd : tod < day
  · rw [den_late hd, den_late hd]
  · refine (den_via (g := ⟨if a < b then T else U, placeN k [.node ⟨1, 0, 0, a, 1⟩ [], .node ⟨1, 0, 0, b, 1⟩ [], T, U] (if a < b then 2 else 3), day, n, d⟩) ?_).trans (den_place _ _ _ _ ⟨rfl, rfl, rfl, rfl⟩)
    unfold oneH
    rw [if_neg hd]
    by_cases h : a < b
    · simp [stepT, Tm.root, Tm.kids, condT, numT, val_num, kidH, h]
    · simp [stepT, Tm.root, Tm.kids, condT, numT, val_num, kidH, h]
end
end Go.Proofs.YtkjabiabeemfhaaGreatDoor
end
section
namespace Go.Proofs.YtkjabiabeemfhaaGreatDoor
open Go.RowKit Go.Sort
structure Part (t : Tm) : Prop where
  ok : t.ok
  so : t.sorted = true
  fields : ∀ y ∈ t.flat, fieldsB y = true
theorem part_of {ts : List Nd} {T : Tm} (h : Good ts T) : Part T ∧ T.flat = ts := by
  obtain ⟨h1, h2⟩ := treeOf_iff.1 h.tree
  exact ⟨⟨h1, h.sorted, by rw [h2]; exact h.fields⟩, h2⟩
section
variable {x : Nd} {l : List Tm}
theorem joins_tree (hm : makesI x.op ≠ 0) (hl : l.length = manyN x.op) (hk : ∀ t ∈ l, Part t) : treeOf (x :: l.flatMap Tm.flat) = some (.node x l) :=
  treeOf_iff.2 ⟨⟨hm, hl, (Tm.oks_iff l).2 (fun t ht => (hk t ht).ok)⟩, by rw [← Tm.flats_eq]; rfl⟩
theorem joins_sorted (hb : ∀ i (h : i < l.length), makesI (l[i]).root.op = belI x.op i) (hk : ∀ t ∈ l, Part t) : (Tm.node x l).sorted = true := by
  unfold Tm.sorted
  simp only [Bool.and_eq_true]
  exact ⟨by unfold Tm.top; exact decide_eq_true hb, (Tm.sorteds_iff l).2 (fun t ht => (hk t ht).so)⟩
theorem joins_fields (hf : fieldsB x = true) (hk : ∀ t ∈ l, Part t) : ∀ y ∈ x :: l.flatMap Tm.flat, fieldsB y = true := by
  intro y hy
  rcases List.mem_cons.1 hy with rfl | hy
  · exact hf
  · obtain ⟨t, ht, hy⟩ := List.mem_flatMap.1 hy
    exact (hk t ht).fields y hy
theorem joins_of (hm : makesI x.op ≠ 0) (hl : l.length = manyN x.op) (hb : ∀ i (h : i < l.length), makesI (l[i]).root.op = belI x.op i) (hf : fieldsB x = true) (hk : ∀ t ∈ l, Part t) :
    (ofE (x :: l.flatMap Tm.flat) = 0 ∧ Good (x :: l.flatMap Tm.flat) (.node x l)) ∨ (ofE (x :: l.flatMap Tm.flat) = 15 ∧ (64 < (x :: l.flatMap Tm.flat).length ∨ 12 < (Tm.node x l).depth)) := by
  have ht := joins_tree hm hl hk
  have hs := joins_sorted hb hk
  have hfs := joins_fields hf hk
  by_cases h1 : 64 < (x :: l.flatMap Tm.flat).length
  · exact .inr ⟨by unfold ofE; rw [if_pos h1], .inl h1⟩
  · by_cases h2 : (Tm.node x l).depth ≤ 12
    · have hG : Good (x :: l.flatMap Tm.flat) (.node x l) := ⟨ht, by omega, hfs, hs, h2⟩
      exact .inl ⟨hG.ofE, hG⟩
    · refine .inr ⟨?_, .inr (by omega)⟩
      unfold ofE
      rw [if_neg h1, ht]
      simp only
      rw [if_pos (List.all_eq_true.2 hfs), if_pos hs, if_neg h2]
theorem joins_ct (h2 : makesI x.op = 2) (hl : l.length = manyN x.op) (hb : ∀ i (h : i < l.length), makesI (l[i]).root.op = belI x.op i) (hf : fieldsB x = true) (hk : ∀ t ∈ l, Part t) :
    (ctE (x :: l.flatMap Tm.flat) = 0 ∧ Good (x :: l.flatMap Tm.flat) (.node x l)) ∨ (ctE (x :: l.flatMap Tm.flat) = 15 ∧ (64 < (x :: l.flatMap Tm.flat).length ∨ 12 < (Tm.node x l).depth)) := by
  rcases joins_of (by rw [h2]; decide) hl hb hf hk with ⟨h, hG⟩ | ⟨h, hd⟩
  · exact .inl ⟨ct_of_good hG h2, hG⟩
  · refine .inr ⟨?_, hd⟩
    unfold ctE
    rw [h, if_neg (by simp)]
end
theorem part_num {n : Int} (h : n = 0 ∨ n = 1) : Part (.node ⟨1, 0, 0, n, 1⟩ []) := by
  refine ⟨⟨(show makesI 1 ≠ 0 by decide), rfl, trivial⟩, by unfold Tm.sorted; simp [Tm.top, Tm.sorted.sorteds], fun y hy => ?_⟩
  rw [List.mem_singleton.1 hy]
  rcases h with rfl | rfl <;> decide +kernel
theorem part_zero : Part zeroT := by
  refine ⟨⟨by decide, rfl, trivial⟩, by unfold zeroT Tm.sorted; simp [Tm.top, Tm.sorted.sorteds], fun y hy => ?_⟩
  rw [List.mem_singleton.1 hy]
  decide +kernel
section
variable {env : Env} {ts us : List Nd} {T U : Tm} {day tod : Int}
theorem out_good (hG : Good ts T) (hm : makesI T.root.op = 2) (hr : ¬ (day < 0 ∨ 73048 < day ∨ tod < -1 ∨ 73048 < tod)) : outT env ts day tod = den env tod ⟨T, 0, day, 1, 1⟩ := out_den (ct_of_good hG hm) hr hG.tree
theorem out_late (hG : Good ts T) (hm : makesI T.root.op = 2) (hr : day < 0 ∨ 73048 < day ∨ tod < -1 ∨ 73048 < tod) : outT env ts day tod = (18, [], []) := out_day (ct_of_good hG hm) hr
def andN : Nd := ⟨12, 0, 0, 0, 0⟩
def whenN (a : Int) : Nd := ⟨14, a, 0, 0, 0⟩
theorem mk_when (a : Int) : makesI (Tm.node (whenN a) [T]).root.op = 2 := show makesI 14 = 2 by decide
theorem bel_one {m : Int} {op : Int} (h : makesI T.root.op = m) (hb : belI op 0 = m) : ∀ i (h : i < [T].length), makesI ([T][i]).root.op = belI op i := by
  intro i hi
  obtain rfl : i = 0 := by simpa using hi
  rw [hb]; exact h
theorem bel_two {m m' : Int} {op : Int} (h : makesI T.root.op = m) (h' : makesI U.root.op = m') (hb : belI op 0 = m) (hb' : belI op 1 = m') : ∀ i (h : i < [T, U].length), makesI ([T, U][i]).root.op = belI op i := by
  intro i hi
  rcases i with _ | _ | i
  · rw [hb]; exact h
  · rw [hb']; exact h'
  · simp at hi; omega
theorem partsB_one (h : Part T) : ∀ t ∈ [T], Part t := fun t ht => by rw [List.mem_singleton.1 ht]; exact h
theorem partsB_two (h : Part T) (k : Part U) : ∀ t ∈ [T, U], Part t := fun t ht => by
  rcases List.mem_cons.1 ht with rfl | ht
  · exact h
  · rw [List.mem_singleton.1 ht]; exact k
theorem when_flat (hG : Good ts T) (a : Int) : whenN a :: [T].flatMap Tm.flat = whenN a :: ts := by simp [(part_of hG).2]
theorem when_fields {a : Int} (h0 : 0 ≤ a) (h1 : a ≤ 73048) : fieldsB (whenN a) = true := by
  unfold fieldsB whenN limB withinB
  simp [h0, h1]
theorem when_out {a : Int} (hG : Good ts T) (hm : makesI T.root.op = 2) (hJ : Good (whenN a :: ts) (.node (whenN a) [T])) (h0 : 0 ≤ day) (h1 : day ≤ 73048) (a0 : 0 ≤ a) (a1 : a ≤ 73048) :
    (a < day → (outT env (whenN a :: ts) day tod).2.1 = []) ∧ (day ≤ a → outT env (whenN a :: ts) day tod = outT env ts a tod) := by
  have hw : makesI (Tm.node (whenN a) [T]).root.op = 2 := mk_when a
  by_cases hr : tod < -1 ∨ 73048 < tod
  · rw [out_late hJ hw (by omega), out_late hG hm (by omega)]; simp
  · rw [out_good hJ hw (by omega), out_good hG hm (by omega), show den env tod ⟨.node (whenN a) [T], 0, day, 1, 1⟩ = _ from den_when T 0 0 a day 1 1]
    refine ⟨fun h => by rw [if_neg (by omega)], fun h => by rw [if_pos h]⟩
end
end Go.Proofs.YtkjabiabeemfhaaGreatDoor
end
section
namespace Go.Proofs.YtkjabiabeemfhaaGreatDoor
open Go.RowKit Go.Sort
structure FcOk (s : FxL × ChL) (n : Nat) : Prop where
  fn : (s.1.map (·.1)).Nodup
  fo : FxOk s.1
  cn : (s.2.map (·.1)).Nodup
  co : ChOk s.2
  cl : s.2.length ≤ n
theorem FcOk.env {s : FxL × ChL} {n : Nat} (h : FcOk s n) : EnvOk (envT s.1 s.2) := envT_ok h.fo h.co
theorem putA_len {κ β : Type} [DecidableEq κ] (l : List (κ × β)) (k : κ) (v : β) : (putA l k v).length ≤ l.length + 1 := by
  unfold putA
  split
  · simp
  · simp
def tellS (s : FxL × ChL) (x : Td) : FxL × ChL := (tellFx s.1 x, tellCh s.2 x)
theorem FcOk.tell {s : FxL × ChL} {n : Nat} {x : Td} (h : FcOk s n) (hx : x.ok) : FcOk (tellS s x) (n + 1) := by
  refine ⟨tellFx_nodup h.fn, fxOk_step h.fn hx h.fo, tellCh_nodup h.cn, chOk_step h.cn h.co, ?_⟩
  show (tellCh s.2 x).length ≤ n + 1
  have := h.cl
  unfold tellCh chooseL
  split
  · split
    · have := putA_len s.2 (x.k, x.d) x.p; omega
    · omega
  · omega
theorem fcOk_nil : FcOk ([], []) 0 := ⟨List.nodup_nil, fun _ _ h => (by cases h), List.nodup_nil, fun _ _ h => (by cases h), Nat.le_refl _⟩
theorem fcOk_all (l : List Td) (hok : ∀ x ∈ l, x.ok) : ∀ (s : FxL × ChL) (n : Nat), FcOk s n → FcOk (l.foldl tellS s) (n + l.length) := by
  induction l with
  | nil => exact fun _ _ h => h
  | cons x r ih =>
    intro s n h
    have := ih (fun y hy => hok y (List.mem_cons_of_mem _ hy)) (tellS s x) (n + 1) (h.tell (hok x List.mem_cons_self))
    rwa [show n + (x :: r).length = n + 1 + r.length by simp; omega]
theorem tells_made (l : List Td) : ∀ s : FxL × ChL, l.foldl tellS s = (l.foldl tellFx s.1, l.foldl tellCh s.2) := by
  induction l with
  | nil => exact fun _ => rfl
  | cons x r ih => exact fun s => ih _
theorem fcOk_made (l : List Td) (hok : ∀ x ∈ l, x.ok) : FcOk (madeFx l, madeCh l) l.length := by
  have := fcOk_all l hok ([], []) 0 fcOk_nil
  rw [tells_made, Nat.zero_add] at this
  exact this
section
variable {s : FxL × ChL} {n : Nat} {x : Td}
end
end Go.Proofs.YtkjabiabeemfhaaGreatDoor
end
section
namespace Go.Proofs.YtkjabiabeemfhaaGreatDoor
open Go.RowKit
set_option maxRecDepth 100000
open Go.Sort
def ex9 : List Nd := [⟨12, 0, 0, 0, 0⟩, ⟨10, 0, 0, 0, 0⟩, ⟨13, 0, 0, 0, 0⟩, ⟨2, 1, 0, 0, 0⟩, ⟨10, 1, 0, 0, 0⟩]
def exT9 : Tm := .node ⟨12, 0, 0, 0, 0⟩ [.node ⟨10, 0, 0, 0, 0⟩ [], .node ⟨13, 0, 0, 0, 0⟩ [.node ⟨2, 1, 0, 0, 0⟩ [], .node ⟨10, 1, 0, 0, 0⟩ []]]
theorem ex9_tree : treeOf ex9 = some exT9 := treeOf_iff.2 ⟨⟨by decide, rfl, ⟨by decide, rfl, trivial⟩, ⟨by decide, rfl, ⟨by decide, rfl, trivial⟩, ⟨by decide, rfl, trivial⟩, trivial⟩, trivial⟩, rfl⟩
theorem ex9_good : Good ex9 exT9 := ⟨ex9_tree, by decide, by decide +kernel, by decide +kernel, by decide +kernel⟩
theorem ex9_ok : ∀ x ∈ ex9, x.ok := by
  intro x hx
  unfold ex9 at hx
  simp only [List.mem_cons, List.not_mem_nil, or_false] at hx
  rcases hx with rfl | rfl | rfl | rfl | rfl <;> (unfold Nd.ok I64; decide)
theorem ex9_den : den (envT [] []) 9 ⟨exT9, 0, 5, 1, 1⟩ = (0, [⟨5, 0, 1⟩], [⟨false, 1, 5⟩]) := by decide +kernel
theorem ex9_out : outT (envT [] []) ex9 5 9 = (0, [⟨5, 0, 1⟩], [⟨false, 1, 5⟩]) := (out_good ex9_good (by decide) (by decide)).trans ex9_den
theorem ex9_flows : flowsT (envT [] []) ex9 5 9 = [⟨5, 0, 1⟩] := by unfold flowsT; rw [ex9_out]; simp [sortL]
theorem ex9_waits : waitsT (envT [] []) ex9 5 9 = [⟨false, 1, 5⟩] := by unfold waitsT; rw [ex9_out]; simp [waitL, sortL, cmpL]
theorem flows_of_own {w : World} {b : Nat} {x : Fl} (h : Own w [(b, #[.int .i64 x.day, .int .i64 x.cur, .int .i64 x.amt])]) : IsFlows w (.slice (some ⟨b, 0, none⟩) 1 1) [x] := by
  obtain ⟨z, c, -⟩ := own_get h
  refine .inr ⟨b, 0, 1, rfl, z, Nat.le_refl _, by decide, fun i hi j hj => ?_⟩
  obtain rfl : i = 0 := by simpa using hi
  rw [Nat.zero_mul, Nat.add_zero, Nat.zero_add, c, List.getElem?_toArray]
  exact flCs_get x j hj
set_option maxHeartbeats 3200000 in
theorem dawake_any (w : World) (hS : Shapes w) : Calls Tryz.prog 17 #[] w fun e w' => e = .returned (.bool true) ∧ Later w w' := by
  have HNEW := Lib.hid fnew_any
  have HFL := Lib.hid (fun p m1 m2 v W (h : PreAt W ex9 v [] [] p m1 m2) => flows_any h 5 9)
  have HWT := Lib.hid (fun p m1 m2 v W (h : PreAt W ex9 v [] [] p m1 m2) => waits_any h 5 9)
  rw [ex9_out, ex9_flows] at HFL
  rw [ex9_out, ex9_waits] at HWT
  have HPRE := Lib.hid (fun p m1 m2 v W (hS : Shapes W) (hN : IsNodes W v ex9) (hF : FactsAt W p m1 m2 [] []) => (⟨by decide, ex9_ok, hS, hN, hF, fcOk_nil.fo, fcOk_nil.co, List.nodup_nil, by decide⟩ : PreAt W ex9 v [] [] p m1 m2))
  go_enter Tryz.func17, Tryz.ntmps17
  go_upto_region 2 with (first | refine wpList_built (node_build _) rfl rfl rfl ?_ | refine wpList_built (node_build1 _ _) rfl rfl rfl ?_ | refine wpList_builtS (nodes_five _ _ _ _ _ _ _ _ _ _ _ _ _ _ _ _ _ _ _ _ _ _ _ _ _) rfl rfl rfl ?_)
  refine wp_opaque (fun w1 hb1 => ?_)
  have hN1 : IsNodes w1 (.slice (some ⟨w.heap.size, 0, none⟩) 5 5) ex9 := nodes_of_own (Own.one hb1) ex9 rfl (by decide)
  have hl1 := hb1.un1
  have hS1 := hS.later hl1
  clear hb1 hS
  obtain ⟨V, hV⟩ : ∃ V : Value, .slice (some ⟨w.heap.size, 0, none⟩) 5 5 = V := ⟨_, rfl⟩
  rw [hV] at hN1 ⊢
  clear hV
  go_upto_region 3 with (first
    | (go_at_call 36; go_must (refine (HNEW.out _).mono ?_; rintro e w2 ⟨p, m1, m2, rfl, hF2, ge1, ge2, hb2⟩))
    | (go_at_call 18; go_must (refine (HFL.out _ _ _ _ _ (HPRE.out _ _ _ _ _ (hS1.later hb2) (hN1.later hb2) hF2)).mono ?_; rintro e w3 ⟨v3, rfl, hf3, hb3⟩; obtain ⟨q3, c3, rfl⟩ := hf3.form)))
  have hl3 := hb2.trans hb3
  have HF3 := Lib.hid hf3
  have hl03 := hl1.trans hl3
  clear hF2 ge1 ge2 hb2 hb3 hf3 HFL
  go_upto_region 4 with (first
    | (go_at_call 36; go_must (refine (HNEW.out _).mono ?_; rintro e w4 ⟨p4, m3, m4, rfl, hF4, ge1, ge2, hb4⟩))
    | (go_at_call 19; go_must (refine (HWT.out _ _ _ _ _ (HPRE.out _ _ _ _ _ (hS1.later (hl3.trans hb4)) (hN1.later (hl3.trans hb4)) hF4)).mono ?_; rintro e w5 ⟨v5, rfl, hf5, hb5⟩; obtain ⟨b5, o5, c5, hq5, hz5, g5⟩ := hf5.full (i := 0) (by decide); have hq5' : v5 = .slice (some ⟨b5, o5, none⟩) 1 c5 := hq5; subst hq5')))
  have hl5 := hb4.trans hb5
  have g50 := g5 0 (by decide)
  have g51 := g5 1 (by decide)
  have g52 := g5 2 (by decide)
  simp only [wtF, List.getElem_cons_zero, Nat.zero_mul, Nat.add_zero] at g50 g51 g52
  have HF5 := Lib.hid (HF3.out.later hl5)
  have hl05 := hl03.trans hl5
  clear hF4 ge1 ge2 hb4 hb5 hf5 HWT HNEW HPRE hN1 hS1 hl1 hl3 hl03 hl5 HF3 g5
  have HSM := Lib.hid (fun W (hl : Later w5 W) u (hM : IsFlows W u [⟨5, 0, 1⟩]) => lflows_any [⟨5, 0, 1⟩] [⟨5, 0, 1⟩] _ u W (HF5.out.later hl) hM (by decide))
  clear HF5
  go_wp2_with (go_at_call 23; go_must (refine (HSM.out _ ((Later.refl _).alloc _) _ (flows_of_own (x := ⟨5, 0, 1⟩) (own_alloc _ _ _))).mono ?_; rintro e w6 ⟨rfl, hb6⟩; have hl6 : Later w5 w6 := Later.un1 hb6; have i0 := ((bcell hl6).1 _ _ hz5).trans g50; have i1 := ((bcell hl6).1 _ _ hz5).trans g51; have i2 := ((bcell hl6).1 _ _ hz5).trans g52))
  go_ret
  exact ⟨rfl, hl05.trans hl6⟩
set_option maxHeartbeats 1600000 in
theorem lfew_any (ts : List Nd) (l : List Td) (v u : Value) (day tod : Int) (w : World) (hN : IsNodes w v ts) (hT : IsTolds w u l) :
    Calls Tryz.prog 16 #[.agg #[v, .int .i64 day, .int .i64 tod, u]] w fun e w' => e = .returned (.bool (decide (ts.length ≤ 100) && decide (l.length ≤ 60))) ∧ Later w w' := by
  obtain ⟨p, cp, rfl⟩ := hN.form
  obtain ⟨q, cq, rfl⟩ := hT.form
  generalize ts.length = N at *
  generalize l.length = M at *
  clear hN hT
  by_cases h1 : N ≤ 100
  · rw [decide_eq_true h1, Bool.true_and]
    have h1' : (N : Int) ≤ 100 := by omega
    by_cases h2 : M ≤ 60
    · rw [decide_eq_true h2]
      have h2' : (M : Int) ≤ 60 := by omega
      go_enter Tryz.func16, Tryz.ntmps16
      go_wp2
      go_ret
      exact ⟨rfl, by repeat (first | with_reducible exact Later.refl _ | with_reducible assumption | with_reducible refine Later.ofdrew ?_ | with_reducible refine Later.ofdrewN ?_ | with_reducible refine Later.setCell ?_ ?_ _ | with_reducible refine Later.alloc ?_ _ | with_reducible refine Later.drewN ?_ _ | with_reducible refine Later.drew ?_ | (with_reducible refine Later.trans ?_ (by assumption)) | (simp only [World.size_setCell, World.size_alloc, World.heap_drewN]; omega) | (simp; done) | (simp; omega))⟩
    · rw [decide_eq_false h2]
      have h2' : ¬ (M : Int) ≤ 60 := by omega
      go_enter Tryz.func16, Tryz.ntmps16
      go_wp2
      go_ret
      exact ⟨rfl, by repeat (first | with_reducible exact Later.refl _ | with_reducible assumption | with_reducible refine Later.ofdrew ?_ | with_reducible refine Later.ofdrewN ?_ | with_reducible refine Later.setCell ?_ ?_ _ | with_reducible refine Later.alloc ?_ _ | with_reducible refine Later.drewN ?_ _ | with_reducible refine Later.drew ?_ | (with_reducible refine Later.trans ?_ (by assumption)) | (simp only [World.size_setCell, World.size_alloc, World.heap_drewN]; omega) | (simp; done) | (simp; omega))⟩
  · rw [decide_eq_false h1, Bool.false_and]
    have h1' : ¬ (N : Int) ≤ 100 := by omega
    go_enter Tryz.func16, Tryz.ntmps16
    go_wp2
    go_ret
    exact ⟨rfl, by repeat (first | with_reducible exact Later.refl _ | with_reducible assumption | with_reducible refine Later.ofdrew ?_ | with_reducible refine Later.ofdrewN ?_ | with_reducible refine Later.setCell ?_ ?_ _ | with_reducible refine Later.alloc ?_ _ | with_reducible refine Later.drewN ?_ _ | with_reducible refine Later.drew ?_ | (with_reducible refine Later.trans ?_ (by assumption)) | (simp only [World.size_setCell, World.size_alloc, World.heap_drewN]; omega) | (simp; done) | (simp; omega))⟩
end Go.Proofs.YtkjabiabeemfhaaGreatDoor
end
