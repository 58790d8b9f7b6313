/- DenoteKnown: its walk -/
import Derived.Test.YtkjabiabeemfhaaGreatDoorZ16
import Derived.Test.YtkjabiabeemfhaaGreatDoorZ20
import Derived.Test.YtkjabiabeemfhaaGreatDoorZ38
import Derived.Test.YtkjabiabeemfhaaGreatDoorZ13
import Derived.Test.YtkjabiabeemfhaaGreatDoorZ31
import Derived.Test.YtkjabiabeemfhaaGreatDoorZ21
import Derived.Test.YtkjabiabeemfhaaGreatDoorZ11
set_option linter.all false
set_option linter.all false
section
namespace Go.Proofs.YtkjabiabeemfhaaGreatDoor
open Go.RowKit
set_option maxRecDepth 100000
theorem same_at {α : Type} {xs ys : List α} (hl : xs.length = ys.length) (h : ∀ i (h1 : i < xs.length) (h2 : i < ys.length), xs[i] = ys[i]) : xs = ys := List.ext_getElem hl h
set_option maxHeartbeats 1600000 in
theorem lflows_any (xs ys : List Fl) (u v : Value) (w : World) (hN : IsFlows w u xs) (hM : IsFlows w v ys) (hlen0 : xs.length ≤ 1000000) :
  Calls Tryz.prog 23 #[u, v] w fun e w' => e = .returned (.bool (decide (xs = ys))) ∧ Later w w' := by
 obtain ⟨p, cp, rfl⟩ := hN.form
 obtain ⟨q, cq, rfl⟩ := hM.form
 have HN := Lib.hid hN
 have HM := Lib.hid hM
 obtain ⟨R, hR⟩ : ∃ R, decide (xs = ys) = R := ⟨_, rfl⟩
 rw [hR]
 have HR := Lib.hid hR
 obtain ⟨N, hNL⟩ : ∃ N, xs.length = N := ⟨_, rfl⟩
 obtain ⟨M, hML⟩ : ∃ M, ys.length = M := ⟨_, rfl⟩
 rw [hNL] at HN hlen0 ⊢
 rw [hML] at HM ⊢
 have HL := Lib.hid (show xs.length = N ∧ ys.length = M from ⟨hNL, hML⟩)
 clear hR hN hM hNL hML
 by_cases hlen : N = M
 ·subst hlen
  go_enter Tryz.func23, Tryz.ntmps23
  go_wp2
  go_loopw [5] (fun s5 wr => ∃ j : Nat, j ≤ N ∧ s5 = .int .i64 j ∧ Hid (∀ i (h1 : i < xs.length) (h2 : i < ys.length), i < j → xs[i] = ys[i]) ∧ Later w wr) (fun s5 _ => N - (intOf s5).toNat)
  case atStart => exact ⟨0, Nat.zero_le _, rfl, Lib.hid (fun i _ _ h => by omega), Later.refl _⟩
  case round =>
   obtain ⟨j, hj, rfl, hall, hlat⟩ := hrel
   by_cases hlt : j < N
   ·have hjx : j < xs.length := by rw [HL.out.1]; exact hlt
    have hjy : j < ys.length := by rw [HL.out.2]; exact hlt
    obtain ⟨b, o, c1, hv, hb, g⟩ := HN.out.full (i := j) hjx
    obtain ⟨b', o', c2, hv', hb', g'⟩ := HM.out.full (i := j) hjy
    rw [HL.out.1] at hv
    rw [HL.out.2] at hv'
    cases hv
    cases hv'
    have e0 := ((bcell hlat).1 _ _ hb).trans (g 0 (by decide))
    have e1 := ((bcell hlat).1 _ _ hb).trans (g 1 (by decide))
    have e2 := ((bcell hlat).1 _ _ hb).trans (g 2 (by decide))
    have f0 := ((bcell hlat).1 _ _ hb').trans (g' 0 (by decide))
    have f1 := ((bcell hlat).1 _ _ hb').trans (g' 1 (by decide))
    have f2 := ((bcell hlat).1 _ _ hb').trans (g' 2 (by decide))
    simp only [flF, Nat.add_zero] at e0 e1 e2 f0 f1 f2
    by_cases heq : xs[j] = ys[j]
    ·have HA : Hid (∀ i (h1 : i < xs.length) (h2 : i < ys.length), i < j + 1 → xs[i] = ys[i]) := Lib.hid (fun i h1 h2 h3 => by
      by_cases h : i = j
      ·subst h; exact heq
      ·exact hall.out i h1 h2 (by omega))
     rw [← heq] at f0 f1 f2
     clear g g' HN HM hall heq
     generalize (xs[j]).day = x0 at *
     generalize (xs[j]).cur = x1 at *
     generalize (xs[j]).amt = x2 at *
     go_upto_region 6 with (fail)
     refine wp_region_plan 9 (.done [0, 1, 2, 3, 4, 5, 6, 7, 8]) (by kernel_rfl) (by kernel_rfl) (fun _ _ d _ _ h => by cases d <;> exact h) ?_
     repeat' (first
      | (refine plan_done (fun K hK => ?_); (first | (simp only [zq9]; repeat (go_big_quiet_step (fail))) | simp only [pick_nil]); refine wpQuiet_nil (hK _ ?_); clear hK K)
      | ((with_reducible refine at_list ?_); go_wp2_with (fail); first | refine behind_store (t := 9) (by decide) ?_ | refine behind (by with_reducible repeat (first | exact zq1 _ | assumption | refine zq2 ?_ | refine zq5 ?_ _ | refine zq6 ?_ _ | refine zq7 ?_ | refine zq8 ?_ (by assumption))) ?_))
     go_wp2
     go_roundw
     case rel => exact ⟨j + 1, by omega, by go_num, HA, hlat.drew⟩
     case measure => simp [intOf]; omega
    ·have HF : Hid (R = false) := Lib.hid (by rw [← HR.out, decide_eq_false_iff_not]; intro e; exact heq (by simp only [e]))
     have hne : ¬ ((xs[j]).day = (ys[j]).day ∧ (xs[j]).cur = (ys[j]).cur ∧ (xs[j]).amt = (ys[j]).amt) := fun ⟨a, b, c⟩ => heq (by
      cases hx : xs[j]; cases hy : ys[j]; rw [hx, hy] at a b c; simp only at a b c; rw [a, b, c])
     clear g g' HN HM hall heq HR
     generalize (xs[j]).day = x0 at *
     generalize (xs[j]).cur = x1 at *
     generalize (xs[j]).amt = x2 at *
     generalize (ys[j]).day = y0 at *
     generalize (ys[j]).cur = y1 at *
     generalize (ys[j]).amt = y2 at *
     by_cases h0 : x0 = y0
     ·subst h0
      by_cases h1 : x1 = y1
      ·subst h1
       have h2 : (x2 == y2) = false := by rw [beq_eq_false_iff_ne]; intro e; exact hne ⟨rfl, rfl, e⟩
       clear hne
       go_upto_region 6 with (fail)
       refine wp_region_plan 9 (.done [0, 1, 2, 3, 4, 5, 6, 7, 8]) (by kernel_rfl) (by kernel_rfl) (fun _ _ d _ _ h => by cases d <;> exact h) ?_
       repeat' (first
        | (refine plan_done (fun K hK => ?_); (first | (simp only [zq9]; repeat (go_big_quiet_step (fail))) | simp only [pick_nil]); refine wpQuiet_nil (hK _ ?_); clear hK K)
        | ((with_reducible refine at_list ?_); go_wp2_with (fail); first | refine behind_store (t := 9) (by decide) ?_ | refine behind (by with_reducible repeat (first | exact zq1 _ | assumption | refine zq2 ?_ | refine zq5 ?_ _ | refine zq6 ?_ _ | refine zq7 ?_ | refine zq8 ?_ (by assumption))) ?_))
       go_wp2
       go_ret
       exact ⟨by rw [HF.out]; rfl, hlat.drew⟩
      ·have h1' : (x1 == y1) = false := by rw [beq_eq_false_iff_ne]; exact h1
       clear hne h1
       go_upto_region 6 with (fail)
       refine wp_region_plan 9 (.done [0, 1, 2, 3, 4, 5, 6, 7, 8]) (by kernel_rfl) (by kernel_rfl) (fun _ _ d _ _ h => by cases d <;> exact h) ?_
       repeat' (first
        | (refine plan_done (fun K hK => ?_); (first | (simp only [zq9]; repeat (go_big_quiet_step (fail))) | simp only [pick_nil]); refine wpQuiet_nil (hK _ ?_); clear hK K)
        | ((with_reducible refine at_list ?_); go_wp2_with (fail); first | refine behind_store (t := 9) (by decide) ?_ | refine behind (by with_reducible repeat (first | exact zq1 _ | assumption | refine zq2 ?_ | refine zq5 ?_ _ | refine zq6 ?_ _ | refine zq7 ?_ | refine zq8 ?_ (by assumption))) ?_))
       go_wp2
       go_ret
       exact ⟨by rw [HF.out]; rfl, hlat.drew⟩
     ·have h0' : (x0 == y0) = false := by rw [beq_eq_false_iff_ne]; exact h0
      clear hne h0
      go_upto_region 6 with (fail)
      refine wp_region_plan 9 (.done [0, 1, 2, 3, 4, 5, 6, 7, 8]) (by kernel_rfl) (by kernel_rfl) (fun _ _ d _ _ h => by cases d <;> exact h) ?_
      repeat' (first
       | (refine plan_done (fun K hK => ?_); (first | (simp only [zq9]; repeat (go_big_quiet_step (fail))) | simp only [pick_nil]); refine wpQuiet_nil (hK _ ?_); clear hK K)
       | ((with_reducible refine at_list ?_); go_wp2_with (fail); first | refine behind_store (t := 9) (by decide) ?_ | refine behind (by with_reducible repeat (first | exact zq1 _ | assumption | refine zq2 ?_ | refine zq5 ?_ _ | refine zq6 ?_ _ | refine zq7 ?_ | refine zq8 ?_ (by assumption))) ?_))
      go_wp2
      go_ret
      exact ⟨by rw [HF.out]; rfl, hlat.drew⟩
   ·have HF : Hid (R = true) := Lib.hid (by
     rw [← HR.out, decide_eq_true_iff]
     exact same_at (by rw [HL.out.1, HL.out.2]) (fun i h1 h2 => hall.out i h1 h2 (by rw [HL.out.1] at h1; omega)))
    clear HR hall
    go_wp2
    go_ret
    exact ⟨by rw [HF.out]; rfl, hlat⟩
 ·have HF : Hid (R = false) := Lib.hid (by rw [← HR.out, decide_eq_false_iff_not]; intro e; have h1 := HL.out.1; have h2 := HL.out.2; rw [e] at h1; omega)
  have hne : ((N : Int) == (M : Int)) = false := by rw [beq_eq_false_iff_ne]; omega
  clear HR HN HM
  go_enter Tryz.func23, Tryz.ntmps23
  go_wp2
  go_ret
  exact ⟨by rw [HF.out]; rfl, by repeat (first | with_reducible (first | exact zq1 _ | assumption | refine zq2 ?_ | refine zq4 ?_ ?_ _ | refine zq5 ?_ _ | refine zq6 ?_ _ | refine zq7 ?_ | refine zq8 ?_ (by assumption)) | (simp only [zq10]; omega) | (simp; done) | (simp; omega))⟩
set_option maxHeartbeats 1600000 in
theorem lwaits_any (xs ys : List Wt) (u v : Value) (w : World) (hN : IsWaits w u xs) (hM : IsWaits w v ys) (hlen0 : xs.length ≤ 1000000) :
  Calls Tryz.prog 29 #[u, v] w fun e w' => e = .returned (.bool (decide (xs = ys))) ∧ Later w w' := by
 obtain ⟨p, cp, rfl⟩ := hN.form
 obtain ⟨q, cq, rfl⟩ := hM.form
 have HN := Lib.hid hN
 have HM := Lib.hid hM
 obtain ⟨R, hR⟩ : ∃ R, decide (xs = ys) = R := ⟨_, rfl⟩
 rw [hR]
 have HR := Lib.hid hR
 obtain ⟨N, hNL⟩ : ∃ N, xs.length = N := ⟨_, rfl⟩
 obtain ⟨M, hML⟩ : ∃ M, ys.length = M := ⟨_, rfl⟩
 rw [hNL] at HN hlen0 ⊢
 rw [hML] at HM ⊢
 have HL := Lib.hid (show xs.length = N ∧ ys.length = M from ⟨hNL, hML⟩)
 clear hR hN hM hNL hML
 by_cases hlen : N = M
 ·subst hlen
  go_enter Tryz.func29, Tryz.ntmps29
  go_wp2
  go_loopw [5] (fun s5 wr => ∃ j : Nat, j ≤ N ∧ s5 = .int .i64 j ∧ Hid (∀ i (h1 : i < xs.length) (h2 : i < ys.length), i < j → xs[i] = ys[i]) ∧ Later w wr) (fun s5 _ => N - (intOf s5).toNat)
  case atStart => exact ⟨0, Nat.zero_le _, rfl, Lib.hid (fun i _ _ h => by omega), Later.refl _⟩
  case round =>
   obtain ⟨j, hj, rfl, hall, hlat⟩ := hrel
   by_cases hlt : j < N
   ·have hjx : j < xs.length := by rw [HL.out.1]; exact hlt
    have hjy : j < ys.length := by rw [HL.out.2]; exact hlt
    obtain ⟨b, o, c1, hv, hb, g⟩ := HN.out.full (i := j) hjx
    obtain ⟨b', o', c2, hv', hb', g'⟩ := HM.out.full (i := j) hjy
    rw [HL.out.1] at hv
    rw [HL.out.2] at hv'
    cases hv
    cases hv'
    have e0 := ((bcell hlat).1 _ _ hb).trans (g 0 (by decide))
    have e1 := ((bcell hlat).1 _ _ hb).trans (g 1 (by decide))
    have e2 := ((bcell hlat).1 _ _ hb).trans (g 2 (by decide))
    have f0 := ((bcell hlat).1 _ _ hb').trans (g' 0 (by decide))
    have f1 := ((bcell hlat).1 _ _ hb').trans (g' 1 (by decide))
    have f2 := ((bcell hlat).1 _ _ hb').trans (g' 2 (by decide))
    simp only [wtF, Nat.add_zero] at e0 e1 e2 f0 f1 f2
    by_cases heq : xs[j] = ys[j]
    ·have HA : Hid (∀ i (h1 : i < xs.length) (h2 : i < ys.length), i < j + 1 → xs[i] = ys[i]) := Lib.hid (fun i h1 h2 h3 => by
      by_cases h : i = j
      ·subst h; exact heq
      ·exact hall.out i h1 h2 (by omega))
     rw [← heq] at f0 f1 f2
     clear g g' HN HM hall heq
     generalize (xs[j]).cho = x0 at *
     generalize (xs[j]).key = x1 at *
     generalize (xs[j]).day = x2 at *
     go_upto_region 6 with (fail)
     refine wp_region_plan 9 (.done [0, 1, 2, 3, 4, 5, 6, 7, 8]) (by kernel_rfl) (by kernel_rfl) (fun _ _ d _ _ h => by cases d <;> exact h) ?_
     repeat' (first
      | (refine plan_done (fun K hK => ?_); (first | (simp only [zq9]; repeat (go_big_quiet_step (fail))) | simp only [pick_nil]); refine wpQuiet_nil (hK _ ?_); clear hK K)
      | ((with_reducible refine at_list ?_); go_wp2_with (fail); first | refine behind_store (t := 9) (by decide) ?_ | refine behind (by with_reducible repeat (first | exact zq1 _ | assumption | refine zq2 ?_ | refine zq5 ?_ _ | refine zq6 ?_ _ | refine zq7 ?_ | refine zq8 ?_ (by assumption))) ?_))
     go_wp2
     go_roundw
     case rel => exact ⟨j + 1, by omega, by go_num, HA, hlat.drew⟩
     case measure => simp [intOf]; omega
    ·have HF : Hid (R = false) := Lib.hid (by rw [← HR.out, decide_eq_false_iff_not]; intro e; exact heq (by simp only [e]))
     have hne : ¬ ((xs[j]).cho = (ys[j]).cho ∧ (xs[j]).key = (ys[j]).key ∧ (xs[j]).day = (ys[j]).day) := fun ⟨a, b, c⟩ => heq (by
      cases hx : xs[j]; cases hy : ys[j]; rw [hx, hy] at a b c; simp only at a b c; rw [a, b, c])
     clear g g' HN HM hall heq HR
     generalize (xs[j]).cho = x0 at *
     generalize (xs[j]).key = x1 at *
     generalize (xs[j]).day = x2 at *
     generalize (ys[j]).cho = y0 at *
     generalize (ys[j]).key = y1 at *
     generalize (ys[j]).day = y2 at *
     by_cases h0 : x0 = y0
     ·subst h0
      by_cases h1 : x1 = y1
      ·subst h1
       have h2 : (x2 == y2) = false := by rw [beq_eq_false_iff_ne]; intro e; exact hne ⟨rfl, rfl, e⟩
       clear hne
       go_upto_region 6 with (fail)
       refine wp_region_plan 9 (.done [0, 1, 2, 3, 4, 5, 6, 7, 8]) (by kernel_rfl) (by kernel_rfl) (fun _ _ d _ _ h => by cases d <;> exact h) ?_
       repeat' (first
        | (refine plan_done (fun K hK => ?_); (first | (simp only [zq9]; repeat (go_big_quiet_step (fail))) | simp only [pick_nil]); refine wpQuiet_nil (hK _ ?_); clear hK K)
        | ((with_reducible refine at_list ?_); go_wp2_with (fail); first | refine behind_store (t := 9) (by decide) ?_ | refine behind (by with_reducible repeat (first | exact zq1 _ | assumption | refine zq2 ?_ | refine zq5 ?_ _ | refine zq6 ?_ _ | refine zq7 ?_ | refine zq8 ?_ (by assumption))) ?_))
       go_wp2
       go_ret
       exact ⟨by rw [HF.out]; rfl, hlat.drew⟩
      ·have h1' : (x1 == y1) = false := by rw [beq_eq_false_iff_ne]; exact h1
       clear hne h1
       go_upto_region 6 with (fail)
       refine wp_region_plan 9 (.done [0, 1, 2, 3, 4, 5, 6, 7, 8]) (by kernel_rfl) (by kernel_rfl) (fun _ _ d _ _ h => by cases d <;> exact h) ?_
       repeat' (first
        | (refine plan_done (fun K hK => ?_); (first | (simp only [zq9]; repeat (go_big_quiet_step (fail))) | simp only [pick_nil]); refine wpQuiet_nil (hK _ ?_); clear hK K)
        | ((with_reducible refine at_list ?_); go_wp2_with (fail); first | refine behind_store (t := 9) (by decide) ?_ | refine behind (by with_reducible repeat (first | exact zq1 _ | assumption | refine zq2 ?_ | refine zq5 ?_ _ | refine zq6 ?_ _ | refine zq7 ?_ | refine zq8 ?_ (by assumption))) ?_))
       go_wp2
       go_ret
       exact ⟨by rw [HF.out]; rfl, hlat.drew⟩
     ·have h0' : (x0 == y0) = false := by rw [beq_eq_false_iff_ne]; exact h0
      clear hne h0
      go_upto_region 6 with (fail)
      refine wp_region_plan 9 (.done [0, 1, 2, 3, 4, 5, 6, 7, 8]) (by kernel_rfl) (by kernel_rfl) (fun _ _ d _ _ h => by cases d <;> exact h) ?_
      repeat' (first
       | (refine plan_done (fun K hK => ?_); (first | (simp only [zq9]; repeat (go_big_quiet_step (fail))) | simp only [pick_nil]); refine wpQuiet_nil (hK _ ?_); clear hK K)
       | ((with_reducible refine at_list ?_); go_wp2_with (fail); first | refine behind_store (t := 9) (by decide) ?_ | refine behind (by with_reducible repeat (first | exact zq1 _ | assumption | refine zq2 ?_ | refine zq5 ?_ _ | refine zq6 ?_ _ | refine zq7 ?_ | refine zq8 ?_ (by assumption))) ?_))
      go_wp2
      go_ret
      exact ⟨by rw [HF.out]; rfl, hlat.drew⟩
   ·have HF : Hid (R = true) := Lib.hid (by
     rw [← HR.out, decide_eq_true_iff]
     exact same_at (by rw [HL.out.1, HL.out.2]) (fun i h1 h2 => hall.out i h1 h2 (by rw [HL.out.1] at h1; omega)))
    clear HR hall
    go_wp2
    go_ret
    exact ⟨by rw [HF.out]; rfl, hlat⟩
 ·have HF : Hid (R = false) := Lib.hid (by rw [← HR.out, decide_eq_false_iff_not]; intro e; have h1 := HL.out.1; have h2 := HL.out.2; rw [e] at h1; omega)
  have hne : ((N : Int) == (M : Int)) = false := by rw [beq_eq_false_iff_ne]; omega
  clear HR HN HM
  go_enter Tryz.func29, Tryz.ntmps29
  go_wp2
  go_ret
  exact ⟨by rw [HF.out]; rfl, by repeat (first | with_reducible (first | exact zq1 _ | assumption | refine zq2 ?_ | refine zq4 ?_ ?_ _ | refine zq5 ?_ _ | refine zq6 ?_ _ | refine zq7 ?_ | refine zq8 ?_ (by assumption)) | (simp only [zq10]; omega) | (simp; done) | (simp; omega))⟩
end Go.Proofs.YtkjabiabeemfhaaGreatDoor
end
section
namespace Go.Proofs.YtkjabiabeemfhaaGreatDoor
open Go.RowKit Go.Sort
section
variable {x : Nd} {l : List Tm}
end
section
variable {env : Env} {ts us : List Nd} {T U : Tm} {day tod : Int}
theorem out_good (hG : Good ts T) (hm : makesI T.root.op = 2) (hr : ¬ (day < 0 ∨ 73048 < day ∨ tod < -1 ∨ 73048 < tod)) : outT env ts day tod = den env tod ⟨T, 0, day, 1, 1⟩ := out_den (ct_of_good hG hm) hr hG.tree
end
theorem puts_sort (l : List Fl) : ∀ m : List Fl, l.foldl (insL ordF) (sortL ordF m) = sortL ordF (m ++ l) := by
 induction l with
 | nil => intro m; simp
 | cons x l ih =>
  intro m
  rw [List.foldl_cons, sort_put swoF totF, ih, List.append_assoc]
  rfl
theorem puts_nil (l : List Fl) : l.foldl (insL ordF) [] = sortL ordF l := by have := puts_sort l []; simpa [sortL] using this
end Go.Proofs.YtkjabiabeemfhaaGreatDoor
end
section
namespace Go.Proofs.YtkjabiabeemfhaaGreatDoor
open Go.RowKit
set_option maxRecDepth 100000
open Go.Sort
theorem flows_of_own {w : World} {b : Nat} {x : Fl} (h : Own w [(b, #[.int .i64 x.day, .int .i64 x.cur, .int .i64 x.amt])]) : IsFlows w (.slice (some ⟨b, 0, none⟩) 1 1) [x] := by
 obtain ⟨z, c, -⟩ := own_get h
 refine .inr ⟨b, 0, 1, rfl, z, Nat.le_refl _, by decide, fun i hi j hj => ?_⟩
 obtain rfl : i = 0 := by simpa using hi
 rw [Nat.zero_mul, Nat.add_zero, Nat.zero_add, c, List.getElem?_toArray]
 exact flCs_get x j hj
end Go.Proofs.YtkjabiabeemfhaaGreatDoor
end
section
namespace Go.Proofs.YtkjabiabeemfhaaGreatDoor
open Go.RowKit
set_option maxRecDepth 100000
structure Ops where
 go : Bool
 to' : Int
 fact : Td
def Ops.cell (x : Ops) : Nat → Value
 | 0 => .bool x.go
 | 1 => .int .i64 x.to'
 | j + 2 => x.fact.cell j
def Ops.ok (x : Ops) : Prop := I64 x.to' ∧ x.fact.ok
abbrev IsOps (w : World) (v : Value) (l : List Ops) : Prop := IsRow 8 Ops.cell w v l
theorem cells_of {w : World} {b i : Nat} {v : Value} (h : w.cell? ⟨b, i, none⟩ = some v) : ∃ o : Obj, w.heap[b]? = some o ∧ o.isCells = true := by
 unfold World.cell? at h
 cases ho : w.heap[b]? with
 | none => rw [ho] at h; cases h
 | some o =>
  rw [ho] at h
  cases o <;> first | exact ⟨_, rfl, rfl⟩ | cases h
theorem map_ne {w : World} {m b i : Nat} {v : Value} (hm : ∃ o : Obj, w.heap[m]? = some o ∧ o.isCells = false) (h : w.cell? ⟨b, i, none⟩ = some v) : b ≠ m := by
 rintro rfl
 obtain ⟨o, h1, h2⟩ := hm
 obtain ⟨o', h3, h4⟩ := cells_of h
 rw [h1] at h3
 cases h3
 rw [h2] at h4
 cases h4
theorem nodes_grown {w w' : World} {v : Value} {ts : List Nd} {m : Nat} (h : IsNodes w v ts) (hg : w.grownBy w' (some m)) (hm : ∃ o : Obj, w.heap[m]? = some o ∧ o.isCells = false) : IsNodes w' v ts := by
 have h' : IsRow 5 (fun (y : Nd) j => .int .i64 (y.cell j)) w v ts := h
 exact row_grown h' hg hm
section
variable {w w' : World} {b p m1 m2 mm : Nat} {ts : List Nd} {tv lv wv : Value} {s : RunS} {fx : FxL} {ch : ChL}
theorem RunAt.grown (h : RunAt w b ts tv lv wv s) (hg : w.grownBy w' (some mm)) (hm : ∃ o : Obj, w.heap[mm]? = some o ∧ o.isCells = false) : RunAt w' b ts tv lv wv s := by
 obtain ⟨⟨z, c, f⟩, -⟩ := id h.own
 have hne : b ≠ mm := map_ne (i := 0) hm (c 0)
 have hb := hg.block b z (fun e => hne (Option.some.inj e))
 exact ⟨Own.cons (Nat.lt_of_lt_of_le z hg.size) (fun i => (World.cell?_of_block (a := ⟨b, i, none⟩) hb).trans (c i)) (fun i hi => (World.frozen?_of_block (a := ⟨b, i, none⟩) hb).trans (f i hi)) trivial, nodes_grown h.nodes hg hm, row_grown h.held hg hm, row_grown h.waits hg hm, h.tb, h.lb, h.wb⟩
theorem FactsAt.lat (h : FactsAt w p m1 m2 fx ch) (hr : RunAt w b ts tv lv wv s) (hl : S.LatB (fun k => k = b) w w') : FactsAt w' p m1 m2 fx ch := by
 obtain ⟨⟨z, c, f⟩, -⟩ := id hr.own
 have e1 : m1 ≠ b := fun e => map_ne (h.map1 (.inl rfl)) (c 0) e.symm
 have e2 : m2 ≠ b := fun e => map_ne (h.map1 (.inr rfl)) (c 0) e.symm
 have ep : p ≠ b := by
  rintro rfl
  have h0 := h.c0
  have h2 := c 0
  have h1 := h.c1
  have h3 := c 1
  rw [h2] at h0
  have : tv = .map (some m1) := Option.some.inj h0
  rcases hr.nodes with ⟨⟨q, hq⟩, -⟩ | ⟨q, o, cap, hq, -⟩
  ·rw [hq] at this; cases this
  ·rw [hq] at this; cases this
 have hp : ∀ i v, w.cell? ⟨p, i, none⟩ = some v → w'.cell? ⟨p, i, none⟩ = some v := fun i v hv => by
  have zp : p < w.heap.size := by
   obtain ⟨o, ho, -⟩ := cells_of hv
   exact (Array.getElem?_eq_some_iff.1 ho).1
  exact (hl.cell (p := ⟨p, i, none⟩) zp ep).trans hv
 obtain ⟨es, cl, k1, k2⟩ := h.x1
 obtain ⟨es', cl', k1', k2'⟩ := h.x2
 exact ⟨hp _ _ h.c0, hp _ _ h.c1, ⟨es, cl, (hl.block m1 (Array.getElem?_eq_some_iff.1 k1).1 e1).trans k1, k2⟩, ⟨es', cl', (hl.block m2 (Array.getElem?_eq_some_iff.1 k1').1 e2).trans k1', k2'⟩, h.ne⟩
end
theorem GoEnd.rows {g : Int × List Fl × RunS} {w : World} {rb : Nat} {ts : List Nd} {tv lv wv : Value} {e : Ending} {w' : World} {X : Nat → Prop} (h : GoEnd g w rb ts tv lv wv e w') (hX : ∀ k, RunB rb tv lv wv k → ¬ X k) (hs : ∀ k, X k → k < w.heap.size) :
  ∃ fv lv' wv', e = .returned (.tuple #[fv, .int .i64 g.1]) ∧ IsFlows w' fv g.2.1 ∧ (∀ k, fv.ownBlock = some k → w.heap.size ≤ k) ∧ RunAt w' rb ts tv lv' wv' g.2.2 ∧ (∀ k, RunB rb tv lv' wv' k → ¬ X k) ∧ S.LatB (fun k => k = rb) w w' := by
 obtain ⟨fv, lv', wv', he, hf, hfz, hr, hn, hl⟩ := h
 refine ⟨fv, lv', wv', he, hf, hfz, hr, fun k hk hx => ?_, hl⟩
 rcases hn with ⟨rfl, rfl⟩ | hn
 ·exact hX k hk hx
 ·rcases hk with hk | hk | hk | hk
  ·exact hX k (.inl hk) hx
  ·exact hX k (.inr (.inl hk)) hx
  ·have := hn k (.inl hk); have := hs k hx; omega
  ·have := hn k (.inr hk); have := hs k hx; omega
end Go.Proofs.YtkjabiabeemfhaaGreatDoor
end
section
namespace Go.Proofs.YtkjabiabeemfhaaGreatDoor
open Go.RowKit Go.Sort
def exS : List Nd := [⟨13, 0, 0, 0, 0⟩, ⟨2, 1, 0, 0, 0⟩, ⟨10, 0, 0, 0, 0⟩]
def exTS : Tm := .node ⟨13, 0, 0, 0, 0⟩ [.node ⟨2, 1, 0, 0, 0⟩ [], .node ⟨10, 0, 0, 0, 0⟩ []]
theorem exS_tree : treeOf exS = some exTS := treeOf_iff.2 ⟨⟨by decide, rfl, ⟨by decide, rfl, trivial⟩, ⟨by decide, rfl, trivial⟩, trivial⟩, rfl⟩
theorem exS_good : Good exS exTS := ⟨exS_tree, by decide, by decide +kernel, by decide +kernel, by decide +kernel⟩
theorem exS_ok : ∀ x ∈ exS, x.ok := by
 intro x hx
 unfold exS at hx
 simp only [List.mem_cons, List.not_mem_nil, or_false] at hx
 rcases hx with rfl | rfl | rfl <;> (unfold Nd.ok I64; decide)
def exH : Hd := ⟨exTS, 0, 5, 1, 1⟩
theorem exS_size : sizesH [exH] = 3 := by decide +kernel
theorem exS_run1 : runQ (envT [] []) 6 3 [exH] = (0, [], [⟨false, 1, 5⟩]) := by decide +kernel
theorem exS_kept1 : keptQ (envT [] []) 6 3 [exH] = [exH] := by rfl
theorem exS_run2 : runQ (envT (fixL [] 1 5 3 1) []) 7 3 [exH] = (0, [⟨5, 0, 3⟩], []) := by decide +kernel
theorem exS_kept2 : keptQ (envT (fixL [] 1 5 3 1) []) 7 3 [exH] = [] := by rfl
theorem exS_go1 : goR (envT [] []) (newR exTS 5) 6 = (0, [], ⟨[exH], 6, [⟨false, 1, 5⟩]⟩) := by
 have e : (newR exTS 5).L = [exH] := rfl
 rw [goR_done (by show ¬ (6 < -1 ∨ 73048 < 6); decide) (by rw [e, exS_size, exS_run1]), e, exS_size, exS_run1, exS_kept1]
 simp [sortL, waitL, cmpL]
theorem exS_go2 : goR (envT (fixL [] 1 5 3 1) []) ⟨[exH], 6, [⟨false, 1, 5⟩]⟩ 7 = (0, [⟨5, 0, 3⟩], ⟨[], 7, []⟩) := by
 rw [goR_done (by show ¬ (7 < 6 ∨ 73048 < 7); decide) (by show (runQ _ 7 (sizesH [exH]) [exH]).1 = 0; rw [exS_size, exS_run2])]
 show (0, sortL ordF (runQ _ 7 (sizesH [exH]) [exH]).2.1, (⟨keptQ _ 7 (sizesH [exH]) [exH], 7, waitL (runQ _ 7 (sizesH [exH]) [exH]).2.2⟩ : RunS)) = _
 rw [exS_size, exS_run2, exS_kept2]
 simp [sortL, waitL, cmpL]
theorem rgo_facts {w : World} {ts : List Nd} {T : Tm} (hG : Good ts T) (hok : ∀ x ∈ ts, x.ok) (hS : Shapes w) {fx : FxL} {ch : ChL} {k : Nat} (hfc : FcOk (fx, ch) k) (hk : k ≤ 1000) {p m1 m2 : Nat} (hF : FactsAt w p m1 m2 fx ch) {rb : Nat} {tv lv wv : Value} {s : RunS} (h : RunAt w rb ts tv lv wv s) (hs : RunOk ts s) (hsz : sizesH s.L ≤ 64) (tod : Int) :
  Calls Tryz.prog 38 #[.pointer (some ⟨rb, 0, none⟩), .int .i64 tod, .pointer (some ⟨p, 0, none⟩)] w (GoEnd (goR (envT fx ch) s tod) w rb ts tv lv wv) :=
 rgo_any ⟨hG, hok, hS, h.nodes, hF, hfc.fo, hfc.co, hfc.cn, Nat.le_trans hfc.cl (by omega)⟩ h hs hsz tod
theorem newR_size {T : Tm} {ts : List Nd} (hG : Good ts T) (day : Int) : sizesH (newR T day).L ≤ 64 := by
 show sizesH [⟨T, 0, day, 1, 1⟩] ≤ 64
 simp only [sizesH, List.map_cons, List.map_nil, List.sum_cons, List.sum_nil, Nat.add_zero]
 rw [hG.at.2]
 exact hG.len
theorem lat_one {w0 w w' : World} {b : Nat} (hl : Later w0 w) (h : S.LatB (fun k => k = b) w w') (hb : w0.heap.size ≤ b) : Later w0 w' := lat_base h hl (fun k hk => by rw [hk]; exact hb)
theorem exS_nodes (w : World) (ta : TypeId) : IsNodes (w.alloc (.cells #[.int .i64 13, .int .i64 0, .int .i64 0, .int .i64 0, .int .i64 0, .int .i64 2, .int .i64 1, .int .i64 0, .int .i64 0, .int .i64 0, .int .i64 10, .int .i64 0, .int .i64 0, .int .i64 0, .int .i64 0] ta)) (.slice (some ⟨w.heap.size, 0, none⟩) 3 3) exS :=
 nodes_of_own (own_alloc w _ ta) exS rfl (by decide)
set_option maxRecDepth 20000 in
set_option maxHeartbeats 3200000 in
theorem sawake_any (w : World) (hS : Shapes w) : Calls Tryz.prog 34 #[] w fun e w' => e = .returned (.bool true) ∧ Later w w' := by
 have HNEW := Lib.hid fnew_any
 have HNR := Lib.hid (fun (v : Value) W (hl : Later w W) (hN : IsNodes W v exS) => rnew_good exS exTS exS_good (by decide) exS_ok v 5 W (hS.later hl) hN (by decide) (by decide))
 have HG1 := Lib.hid (fun W (hl : Later w W) p m1 m2 rb tv lv wv (hF : FactsAt W p m1 m2 [] []) (h : RunAt W rb exS tv lv wv (newR exTS 5)) => rgo_facts exS_good exS_ok (hS.later hl) fcOk_nil (by decide) hF h (new_ok exS_good (by decide) (by decide) (by decide)) (newR_size exS_good 5) 6)
 rw [exS_go1] at HG1
 have hok1 : RunOk exS ⟨[exH], 6, [⟨false, 1, 5⟩]⟩ := by
  have := goR_ok exS_good exS_ok fcOk_nil.env (new_ok exS_good (by decide) (day := 5) (by decide) (by decide)) 6
  rw [exS_go1] at this
  exact this
 have hfc1 : FcOk (fixL [] 1 5 3 1, []) 1 := fcOk_nil.tell (x := ⟨false, 1, 5, 3, 1, 0⟩) (by unfold Td.ok I64; decide)
 have HG2 := Lib.hid (fun W (hl : Later w W) p m1 m2 rb tv lv wv (hF : FactsAt W p m1 m2 (fixL [] 1 5 3 1) []) (h : RunAt W rb exS tv lv wv ⟨[exH], 6, [⟨false, 1, 5⟩]⟩) => rgo_facts exS_good exS_ok (hS.later hl) hfc1 (by decide) hF h hok1 (by show sizesH [exH] ≤ 64; rw [exS_size]; decide) 7)
 rw [exS_go2] at HG2
 have HFX := Lib.hid (fun p m1 m2 W (hF : FactsAt W p m1 m2 [] []) => fix_any p m1 m2 [] [] 1 5 3 1 W hF ⟨by decide, by decide⟩ ⟨by decide, by decide⟩ ⟨by decide, by decide⟩ ⟨by decide, by decide⟩)
 clear hok1 hfc1 hS
 go_enter Tryz.func34, Tryz.ntmps34
 go_upto_region 2 with (first | (go_at_call 35; go_must (refine (HNR.out _ _ ((Later.refl _).alloc _) (exS_nodes _ _)).mono ?_; rintro e w1 ⟨rb, tv, lv, wv, rfl, hr1, hz1, hb1⟩)) | refine wpList_built (node_build _) rfl rfl rfl ?_ | refine wpList_built (node_build1 _ _) rfl rfl rfl ?_ | refine wpList_builtS (nodes_three _ _ _ _ _ _ _ _ _ _ _ _ _ _ _) rfl rfl rfl ?_)
 have hl1 : Later w w1 := hb1.un1
 have hrb : w.heap.size ≤ rb := by have := (hz1 rb (.inl rfl)).1; rw [World.size_alloc] at this; omega
 have HR1 := Lib.hid hr1
 clear hr1 hz1 hb1
 go_upto_region 3 with (go_at_call 36; go_must (refine (HNEW.out _).mono ?_; rintro e w2 ⟨p, m1, m2, rfl, hF2, ge1, ge2, hb2⟩))
 have HR2 := Lib.hid (HR1.out.later hb2)
 have HF2 := Lib.hid hF2
 have hl2 := hl1.trans hb2
 have hm1 : w.heap.size ≤ m1 := Nat.le_trans hl1.size ge1
 clear hF2 hb2 ge1 ge2 HR1
 go_upto_region 6 with (go_at_call 38; go_must (refine (HG1.out _ hl2 _ _ _ _ _ _ _ HF2.out HR2.out).mono ?_; rintro e w3 ⟨fv, lv3, wv3, rfl, hf3, -, hr3, -, hb3⟩; obtain ⟨q3, c3, hq3⟩ := hf3.form; replace hq3 : fv = .slice q3 0 c3 := hq3; subst hq3))
 have hl3 := lat_one hl2 hb3 hrb
 have HF3 := Lib.hid (HF2.out.lat HR2.out hb3)
 have HR3 := Lib.hid hr3
 clear hr3 hf3 hb3 HF2 HR2 HG1 hl2
 go_upto_region 7 with (first | refine wpList_built (ratio_build _ _) rfl rfl rfl ?_ | refine wpList_built (fixing_build _ _ _ _) rfl rfl rfl ?_ | (go_at_call 72; go_must (refine (HFX.out _ _ _ _ HF3.out).mono ?_; rintro e w4 ⟨rfl, hF4, hb4⟩)))
 have HR4 := Lib.hid (HR3.out.grown hb4 (HF3.out.map1 (.inl rfl)))
 have HF4 := Lib.hid hF4
 have hl4 : Later w w4 := hl3.grown hb4 (fun k hk => by cases hk; exact hm1)
 clear hF4 hb4 HF3 HR3 HFX hl3
 go_upto_region 8 with (go_at_call 38; go_must (refine (HG2.out _ hl4 _ _ _ _ _ _ _ HF4.out HR4.out).mono ?_; rintro e w5 ⟨fv5, lv5, wv5, rfl, hf5, -, hr5, -, hb5⟩; obtain ⟨q5, c5, hq5⟩ := hf5.form; replace hq5 : fv5 = .slice q5 1 c5 := hq5; subst hq5))
 have hl5 := lat_one hl4 hb5 hrb
 have HF5 := Lib.hid hf5
 have HR5 := Lib.hid hr5
 have HSM := Lib.hid (fun W (hl : Later w5 W) u (hM : IsFlows W u [⟨5, 0, 3⟩]) => lflows_any [⟨5, 0, 3⟩] [⟨5, 0, 3⟩] _ u W (HF5.out.later hl) hM (by decide))
 have HOV := Lib.hid (fun W (hl : Later w5 W) => rover_any (HR5.out.later hl))
 have HDY := Lib.hid (fun W (hl : Later w5 W) => rday_any (HR5.out.later hl))
 clear hf5 hr5 hb5 HF4 HR4 HG2 hl4
 go_wp2_with (first
  | (go_at_call 23; go_must (refine (HSM.out _ ((Later.refl _).alloc _) _ (flows_of_own (x := ⟨5, 0, 3⟩) (own_alloc _ _ _))).mono ?_; rintro e w6 ⟨rfl, hb6⟩; have hl6 : Later w5 w6 := Later.un1 hb6))
  | (go_at_call 41; go_must (refine (HOV.out _ hl6).mono ?_; rintro e w7 ⟨rfl, hb7⟩))
  | (go_at_call 40; go_must (refine (HDY.out _ (hl6.trans hb7)).mono ?_; rintro e w8 ⟨rfl, hb8⟩)))
 go_ret
 exact ⟨rfl, hl5.trans ((hl6.trans hb7).trans hb8)⟩
theorem run_few (env : Env) (tod : Int) : ∀ (n : Nat) (q : List Hd), (runQ env tod n q).2.1.length ≤ sizesH q ∧ (runQ env tod n q).2.2.length ≤ 128 * sizesH q := by
 intro n
 induction n with
 | zero => intro q; exact ⟨Nat.zero_le _, Nat.zero_le _⟩
 | succ n ih =>
  intro q
  cases q with
  | nil => exact ⟨Nat.zero_le _, Nat.zero_le _⟩
  | cons h r =>
   obtain ⟨a1, a2⟩ := ih (r ++ (oneH env tod h).2.1)
   obtain ⟨b1, b2⟩ := one_few env tod h
   have hlt := one_lt env tod h
   have hs : sizesH (h :: r) = h.T.size + sizesH r := by simp [sizesH]
   have hs2 : sizesH (r ++ (oneH env tod h).2.1) = sizesH r + sizesH (oneH env tod h).2.1 := sizesH_app _ _
   have hlt' : sizesH (oneH env tod h).2.1 < h.T.size := hlt
   simp only [runQ]
   split
   ·exact ⟨Nat.zero_le _, Nat.zero_le _⟩
   ·unfold comb
    simp only [ne_eq, not_true_eq_false, if_false]
    split
    ·exact ⟨Nat.zero_le _, Nat.zero_le _⟩
    ·simp only [List.length_append]
     omega
theorem goR_few {env : Env} {s : RunS} (tod : Int) (h : sizesH s.L ≤ 64) (hW : s.W.length ≤ 8192) : (goR env s tod).2.1.length ≤ 64 ∧ (goR env s tod).2.2.W.length ≤ 8192 := by
 obtain ⟨a, b⟩ := run_few env tod (sizesH s.L) s.L
 by_cases h0 : tod < s.day ∨ 73048 < tod
 ·rw [goR_early h0]; exact ⟨Nat.zero_le _, hW⟩
 ·by_cases h1 : (runQ env tod (sizesH s.L) s.L).1 = 0
  ·rw [goR_done h0 h1]
   refine ⟨by show (sortL ordF _).length ≤ 64; rw [(sortL_perm _ _).length_eq]; omega, ?_⟩
   show (waitL _).length ≤ 8192
   unfold waitL
   exact Nat.le_trans (cmpL_le _) (by rw [(sortL_perm _ _).length_eq]; omega)
  ·rw [goR_over h0 h1]; exact ⟨Nat.zero_le _, hW⟩
structure RunFit (ts : List Nd) (s : RunS) : Prop where
 ok : RunOk ts s
 sz : sizesH s.L ≤ 64
 wl : s.W.length ≤ 8192
theorem RunFit.new {ts : List Nd} {T : Tm} (hG : Good ts T) (hm : makesI T.root.op = 2) {day : Int} (h0 : 0 ≤ day) (h1 : day ≤ 73048) : RunFit ts (newR T day) := ⟨new_ok hG hm h0 h1, newR_size hG day, Nat.zero_le _⟩
theorem RunFit.go {ts : List Nd} {T : Tm} {env : Env} (hG : Good ts T) (hok : ∀ x ∈ ts, x.ok) (hE : EnvOk env) {s : RunS} (h : RunFit ts s) (tod : Int) : RunFit ts (goR env s tod).2.2 := ⟨goR_ok hG hok hE h.ok tod, goR_size tod h.sz, (goR_few tod h.sz h.wl).2⟩
noncomputable def newE (ts : List Nd) (day : Int) : Int := if ctE ts ≠ 0 then ctE ts else if day < 0 ∨ 73048 < day then 18 else 0
theorem newE_zero {ts : List Nd} {day : Int} (h : newE ts day = 0) : ctE ts = 0 ∧ 0 ≤ day ∧ day ≤ 73048 := by
 unfold newE at h
 split at h
 ·rename_i h1; exact absurd h h1
 ·rename_i h1
  split at h
  ·cases h
  ·exact ⟨by omega, by omega, by omega⟩
theorem rnew_no (ts : List Nd) (hlen : ts.length ≤ 100000) (hok : ∀ x ∈ ts, x.ok) (tv : Value) (day : Int) (w : World) (hS : Shapes w) (hN : IsNodes w tv ts) (h0 : newE ts day ≠ 0) :
  Calls Tryz.prog 35 #[tv, .int .i64 day] w fun e w' => e = .returned (.tuple #[.pointer none, .int .i64 (newE ts day)]) ∧ Later w w' := by
 unfold newE at h0 ⊢
 by_cases h1 : ctE ts = 0
 ·rw [if_neg (by rw [h1]; simp)] at h0 ⊢
  by_cases h2 : day < 0 ∨ 73048 < day
  ·rw [if_pos h2]
   exact rnew_day ts hlen hok tv day w hS hN h1 h2
  ·rw [if_neg h2] at h0; exact absurd rfl h0
 ·rw [if_pos h1]
  exact rnew_wrong ts hlen hok tv day w hS hN h1
theorem rnew_yes (ts : List Nd) (hok : ∀ x ∈ ts, x.ok) (tv : Value) (day : Int) (w : World) (hS : Shapes w) (hN : IsNodes w tv ts) (h0 : newE ts day = 0) {T : Tm} (hG : Good ts T) (hm : makesI T.root.op = 2) :
  Calls Tryz.prog 35 #[tv, .int .i64 day] w fun e w' => ∃ b tv' lv' wv', e = .returned (.tuple #[.pointer (some ⟨b, 0, none⟩), .int .i64 0]) ∧ RunAt w' b ts tv' lv' wv' (newR T day) ∧ (∀ k, RunB b tv' lv' wv' k → w.heap.size ≤ k ∧ k < w'.heap.size) ∧ Later w w' := by
 obtain ⟨-, h1, h2⟩ := newE_zero h0
 exact rnew_good ts T hG hm hok tv day w hS hN h1 h2
theorem FcOk.more {s : FxL × ChL} {n : Nat} (h : FcOk s n) : FcOk s (n + 1) := ⟨h.1, h.2, h.3, h.4, Nat.le_succ_of_le h.5⟩
theorem tell_grown {w0 w w' : World} {p m1 m2 mm : Nat} {fx : FxL} {ch : ChL} (hl : Later w0 w) (hF : FactsAt w p m1 m2 fx ch) (h1 : w0.heap.size ≤ m1) (h2 : w0.heap.size ≤ m2) (hm : mm = m1 ∨ mm = m2) (hg : w.grownBy w' (some mm)) : Later w0 w' :=
 hl.grown hg (fun k hk => by cases hk; rcases hm with rfl | rfl <;> assumption)
theorem insF_len (l : List Fl) (x : Fl) : (insL ordF l x).length = l.length + 1 := by
 unfold insL
 simp only [List.length_append, List.length_cons, List.length_nil]
 have := congrArg List.length (List.takeWhile_append_dropWhile (p := fun y => !ltOf ordF x y) (l := l))
 simp only [List.length_append] at this
 omega
section
variable {env : Env} {ts : List Nd} {T : Tm} {day last : Int} {s : RunS} {F : List Fl}
theorem go_cases (env : Env) (s : RunS) (tod : Int) : (tod < s.day ∨ 73048 < tod) ∧ goR env s tod = (18, [], s) ∨ ¬ (tod < s.day ∨ 73048 < tod) ∧ ((runQ env tod (sizesH s.L) s.L).1 = 0 ∧ (goR env s tod).1 = 0 ∨ (runQ env tod (sizesH s.L) s.L).1 ≠ 0 ∧ goR env s tod = ((runQ env tod (sizesH s.L) s.L).1, [], s)) := by
 by_cases h : tod < s.day ∨ 73048 < tod
 ·exact .inl ⟨h, goR_early h⟩
 ·by_cases h1 : (runQ env tod (sizesH s.L) s.L).1 = 0
  ·exact .inr ⟨h, .inl ⟨h1, by rw [goR_done h h1]⟩⟩
  ·exact .inr ⟨h, .inr ⟨h1, goR_over h h1⟩⟩
end
end Go.Proofs.YtkjabiabeemfhaaGreatDoor
end
section
namespace Go.Proofs.YtkjabiabeemfhaaGreatDoor
open Go.RowKit Go.Sort
def freshB (ts : List Nd) (s : FxL × ChL) (x : Td) (day : Int) : Bool :=
 if x.c then !((getA s.2 (x.k, x.d)).isSome || ts.any (fun y => y.op == 17 && (y.a == x.k && (x.p == 1 && decide (x.d ≤ day))))) else !(getA s.1 (x.k, x.d)).isSome
section
variable {ts : List Nd} {T : Tm} {s : FxL × ChL} {n : Nat} {x : Td} {day : Int}
theorem fresh_env (h : FcOk s n) (hf : freshB ts s x day = true) : EnvLeD ts day (envT s.1 s.2) (envT (tellS s x).1 (tellS s x).2) := by
 have hx : x.c = false → getA s.1 (x.k, x.d) = none := fun hc => by
  unfold freshB at hf
  rw [hc] at hf
  simpa using hf
 have hy : x.c = true → getA s.2 (x.k, x.d) = none ∧ ∀ y ∈ ts, y.op = 17 → y.a = x.k → x.p = 1 → ¬ x.d ≤ day := fun hc => by
  unfold freshB at hf
  rw [hc] at hf
  simp only [if_true, Bool.not_eq_true', Bool.or_eq_false_iff, Option.isSome_eq_false_iff, Option.isNone_iff_eq_none, List.any_eq_false] at hf
  refine ⟨hf.1, fun y hy h17 ha hp hd => ?_⟩
  have := hf.2 y hy
  simp [h17, ha, hp, hd] at this
 refine ⟨?_, ?_, ?_⟩
 ·exact fun day' k v hv => tell_get h hx day' k v hv
 ·exact fun k d p hp => tell_cho h (fun hc => (hy hc).1) k d p hp
 ·intro y hyt h17 d hd he
  have he' : getC (tellCh s.2 x) y.a d = some 1 := he
  show getC s.2 y.a d = some 1
  rcases tell_other (x := x) h y.a d with e | ⟨hc, e1, e2, e3⟩
  ·rw [← e]; exact he'
  ·rw [e3] at he'
   have hp : x.p = 1 := Option.some.inj he'
   exact absurd (by omega) ((hy hc).2 y hyt h17 e1 hp)
theorem go_pays {env : Env} {from' : Int} (hG : Good ts T) (hm : makesI T.root.op = 2) (hok : ∀ x ∈ ts, x.ok) (hE : EnvOk env) (h0 : 0 ≤ from') (h1 : from' ≤ 73048) {r : RunS} {F : List Fl} (hf : RunFit ts r) (hC : Comes ts env ⟨T, 0, from', 1, 1⟩ F r) {tod : Int} (hc : (goR env r tod).1 = 0) :
  (outT env ts from' tod).1 = 0 ∧ flowsT env ts from' tod = sortL ordF (F ++ (goR env r tod).2.1) ∧ waitsT env ts from' tod = (goR env r tod).2.2.W ∧ (goR env r tod).2.2.day = tod ∧ Comes ts env ⟨T, 0, from', 1, 1⟩ (F ++ (goR env r tod).2.1) (goR env r tod).2.2 := by
 rcases go_cases env r tod with ⟨-, e⟩ | ⟨k0, ⟨k1, -⟩ | ⟨k1, e⟩⟩
 ·rw [e] at hc; cases hc
 ·obtain ⟨d1, d2, d3, d4⟩ := go_comes hG hok hE hf.ok hC k0 k1
  have hd := hf.ok.d0
  have ho : outT env ts from' tod = den env tod ⟨T, 0, from', 1, 1⟩ := out_good hG hm (by omega)
  refine ⟨by rw [ho]; exact d1, ?_, ?_, by rw [goR_done k0 k1], d4⟩
  ·unfold flowsT; rw [ho]; exact d2
  ·unfold waitsT; rw [ho]; exact d3
 ·rw [e] at hc; exact absurd hc k1
theorem go_not {env : Env} {r : RunS} {tod : Int} (hc : (goR env r tod).1 ≠ 0) : (goR env r tod).2.2 = r ∧ (goR env r tod).2.1 = [] := by
 have := goR_fail hc
 rw [this]
 exact ⟨rfl, rfl⟩
end
end Go.Proofs.YtkjabiabeemfhaaGreatDoor
end
section
namespace Go.Proofs.YtkjabiabeemfhaaGreatDoor
open Go.RowKit
set_option maxRecDepth 100000
theorem gotF_some (fx : FxL) (k d : Int) : (gotF fx k d).2.2 = (getA fx (k, d)).isSome := by unfold gotF; cases getA fx (k, d) <;> rfl
end Go.Proofs.YtkjabiabeemfhaaGreatDoor
end
