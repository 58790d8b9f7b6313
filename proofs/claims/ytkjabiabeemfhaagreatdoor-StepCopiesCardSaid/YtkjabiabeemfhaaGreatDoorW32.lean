/- StepGives: its walk -/
import Derived.Test.YtkjabiabeemfhaaGreatDoorW31
import Derived.Test.YtkjabiabeemfhaaGreatDoorW14
import Derived.Test.YtkjabiabeemfhaaGreatDoorW18
import Derived.Test.YtkjabiabeemfhaaGreatDoorW30
import Derived.Test.YtkjabiabeemfhaaGreatDoorW29
import Derived.Test.YtkjabiabeemfhaaGreatDoorW16
import Derived.Test.YtkjabiabeemfhaaGreatDoorW11
import Derived.Shelf.Spec.SlicesGrow
import Derived.Ground.Names8Prog
import Derived.Test.YtkjabiabeemfhaaGreatDoorProg
import Derived.Test.YtkjabiabeemfhaaGreatDoorW9
import Derived.Test.YtkjabiabeemfhaaGreatDoorW10
set_option linter.all false
set_option linter.all false
section
namespace Go.Proofs.YtkjabiabeemfhaaGreatDoor
open Go.RowKit Go.Sort
def aheadB (x y : Fl) : Bool := !(ltOf ordF) y x
theorem ahead_true {x y : Fl} (h : ¬ ltF y x) : aheadB x y = true := by unfold aheadB; rw [not_lt ltF_iff |>.2 h]; rfl
theorem ahead_false {x y : Fl} (h : ltF y x) : aheadB x y = false := by unfold aheadB; rw [(ltF_iff y x).2 h]; rfl
def flV (x : Fl) : Value := .agg #[.int .i64 x.day, .int .i64 x.cur, .int .i64 x.amt]
set_option maxHeartbeats 1600000 in
theorem rahead_any (x y : Fl) (w : World) : Calls Tryz.prog 79 #[flV x, flV y] w fun e w' => e = .returned (.bool (aheadB x y)) ∧ Later w w' := by
  obtain ⟨a, b, c⟩ := x
  obtain ⟨a', b', c'⟩ := y
  unfold flV
  simp only
  obtain ⟨R, hR⟩ : ∃ R, aheadB ⟨a, b, c⟩ ⟨a', b', c'⟩ = R := ⟨_, rfl⟩
  rw [hR]
  have hcase : (a ≠ a' ∧ a < a' ∧ R = true) ∨ (a ≠ a' ∧ ¬ a < a' ∧ R = false) ∨ (a = a' ∧ b ≠ b' ∧ b < b' ∧ R = true) ∨ (a = a' ∧ b ≠ b' ∧ ¬ b < b' ∧ R = false) ∨ (a = a' ∧ b = b' ∧ c ≤ c' ∧ R = true) ∨ (a = a' ∧ b = b' ∧ ¬ c ≤ c' ∧ R = false) := by
    by_cases h1 : a = a'
    · by_cases h2 : b = b'
      · by_cases h3 : c ≤ c'
        · exact .inr (.inr (.inr (.inr (.inl ⟨h1, h2, h3, by rw [← hR]; exact ahead_true (by unfold ltF; simp only; omega)⟩))))
        · exact .inr (.inr (.inr (.inr (.inr ⟨h1, h2, h3, by rw [← hR]; exact ahead_false (by unfold ltF; simp only; omega)⟩))))
      · by_cases h3 : b < b'
        · exact .inr (.inr (.inl ⟨h1, h2, h3, by rw [← hR]; exact ahead_true (by unfold ltF; simp only; omega)⟩))
        · exact .inr (.inr (.inr (.inl ⟨h1, h2, h3, by rw [← hR]; exact ahead_false (by unfold ltF; simp only; omega)⟩)))
    · by_cases h3 : a < a'
      · exact .inl ⟨h1, h3, by rw [← hR]; exact ahead_true (by unfold ltF; simp only; omega)⟩
      · exact .inr (.inl ⟨h1, h3, by rw [← hR]; exact ahead_false (by unfold ltF; simp only; omega)⟩)
  clear hR
  rcases hcase with ⟨h1, h2, rfl⟩ | ⟨h1, h2, rfl⟩ | ⟨rfl, h1, h2, rfl⟩ | ⟨rfl, h1, h2, rfl⟩ | ⟨rfl, rfl, h2, rfl⟩ | ⟨rfl, rfl, h2, rfl⟩
  · have hb : (a == a') = false := by rw [beq_eq_false_iff_ne]; exact h1
    clear h1
    go_enter Tryz.func79, Tryz.ntmps79
    go_wp2
    go_ret
    exact ⟨rfl, by repeat (first | with_reducible exact Later.refl _ | with_reducible assumption | with_reducible refine Later.ofdrew ?_ | with_reducible refine Later.ofdrewN ?_ | with_reducible refine Later.setCell ?_ ?_ _ | with_reducible refine Later.alloc ?_ _ | with_reducible refine Later.drewN ?_ _ | with_reducible refine Later.drew ?_ | (with_reducible refine Later.trans ?_ (by assumption)) | (simp only [World.size_setCell, World.size_alloc, World.heap_drewN]; omega) | (simp; done) | (simp; omega))⟩
  · have hb : (a == a') = false := by rw [beq_eq_false_iff_ne]; exact h1
    clear h1
    go_enter Tryz.func79, Tryz.ntmps79
    go_wp2
    go_ret
    exact ⟨rfl, by repeat (first | with_reducible exact Later.refl _ | with_reducible assumption | with_reducible refine Later.ofdrew ?_ | with_reducible refine Later.ofdrewN ?_ | with_reducible refine Later.setCell ?_ ?_ _ | with_reducible refine Later.alloc ?_ _ | with_reducible refine Later.drewN ?_ _ | with_reducible refine Later.drew ?_ | (with_reducible refine Later.trans ?_ (by assumption)) | (simp only [World.size_setCell, World.size_alloc, World.heap_drewN]; omega) | (simp; done) | (simp; omega))⟩
  · have hb : (b == b') = false := by rw [beq_eq_false_iff_ne]; exact h1
    clear h1
    go_enter Tryz.func79, Tryz.ntmps79
    go_wp2
    go_ret
    exact ⟨rfl, by repeat (first | with_reducible exact Later.refl _ | with_reducible assumption | with_reducible refine Later.ofdrew ?_ | with_reducible refine Later.ofdrewN ?_ | with_reducible refine Later.setCell ?_ ?_ _ | with_reducible refine Later.alloc ?_ _ | with_reducible refine Later.drewN ?_ _ | with_reducible refine Later.drew ?_ | (with_reducible refine Later.trans ?_ (by assumption)) | (simp only [World.size_setCell, World.size_alloc, World.heap_drewN]; omega) | (simp; done) | (simp; omega))⟩
  · have hb : (b == b') = false := by rw [beq_eq_false_iff_ne]; exact h1
    clear h1
    go_enter Tryz.func79, Tryz.ntmps79
    go_wp2
    go_ret
    exact ⟨rfl, by repeat (first | with_reducible exact Later.refl _ | with_reducible assumption | with_reducible refine Later.ofdrew ?_ | with_reducible refine Later.ofdrewN ?_ | with_reducible refine Later.setCell ?_ ?_ _ | with_reducible refine Later.alloc ?_ _ | with_reducible refine Later.drewN ?_ _ | with_reducible refine Later.drew ?_ | (with_reducible refine Later.trans ?_ (by assumption)) | (simp only [World.size_setCell, World.size_alloc, World.heap_drewN]; omega) | (simp; done) | (simp; omega))⟩
  · go_enter Tryz.func79, Tryz.ntmps79
    go_wp2
    go_ret
    exact ⟨rfl, by repeat (first | with_reducible exact Later.refl _ | with_reducible assumption | with_reducible refine Later.ofdrew ?_ | with_reducible refine Later.ofdrewN ?_ | with_reducible refine Later.setCell ?_ ?_ _ | with_reducible refine Later.alloc ?_ _ | with_reducible refine Later.drewN ?_ _ | with_reducible refine Later.drew ?_ | (with_reducible refine Later.trans ?_ (by assumption)) | (simp only [World.size_setCell, World.size_alloc, World.heap_drewN]; omega) | (simp; done) | (simp; omega))⟩
  · go_enter Tryz.func79, Tryz.ntmps79
    go_wp2
    go_ret
    exact ⟨rfl, by repeat (first | with_reducible exact Later.refl _ | with_reducible assumption | with_reducible refine Later.ofdrew ?_ | with_reducible refine Later.ofdrewN ?_ | with_reducible refine Later.setCell ?_ ?_ _ | with_reducible refine Later.alloc ?_ _ | with_reducible refine Later.drewN ?_ _ | with_reducible refine Later.drew ?_ | (with_reducible refine Later.trans ?_ (by assumption)) | (simp only [World.size_setCell, World.size_alloc, World.heap_drewN]; omega) | (simp; done) | (simp; omega))⟩
theorem tw_take {α : Type} (p : α → Bool) (l : List α) : l.take (l.takeWhile p).length = l.takeWhile p ∧ l.drop (l.takeWhile p).length = l.dropWhile p := by
  have h := List.takeWhile_append_dropWhile (p := p) (l := l)
  constructor
  · conv => lhs; rw [← h]
    rw [List.take_left']
    rw [h]
  · conv => lhs; rw [← h]
    rw [List.drop_left']
    rw [h]
theorem tw_in {α : Type} {p : α → Bool} : ∀ {l : List α} {i : Nat} (hi : i < l.length), i < (l.takeWhile p).length → p l[i] = true
  | a :: l, i, hi, h => by
    rw [List.takeWhile_cons] at h
    split at h
    · rename_i hp
      cases i with
      | zero => exact hp
      | succ i => exact tw_in (l := l) (by simpa using hi) (by simpa using h)
    · simp at h
theorem tw_out {α : Type} {p : α → Bool} : ∀ {l : List α} (hi : (l.takeWhile p).length < l.length), p (l[(l.takeWhile p).length]) = false
  | a :: l, hi => by
    by_cases hp : p a = true
    · have e : (a :: l).takeWhile p = a :: l.takeWhile p := by rw [List.takeWhile_cons, if_pos hp]
      simp only [e, List.length_cons, List.getElem_cons_succ]
      exact tw_out (l := l) (by rw [e] at hi; simpa using hi)
    · have e : (a :: l).takeWhile p = [] := by rw [List.takeWhile_cons, if_neg hp]
      simp only [e, List.length_nil, List.getElem_cons_zero]
      simpa using hp
theorem tw_le {α : Type} (p : α → Bool) (l : List α) : (l.takeWhile p).length ≤ l.length := (List.takeWhile_sublist p).length_le
def aheadN (L : List Fl) (x : Fl) : Nat := (L.takeWhile (fun y => aheadB y x)).length
theorem ins_take (L : List Fl) (x : Fl) : insL ordF L x = L.take (aheadN L x) ++ [x] ++ L.drop (aheadN L x) := by
  unfold aheadN insL
  obtain ⟨a, b⟩ := tw_take (fun y => aheadB y x) L
  rw [a, b]
  unfold aheadB
  simp
set_option maxHeartbeats 3200000 in
theorem rput_any (L : List Fl) (x : Fl) (v : Value) (w : World) (hN : IsFlows w v L) (hlen0 : L.length ≤ 100000) :
    Calls Tryz.prog 33 #[v, flV x] w fun e w' => ∃ v', e = .returned v' ∧ w'.ownsRow w.heap.size 50 3 v' (insL ordF L x).length ((insL ordF L x).flatMap flCs) ∧ Later w w' := by
  obtain ⟨p, cp, rfl⟩ := hN.form
  have hK0 : aheadN L x ≤ L.length := tw_le _ _
  obtain ⟨q1, c1, s1, r1⟩ := row_upto (t := 30) (P := Tryz.prog) (by kernel_rfl) (fun W => by kernel_rfl) hN hK0
  obtain ⟨q2, c2, s2, r2⟩ := row_from (t := 30) (P := Tryz.prog) (by kernel_rfl) (fun W => by kernel_rfl) hN hK0
  have HIN : Hid (∀ i (hi : i < L.length), i < aheadN L x → aheadB (L[i]) x = true) := Lib.hid (fun i hi h => tw_in (p := fun y => aheadB y x) hi h)
  have HOUT : Hid (∀ h : aheadN L x < L.length, aheadB (L[aheadN L x]) x = false) := Lib.hid (fun h => tw_out (p := fun y => aheadB y x) h)
  have HI := Lib.hid (ins_take L x)
  have HX := Lib.hid (fun i (hi : i < L.length) W => rahead_any L[i] x W)
  have HR1 := Lib.hid r1
  have HR2 := Lib.hid r2
  have HN := Lib.hid hN
  obtain ⟨R, hR⟩ : ∃ R, insL ordF L x = R := ⟨_, rfl⟩
  rw [hR] at HI ⊢
  obtain ⟨N, hNL⟩ : ∃ N, L.length = N := ⟨_, rfl⟩
  have HL := Lib.hid hNL
  rw [hNL] at HN hlen0 hK0 s1 s2 HR2 ⊢
  have HT : Hid ((L.take (aheadN L x)).length = aheadN L x ∧ (L.drop (aheadN L x)).length = N - aheadN L x) := Lib.hid ⟨by rw [List.length_take, hNL]; omega, by rw [List.length_drop, hNL]⟩
  clear hR hNL r1 r2 hN
  generalize aheadN L x = K at *
  obtain ⟨xd, xc, xa⟩ := x
  unfold flV
  simp only
  go_enter Tryz.func33, Tryz.ntmps33
  go_upto_region 1 with (fail)
  refine wp_opaque (fun w0 hb0 => ?_)
  have hO0 := Own.one hb0
  have hl0 := hb0.un1
  obtain ⟨z0, d0, -⟩ := own_get hO0
  have x0 := d0 0
  have x1 := d0 1
  have x2 := d0 2
  simp only [List.getElem?_toArray, List.getElem?_cons_zero, List.getElem?_cons_succ] at x0 x1 x2
  clear hb0 d0
  obtain ⟨D, hB⟩ : ∃ D, w.heap.size = D := ⟨_, rfl⟩
  rw [hB] at x0 x1 x2 z0 ⊢
  go_upto_block 0 with (fail)
  go_cut [5] (fun s5 wx => s5 = .int .i64 K ∧ Later w0 wx)
  case first =>
    go_wp2_with fail
    go_loopw [5] (fun s5 wr => ∃ j : Nat, j ≤ K ∧ s5 = .int .i64 j ∧ Later w0 wr) (fun s5 _ => N - (intOf s5).toNat)
    case atStart => exact ⟨0, Nat.zero_le _, rfl, Later.refl _⟩
    case round =>
      obtain ⟨j, hj, rfl, hlat⟩ := hrel
      have hlw := hl0.trans hlat
      replace x0 := ((bcell hlat).1 _ 0 z0).trans x0
      replace x1 := ((bcell hlat).1 _ 1 z0).trans x1
      replace x2 := ((bcell hlat).1 _ 2 z0).trans x2
      have zB := Nat.lt_of_lt_of_le z0 hlat.size
      by_cases hlt : j < N
      · have hjl : j < L.length := by rw [HL.out]; exact hlt
        obtain ⟨b, o, c3, hv, hb, g⟩ := HN.out.full (i := j) hjl
        rw [HL.out] at hv
        cases hv
        have e0 := ((bcell hlw).1 _ _ hb).trans (g 0 (by decide))
        have e1 := ((bcell hlw).1 _ _ hb).trans (g 1 (by decide))
        have e2 := ((bcell hlw).1 _ _ hb).trans (g 2 (by decide))
        simp only [flF, Nat.add_zero] at e0 e1 e2
        have hbr := Nat.lt_of_lt_of_le hb hlw.size
        have HXJ := Lib.hid (fun W => HX.out j hjl W)
        unfold flV at HXJ
        obtain ⟨q, hq⟩ : ∃ q, aheadB L[j] ⟨xd, xc, xa⟩ = q := ⟨_, rfl⟩
        rw [hq] at HXJ
        have HQ := Lib.hid hq
        clear g hq hb HX
        by_cases hjk : j < K
        · have hq : q = true := by rw [← HQ.out]; exact HIN.out j hjl hjk
          subst hq
          clear HQ HIN HOUT HR1 HR2
          generalize (L[j]).day = y0 at *
          generalize (L[j]).cur = y1 at *
          generalize (L[j]).amt = y2 at *
          go_upto_region 2 with (fail)
          refine wp_region_plan 12 (.one [0, 1] 2 (.one [3, 4, 5, 6, 7, 8, 9] 10 (.done [11]))) (by kernel_rfl) (by kernel_rfl) (fun _ _ d _ _ h => by cases d <;> exact h) ?_
          repeat' (first
            | (refine plan_done (fun K hK => ?_); (first | (simp only [pick_cons, pick_nil, toList_some_append, List.getElem?_toArray, List.getElem?_cons_zero, List.getElem?_cons_succ]; repeat (go_big_quiet_step (fail))) | simp only [pick_nil]); refine wpQuiet_nil (hK _ ?_); clear hK K)
            | (refine plan_one (by rfl) (fun K hK => ?_); (first | (simp only [pick_cons, pick_nil, toList_some_append, List.getElem?_toArray, List.getElem?_cons_zero, List.getElem?_cons_succ]; repeat (go_big_quiet_step (fail))) | simp only [pick_nil]); refine wpQuiet_nil (hK _ ?_); clear hK K)
            | ((with_reducible refine at_list ?_); go_wp2_with ((go_at_call 79; go_must (refine (HXJ.out _).mono ?_; rintro e w1 ⟨rfl, hb1⟩))); first | refine behind_store (t := 12) (by decide) ?_ | refine behind (by repeat (first | with_reducible exact Later.refl _ | with_reducible assumption | with_reducible refine Later.ofdrew ?_ | with_reducible refine Later.ofdrewN ?_ | with_reducible refine Later.alloc ?_ _ | with_reducible refine Later.drewN ?_ _ | with_reducible refine Later.drew ?_ | (with_reducible refine Later.trans ?_ (by assumption)))) ?_))
          all_goals
            go_wp2
            go_roundw
            case rel => exact ⟨j + 1, by omega, by go_num, hlat.trans (by repeat (first | with_reducible exact Later.refl _ | with_reducible assumption | with_reducible refine Later.ofdrew ?_ | with_reducible refine Later.ofdrewN ?_ | with_reducible refine Later.setCell ?_ ?_ _ | with_reducible refine Later.alloc ?_ _ | with_reducible refine Later.drewN ?_ _ | with_reducible refine Later.drew ?_ | (with_reducible refine Later.trans ?_ (by assumption)) | (simp only [World.size_setCell, World.size_alloc, World.heap_drewN]; omega) | (simp; done) | (simp; omega)))⟩
            case measure => simp [intOf]; omega
        · obtain rfl : j = K := by omega
          have hq : q = false := by rw [← HQ.out]; exact HOUT.out hjl
          subst hq
          clear HQ HIN HOUT HR1 HR2
          generalize (L[j]).day = y0 at *
          generalize (L[j]).cur = y1 at *
          generalize (L[j]).amt = y2 at *
          go_upto_region 2 with (fail)
          refine wp_region_plan 12 (.one [0, 1] 2 (.one [3, 4, 5, 6, 7, 8, 9] 10 (.done [11]))) (by kernel_rfl) (by kernel_rfl) (fun _ _ d _ _ h => by cases d <;> exact h) ?_
          repeat' (first
            | (refine plan_done (fun K hK => ?_); (first | (simp only [pick_cons, pick_nil, toList_some_append, List.getElem?_toArray, List.getElem?_cons_zero, List.getElem?_cons_succ]; repeat (go_big_quiet_step (fail))) | simp only [pick_nil]); refine wpQuiet_nil (hK _ ?_); clear hK K)
            | (refine plan_one (by rfl) (fun K hK => ?_); (first | (simp only [pick_cons, pick_nil, toList_some_append, List.getElem?_toArray, List.getElem?_cons_zero, List.getElem?_cons_succ]; repeat (go_big_quiet_step (fail))) | simp only [pick_nil]); refine wpQuiet_nil (hK _ ?_); clear hK K)
            | ((with_reducible refine at_list ?_); go_wp2_with ((go_at_call 79; go_must (refine (HXJ.out _).mono ?_; rintro e w1 ⟨rfl, hb1⟩))); first | refine behind_store (t := 12) (by decide) ?_ | refine behind (by repeat (first | with_reducible exact Later.refl _ | with_reducible assumption | with_reducible refine Later.ofdrew ?_ | with_reducible refine Later.ofdrewN ?_ | with_reducible refine Later.alloc ?_ _ | with_reducible refine Later.drewN ?_ _ | with_reducible refine Later.drew ?_ | (with_reducible refine Later.trans ?_ (by assumption)))) ?_))
          all_goals
            go_wp2_with fail
            go_meet
            exact ⟨rfl, hlat.trans (by repeat (first | with_reducible exact Later.refl _ | with_reducible assumption | with_reducible refine Later.ofdrew ?_ | with_reducible refine Later.ofdrewN ?_ | with_reducible refine Later.setCell ?_ ?_ _ | with_reducible refine Later.alloc ?_ _ | with_reducible refine Later.drewN ?_ _ | with_reducible refine Later.drew ?_ | (with_reducible refine Later.trans ?_ (by assumption)) | (simp only [World.size_setCell, World.size_alloc, World.heap_drewN]; omega) | (simp; done) | (simp; omega)))⟩
      · obtain rfl : j = K := by omega
        clear HIN HOUT HR1 HR2 HX
        go_upto_region 2 with (fail)
        refine wp_region_plan 12 (.one [0, 1] 2 (.one [3, 4, 5, 6, 7, 8, 9] 10 (.done [11]))) (by kernel_rfl) (by kernel_rfl) (fun _ _ d _ _ h => by cases d <;> exact h) ?_
        repeat' (first
          | (refine plan_done (fun K hK => ?_); (first | (simp only [pick_cons, pick_nil, toList_some_append, List.getElem?_toArray, List.getElem?_cons_zero, List.getElem?_cons_succ]; repeat (go_big_quiet_step (fail))) | simp only [pick_nil]); refine wpQuiet_nil (hK _ ?_); clear hK K)
          | (refine plan_one (by rfl) (fun K hK => ?_); (first | (simp only [pick_cons, pick_nil, toList_some_append, List.getElem?_toArray, List.getElem?_cons_zero, List.getElem?_cons_succ]; repeat (go_big_quiet_step (fail))) | simp only [pick_nil]); refine wpQuiet_nil (hK _ ?_); clear hK K)
          | ((with_reducible refine at_list ?_); go_wp2_with (fail); first | refine behind_store (t := 12) (by decide) ?_ | refine behind (by repeat (first | with_reducible exact Later.refl _ | with_reducible assumption | with_reducible refine Later.ofdrew ?_ | with_reducible refine Later.ofdrewN ?_ | with_reducible refine Later.alloc ?_ _ | with_reducible refine Later.drewN ?_ _ | with_reducible refine Later.drew ?_ | (with_reducible refine Later.trans ?_ (by assumption)))) ?_))
        all_goals
          go_wp2_with fail
          go_meet
          exact ⟨rfl, hlat.trans (by repeat (first | with_reducible exact Later.refl _ | with_reducible assumption | with_reducible refine Later.ofdrew ?_ | with_reducible refine Later.ofdrewN ?_ | with_reducible refine Later.setCell ?_ ?_ _ | with_reducible refine Later.alloc ?_ _ | with_reducible refine Later.drewN ?_ _ | with_reducible refine Later.drew ?_ | (with_reducible refine Later.trans ?_ (by assumption)) | (simp only [World.size_setCell, World.size_alloc, World.heap_drewN]; omega) | (simp; done) | (simp; omega)))⟩
  case rest =>
    obtain ⟨rfl, hlc⟩ := hcut
    have hlE : Later w wc := hl0.trans hlc
    replace x0 := ((bcell hlc).1 _ 0 z0).trans x0
    replace x1 := ((bcell hlc).1 _ 1 z0).trans x1
    replace x2 := ((bcell hlc).1 _ 2 z0).trans x2
    have zc := Nat.lt_of_lt_of_le z0 hlc.size
    have hBc : D ≤ wc.heap.size := by omega
    clear HX HIN HOUT HN
    go_upto_region 6 with (at_builtin; go_must (refine B.wpList_rows (L := []) (base := D) flCs flCs_len flCs_get flCs_one sliceFlow (World.ownsRow_nil _ _ _ _) hBc (HR1.out.later hlE) rfl _ _ rfl rfl rfl (by rw [HT.out.1]; simp; omega) (by decide) ?_; intro v1 w1 h1 g1 k1; rw [List.nil_append] at h1; have h1' := h1; rw [HT.out.1] at h1'; obtain ⟨p1, c1', rfl⟩ := B.owns_form h1'; have hl1 : Later wc w1 := Later.grown (Later.refl _) g1 (fun k hk => by cases hk)))
    have HM1 := Lib.hid h1
    replace x0 := ((bcell hl1).1 _ 0 zc).trans x0
    replace x1 := ((bcell hl1).1 _ 1 zc).trans x1
    replace x2 := ((bcell hl1).1 _ 2 zc).trans x2
    have zc1 := Nat.lt_of_lt_of_le zc hl1.size
    have hB1 : D ≤ w1.heap.size := by omega
    clear h1 h1' g1 k1
    go_upto_region 7 with (at_builtin; go_must (refine wpList_flow (base := D) ⟨xd, xc, xa⟩ HM1.out hB1 rfl _ _ rfl rfl 1 _ rfl rfl (by rw [HT.out.1]; omega) ?_; intro v2 w2 h2 g2 k2))
    have hK2 : ((L.take K) ++ [(⟨xd, xc, xa⟩ : Fl)]).length = K + 1 := by rw [List.length_append, HT.out.1]; rfl
    have h2' := h2
    rw [hK2] at h2'
    obtain ⟨p2, c2', rfl⟩ := B.owns_form h2'
    have HM2 := Lib.hid h2
    have hl2 : Later w w2 := Later.grown ((hlE.trans hl1).alloc _) g2 (fun k hk => by rw [hB]; exact (HM1.out.lt k hk).1)
    have hB2 : D ≤ w2.heap.size := by have := hl2.size; omega
    have HK2 := Lib.hid hK2
    clear h2 h2' g2 k2 hK2
    go_wp2_with (at_builtin; go_must (refine B.wpList_rows (base := D) flCs flCs_len flCs_get flCs_one sliceFlow HM2.out hB2 (HR2.out.later hl2) rfl _ _ rfl rfl rfl (by rw [HK2.out, HT.out.2]; omega) (by decide) ?_; intro v3 w3 h3 g3 k3; have hl3 : Later w w3 := Later.grown hl2 g3 (fun k hk => by rw [hB]; exact (HM2.out.lt k hk).1)))
    go_ret
    exact ⟨_, rfl, by rw [HI.out, hB]; exact h3, hl3⟩
end Go.Proofs.YtkjabiabeemfhaaGreatDoor
end
section
namespace Go.Proofs.YtkjabiabeemfhaaGreatDoor
open Go.RowKit Go.Sort
set_option maxRecDepth 20000 in
set_option maxHeartbeats 1600000 in
theorem sgv_far (ts : List Nd) (l : List Ops) (v u : Value) (day : Int) (w : World) (hS : Shapes w) (hN : IsNodes w v ts) (hO : IsOps w u l) (h : ¬ (ts.length ≤ 99 ∧ l.length ≤ 60)) :
    Calls Tryz.prog 12 #[v, .int .i64 day, u] w fun e w' => e = .returned (.bool true) ∧ Later w w' := by
  have HAW := Lib.hid (fun W (hl : Later w W) => sawake_any W (hS.later hl))
  obtain ⟨p, c, rfl⟩ := hN.form
  obtain ⟨q, d, rfl⟩ := hO.form
  have hc : (99 : Int) < (ts.length : Int) ∨ (¬ (99 : Int) < (ts.length : Int) ∧ (60 : Int) < (l.length : Int)) := by omega
  clear h hS hN hO
  generalize ts.length = L at *
  generalize l.length = M at *
  rcases hc with h1 | ⟨h1, h2⟩
  all_goals
    go_enter Tryz.func12, Tryz.ntmps12
    go_wp2_with (go_at_call 34; go_must (refine (HAW.out _ (by repeat (first | with_reducible exact Later.refl _ | with_reducible assumption | with_reducible refine Later.ofdrew ?_ | with_reducible refine Later.ofdrewN ?_ | with_reducible refine Later.setCell ?_ ?_ _ | with_reducible refine Later.alloc ?_ _ | with_reducible refine Later.drewN ?_ _ | with_reducible refine Later.drew ?_ | (with_reducible refine Later.trans ?_ (by assumption)) | (simp only [World.size_setCell, World.size_alloc, World.heap_drewN]; omega) | (simp; done) | (simp; omega)))).mono ?_; rintro e w1 ⟨rfl, hb1⟩))
    go_ret
    exact ⟨rfl, hb1⟩
structure GivInv (w wr : World) (ts : List Nd) (T : Tm) (day : Int) (rb sb : Nat) (tvr lr wvr tvs ls wvs : Value) (rs ss : RunS) (p m1 m2 : Nat) (fx : FxL) (ch : ChL) (j : Nat) : Prop where
  r : RunAt wr rb ts tvr lr wvr rs
  s : RunAt wr sb (giveN :: ts) tvs ls wvs ss
  f : FactsAt wr p m1 m2 fx ch
  fc : FcOk (fx, ch) j
  rf : RunFit ts rs
  sf : RunFit (giveN :: ts) ss
  g : GivS T day rs ss
  rx : ∀ k, RunB rb tvr lr wvr k → ¬ k = sb
  sx : ∀ k, RunB sb tvs ls wvs k → ¬ k = rb
set_option maxRecDepth 20000 in
set_option maxHeartbeats 12800000 in
theorem sgv_near (ts : List Nd) (l : List Ops) (v u : Value) (day : Int) (w : World) (hok : ∀ x ∈ ts, x.ok) (ook : ∀ x ∈ l, x.ok) (hS : Shapes w) (hN : IsNodes w v ts) (hO : IsOps w u l) (h1 : ts.length ≤ 99) (h2 : l.length ≤ 60) :
    Calls Tryz.prog 12 #[v, .int .i64 day, u] w fun e w' => e = .returned (.bool true) ∧ Later w w' := by
  have HAW := Lib.hid (fun W (hl : Later w W) => sawake_any W (hS.later hl))
  have HSH := Lib.hid (fun W (hl : Later w W) => hS.later hl)
  have HNEW := Lib.hid fnew_any
  have hok1 : ∀ x ∈ giveN :: ts, x.ok := fun x hx => (List.mem_cons.1 hx).elim (fun e => by rw [e]; exact give_ok) (hok x)
  have HOK := Lib.hid (show (∀ x ∈ ts, x.ok) ∧ (∀ x ∈ giveN :: ts, x.ok) from ⟨hok, hok1⟩)
  have HN := Lib.hid hN
  have HO := Lib.hid hO
  have HOO := Lib.hid ook
  have HRN := Lib.hid (fun (h : newE ts day ≠ 0) W (hl : Later w W) => rnew_no ts (by omega) hok v day W (hS.later hl) (hN.later hl) h)
  have HRY := Lib.hid (fun (h : newE ts day = 0) T (hG : Good ts T) (hm : makesI T.root.op = 2) W (hl : Later w W) => rnew_yes ts hok v day W (hS.later hl) (hN.later hl) h hG hm)
  have HSN := Lib.hid (fun (h : newE (giveN :: ts) day ≠ 0) t W (hl : Later w W) hNg => rnew_no (giveN :: ts) (by simp; omega) hok1 t day W (hS.later hl) hNg h)
  have HSY := Lib.hid (fun (h : newE (giveN :: ts) day = 0) T (hG : Good (giveN :: ts) T) (hm : makesI T.root.op = 2) t W (hl : Later w W) hNg => rnew_yes (giveN :: ts) hok1 t day W (hS.later hl) hNg h hG hm)
  obtain ⟨E1, hE1⟩ : ∃ x, newE ts day = x := ⟨_, rfl⟩
  obtain ⟨E2, hE2⟩ : ∃ x, newE (giveN :: ts) day = x := ⟨_, rfl⟩
  have HGE := Lib.hid (fun h => give_newE (ts := ts) (day := day) h)
  have HDY := Lib.hid (fun h => newE_zero (ts := ts) (day := day) h)
  have HDZ := Lib.hid (fun h => newE_zero (ts := giveN :: ts) (day := day) h)
  rw [hE1] at HRN HRY HGE HDY
  rw [hE2] at HSN HSY HGE HDZ
  obtain ⟨p, c, rfl⟩ := hN.form
  obtain ⟨q, d, rfl⟩ := hO.form
  obtain ⟨L, hL⟩ : ∃ x, ts.length = x := ⟨_, rfl⟩
  obtain ⟨M, hM⟩ : ∃ x, l.length = x := ⟨_, rfl⟩
  have HLM := Lib.hid (show ts.length = L ∧ l.length = M from ⟨hL, hM⟩)
  rw [hL] at HN HRN HRY h1
  rw [hM] at HO h2
  rw [hL, hM]
  have n1 : ¬ (99 : Int) < (L : Int) := by omega
  have n2 : ¬ (60 : Int) < (M : Int) := by omega
  clear hS hN hO hok ook hok1 hE1 hE2 hL hM
  go_enter Tryz.func12, Tryz.ntmps12
  go_upto_region 4 with (first | refine wpList_built (node_build _) rfl rfl rfl ?_ | refine wpList_builtS (nodes_one _ _ _ _ _) rfl rfl rfl ?_)
  have HLIT : Hid (MineN w (w.alloc (.cells #[.int .i64 11, .int .i64 0, .int .i64 0, .int .i64 0, .int .i64 0] 61)) (.slice (some ⟨w.heap.size, 0, none⟩) 1 1) [giveN]) := Lib.hid (Mine.lit (n := 1) (cur := #[.int .i64 11, .int .i64 0, .int .i64 0, .int .i64 0, .int .i64 0]) (Later.refl w) rfl (by decide))
  go_upto_region 5 with (at_builtin; go_must (refine wpList_nodes (V := .slice p L c) HLIT.out (HN.out.later ((Later.refl _).alloc _)) rfl _ _ rfl rfl rfl (by rw [HLM.out.1]; simp; omega) ?_; intro v9 wa hM2 hl2; have HM2 := Lib.hid hM2.nodes; obtain ⟨p9, c9, hv9⟩ := hM2.form; obtain ⟨NX, hNX⟩ : ∃ x, ([giveN] ++ ts).length = x := ⟨_, rfl⟩; rw [hNX] at hv9; subst hv9; clear hM2 hNX))
  have HGN : Hid (IsNodes wa (.slice p9 NX c9) (giveN :: ts)) := HM2
  clear HLIT HM2
  by_cases k1 : E1 = 0
  · subst k1
    rcases HGE.out rfl with ⟨k2, T, hG, hm, hJ⟩ | k2
    · subst k2
      obtain ⟨-, hd0, hd1⟩ := HDY.out rfl
      have HRY2 := Lib.hid (fun W (hl : Later w W) => HRY.out rfl T hG hm W hl)
      have HSY2 := Lib.hid (fun t W (hl : Later w W) hNg => HSY.out rfl (.node giveN [T]) hJ mk_give t W hl hNg)
      have HGD := Lib.hid (show Good ts T ∧ Good (giveN :: ts) (.node giveN [T]) from ⟨hG, hJ⟩)
      have HFITR := Lib.hid (RunFit.new hG hm hd0 hd1)
      have HFITS := Lib.hid (RunFit.new hJ mk_give hd0 hd1)
      clear HRN HRY HSN HSY HGE HDY HDZ hG hm hJ hd0 hd1
      go_upto_region 6 with (go_at_call 35; go_must (refine (HRY2.out _ hl2).mono ?_; rintro e w1 ⟨rb, tvr, lr, wvr, rfl, hr1, hz1, hb1⟩))
      have HR1 := Lib.hid hr1
      have HZ1 := Lib.hid hz1
      have hl1 := hl2.trans hb1
      clear hr1 hz1 HRY2
      go_upto_region 7 with (go_at_call 35; go_must (refine (HSY2.out _ _ hl1 (HGN.out.later hb1)).mono ?_; rintro e w3 ⟨sb, tvs, ls, wvs, rfl, hs3, hz3, hb3⟩))
      have HS3 := Lib.hid hs3
      have HZ3 := Lib.hid hz3
      have HR3 := Lib.hid (HR1.out.later hb3)
      have hl3 := hl1.trans hb3
      clear hs3 HSY2
      go_upto_region 8 with (go_at_call 36; go_must (refine (HNEW.out _).mono ?_; rintro e w4 ⟨pf, m1, m2, rfl, hF4, ge1, ge2, hb4⟩))
      have hl4 := hl3.trans hb4
      have hgm : w.heap.size ≤ m1 ∧ w.heap.size ≤ m2 := ⟨Nat.le_trans hl3.size ge1, Nat.le_trans hl3.size ge2⟩
      have HGM := Lib.hid hgm
      have hrb : w.heap.size ≤ rb := by have := (HZ1.out rb (.inl rfl)).1; have := hl2.size; omega
      have hsb : w.heap.size ≤ sb := by have := (HZ3.out sb (.inl rfl)).1; have := hl1.size; omega
      have HINV : Hid (GivInv w w4 ts T day rb sb tvr lr wvr tvs ls wvs (newR T day) (newR (.node giveN [T]) day) pf m1 m2 [] [] 0) := Lib.hid ⟨HR3.out.later hb4, HS3.out.later hb4, hF4, fcOk_nil, HFITR.out, HFITS.out, GivS.new T day, fun k hk e => by
        have h1 := (HZ1.out k hk).2
        have := (HZ3.out sb (.inl rfl)).1
        omega, fun k hk e => by
        have h1 := (HZ3.out k hk).1
        have := HR1.out.own.1.1
        omega⟩
      clear HR1 HR3 HS3 HZ1 HZ3 hz3 hF4 ge1 ge2 hgm HGN HFITR HFITS hl3 hl1 hb1 hb3 hb4 hl2
      go_upto_region 11 with (fail)
      go_loopw [13] (fun s13 wr => ∃ j : Nat, j ≤ M ∧ s13 = .int .i64 j ∧ Later w wr ∧ ∃ (lr' wvr' ls' wvs' : Value) (rs ss : RunS) (fx : FxL) (ch : ChL), Hid (GivInv w wr ts T day rb sb tvr lr' wvr' tvs ls' wvs' rs ss pf m1 m2 fx ch j)) (fun s13 _ => M - (intOf s13).toNat)
      case atStart => exact ⟨0, Nat.zero_le _, rfl, hl4, _, _, _, _, _, _, _, _, HINV⟩
      case round =>
        obtain ⟨j, hj, rfl, hlr, lr', wvr', ls', wvs', rs, ss, fx, ch, HI⟩ := hrel
        clear HINV hl4
        by_cases hlt : j < M
        · have hltI : (j : Int) < M := by omega
          have hjl : j < l.length := by rw [HLM.out.2]; exact hlt
          obtain ⟨ob, oo, oc, hv, hob, g⟩ := (HO.out.later hlr).full (i := j) hjl
          rw [HLM.out.2] at hv
          cases hv
          have HOB : Hid (¬ ob = rb ∧ ¬ ob = sb) := Lib.hid (by
            have hob0 : ob < w.heap.size := by
              obtain ⟨ob', oo', oc', hv', hob', -⟩ := HO.out.full (i := j) hjl
              rw [HLM.out.2] at hv'
              cases hv'
              exact hob'
            omega)
          have HXO := Lib.hid (HOO.out _ (List.getElem_mem hjl))
          have g0 := g 0 (by decide)
          have g1 := g 1 (by decide)
          have g2 := g 2 (by decide)
          have g3 := g 3 (by decide)
          have g4 := g 4 (by decide)
          have g5 := g 5 (by decide)
          have g6 := g 6 (by decide)
          have g7 := g 7 (by decide)
          obtain ⟨x, hx⟩ : ∃ x, l[j] = x := ⟨_, rfl⟩
          rw [hx] at g0 g1 g2 g3 g4 g5 g6 g7 HXO
          clear hx hjl g
          obtain ⟨xg, xt, ⟨fc, fk, fd, fn, fm, fp⟩⟩ := x
          simp only [Ops.cell, Td.cell, Nat.add_zero] at g0 g1 g2 g3 g4 g5 g6 g7
          cases xg
          · have HT := Lib.hid (tell_any pf m1 m2 fx ch ⟨fc, fk, fd, fn, fm, fp⟩ wr HI.out.f HXO.out.2)
            unfold Td.val at HT
            simp only at HT
            clear g1
            go_wp2_with (go_at_call 26; go_must (refine HT.out.mono ?_; rintro e w5 ⟨rfl, hF5, mm, hmm, hg5⟩))
            go_roundw
            case rel => exact ⟨j + 1, by omega, by go_num, tell_grown hlr HI.out.f HGM.out.1 HGM.out.2 hmm hg5, _, _, _, _, rs, ss, _, _, Lib.hid ⟨HI.out.r.grown hg5 (HI.out.f.map1 hmm), HI.out.s.grown hg5 (HI.out.f.map1 hmm), hF5, HI.out.fc.tell HXO.out.2, HI.out.rf, HI.out.sf, HI.out.g, HI.out.rx, HI.out.sx⟩⟩
            case measure => simp [intOf]; omega
          · clear g2 g3 g4 g5 g6 g7 HXO
            have hj60 : j ≤ 1000 := by omega
            have HGR := Lib.hid ((rgo_facts HGD.out.1 HOK.out.1 (HSH.out wr hlr) HI.out.fc hj60 HI.out.f HI.out.r HI.out.rf.ok HI.out.rf.sz xt).mono (fun e w' h => GoEnd.rows (X := fun k => k = sb) h HI.out.rx (fun k hk => by rw [hk]; exact HI.out.s.own.1.1)))
            have hgv := go_giv (tod := xt) HGD.out.2 HOK.out.2 HI.out.fc.env HI.out.sf.ok HI.out.g
            have HFR := Lib.hid (HI.out.rf.go HGD.out.1 HOK.out.1 HI.out.fc.env xt)
            have HFS := Lib.hid (HI.out.sf.go HGD.out.2 HOK.out.2 HI.out.fc.env xt)
            have hfe1 := (goR_few (env := envT fx ch) xt HI.out.rf.sz HI.out.rf.wl).1
            have hfe2 := (goR_few (env := envT fx ch) xt HI.out.sf.sz HI.out.sf.wl).1
            have HAM := Lib.hid (goR_amt HGD.out.2 HOK.out.2 HI.out.fc.env HI.out.sf.ok xt)
            have HGS := Lib.hid (fun W (hlW : Later w W) (hF : FactsAt W pf m1 m2 fx ch) (hs : RunAt W sb (giveN :: ts) tvs ls' wvs' ss) (hrb : rb < W.heap.size) => (rgo_facts HGD.out.2 HOK.out.2 (HSH.out W hlW) HI.out.fc hj60 hF hs HI.out.sf.ok HI.out.sf.sz xt).mono (fun e w' h => GoEnd.rows (X := fun k => k = rb) h HI.out.sx (fun k hk => by rw [hk]; exact hrb)))
            obtain ⟨⟨C, A0, rs'⟩, hgr⟩ : ∃ x, goR (envT fx ch) rs xt = x := ⟨_, rfl⟩
            obtain ⟨⟨C', A1, ss'⟩, hgs⟩ : ∃ x, goR (envT fx ch) ss xt = x := ⟨_, rfl⟩
            rw [hgr, hgs] at hgv
            rw [hgr] at HGR HFR hfe1
            rw [hgs] at HGS HFS HAM hfe2
            simp only at HGR HFR hfe1 HGS HFS HAM hfe2 hgv
            obtain ⟨hcc, hff, hgg⟩ := hgv
            subst hcc
            have HFF := Lib.hid hff
            have HGG := Lib.hid hgg
            clear hgr hgs hff hgg hj60
            obtain ⟨NA, hNA⟩ : ∃ n, A0.length = n := ⟨_, rfl⟩
            obtain ⟨N, hN1⟩ : ∃ n, A1.length = n := ⟨_, rfl⟩
            have HNK := Lib.hid (show A0.length = NA ∧ A1.length = N from ⟨hNA, hN1⟩)
            rw [hN1] at hfe2
            rw [hNA] at hfe1
            clear hNA hN1
            go_upto_region 16 with (go_at_call 38; go_must (refine HGR.out.mono ?_; rintro e w5 ⟨fa, la5, wa5, rfl, hf5, hfz5, hr5, hrx5, hl5⟩; obtain ⟨qa, ca, rfl⟩ := hf5.form; rw [HNK.out.1] at hf5 hfz5 ⊢; replace g1 := (hl5.cell (p := ⟨ob, _, none⟩) hob HOB.out.1).trans g1; have hob5 := Nat.lt_of_lt_of_le hob hl5.size))
            have HF5 := Lib.hid (HI.out.f.lat HI.out.r hl5)
            have HS5 := Lib.hid (HI.out.s.lat hl5 (fun k hk => HI.out.sx k hk))
            have HR5 := Lib.hid hr5
            have HRX5 := Lib.hid hrx5
            have HFA5 := Lib.hid hf5
            have HFZ5 := Lib.hid hfz5
            have hlw5 := lat_one hlr hl5 hrb
            have hrb5 : rb < w5.heap.size := hr5.own.1.1
            have hsz5 := hl5.size
            have hsbr : sb < wr.heap.size := HI.out.s.own.1.1
            clear hf5 hfz5 hr5 hrx5 hl5 HGR
            go_upto_region 17 with (go_at_call 38; go_must (refine (HGS.out _ hlw5 HF5.out HS5.out hrb5).mono ?_; rintro e w6 ⟨fb, lb6, wb6, rfl, hf6, hfz6, hs6, hsx6, hl6⟩; obtain ⟨qb, cb, rfl⟩ := hf6.form; rw [HNK.out.2] at hf6 hfz6 ⊢))
            have HFA6 := Lib.hid (row_lat HFA5.out hl6 (fun k hk e => by have := HFZ5.out k hk; omega))
            have HFB6 := Lib.hid hf6
            have HR6 := Lib.hid (HR5.out.lat hl6 (fun k hk => HRX5.out k hk))
            have HS6 := Lib.hid hs6
            have HSX6 := Lib.hid hsx6
            have HF6 := Lib.hid (HF5.out.lat HS5.out hl6)
            have hlw6 := lat_one hlw5 hl6 hsb
            clear hf6 hfz6 hs6 hsx6 hl6 HGS HF5 HS5 HR5 HFA5 HFZ5 hlw5 hrb5 hsz5 hsbr g0 g1 hob5
            go_upto_region 19 with (fail)
            go_loopw [18, 19] (fun s18 s19 wx => ∃ q : Nat, q ≤ N ∧ s19 = .int .i64 q ∧ Hid (IsFlows wx s18 (((A1.take q).map Fl.neg).foldl (insL ordF) [])) ∧ Later w6 wx) (fun _ s19 _ => N - (intOf s19).toNat)
            case atStart => exact ⟨0, Nat.zero_le _, rfl, Lib.hid (.inl ⟨⟨none, rfl⟩, rfl⟩), Later.refl _⟩
            case round =>
              obtain ⟨q, hq, rfl, hrow, hlat⟩ := hrel
              obtain ⟨wx, hwx⟩ : ∃ x : World, x = wr := ⟨_, rfl⟩
              subst hwx
              obtain ⟨L8, hL8⟩ : ∃ X, ((A1.take q).map Fl.neg).foldl (insL ordF) [] = X := ⟨_, rfl⟩
              have hlen8 : L8.length ≤ 64 := by rw [← hL8, puts_len, List.length_map, List.length_take]; have := HNK.out.2; omega
              rw [hL8] at hrow
              have HL8 := Lib.hid hL8
              have HR8 := Lib.hid hrow.out
              obtain ⟨p8, c8, rfl⟩ := hrow.out.form
              obtain ⟨n8, hn8⟩ : ∃ n, L8.length = n := ⟨_, rfl⟩
              rw [hn8] at HR8 hlen8 ⊢
              have HN8 := Lib.hid hn8
              clear hL8 hn8 hrow
              by_cases hlq : q < N
              · have hlqI : (q : Int) < N := by omega
                have hql : q < A1.length := by rw [HNK.out.2]; exact hlq
                obtain ⟨b1, o1, cc1, hv, hb1, g⟩ := (HFB6.out.later hlat).full (i := q) hql
                rw [HNK.out.2] at hv
                cases hv
                have e0 := g 0 (by decide)
                have e1 := g 1 (by decide)
                have e2 := g 2 (by decide)
                simp only [flF, Nat.add_zero] at e0 e1 e2
                obtain ⟨m1', m2'⟩ := HAM.out A1[q] (List.getElem_mem hql)
                have HT := Lib.hid (negs_take hql)
                have hA3 : (A1[q]).neg = ⟨(A1[q]).day, (A1[q]).cur, -(A1[q]).amt⟩ := rfl
                rw [hA3, HL8.out] at HT
                generalize (A1[q]).day = x0 at *
                generalize (A1[q]).cur = x1 at *
                generalize (A1[q]).amt = x2 at *
                have HPT := Lib.hid (fun W (hl : Later wx W) => rput_any L8 ⟨x0, x1, -x2⟩ _ W (HR8.out.later hl) (by rw [HN8.out]; omega))
                clear g hA3 hql HL8
                go_upto_region 23 with (fail)
                go_wp2_with (go_at_call 33; go_must (refine (HPT.out _ ((Later.refl wx).alloc _)).mono ?_; rintro e wb ⟨v9, rfl, hown, hb9⟩; have hl9 : Later wx wb := ((Later.refl wx).alloc _).trans hb9))
                go_roundw
                case rel => exact ⟨q + 1, by omega, by go_num, Lib.hid (by rw [HT.out]; exact (owns_flows hown).1), hlat.trans hl9⟩
                case measure => simp [intOf]; omega
              · have hL8 : L8 = A0 := by rw [← HL8.out, ← HFF.out, List.take_of_length_le (by rw [HNK.out.2]; omega), puts_nil]
                subst hL8
                have hlt2 : ¬ (q : Int) < N := by omega
                have hlwx := hlw6.trans hlat
                have HRX := Lib.hid (HR6.out.later hlat)
                have HSX := Lib.hid (HS6.out.later hlat)
                have HFL := Lib.hid (fun W (hl : Later wx W) => lflows_any L8 L8 _ _ W ((HFA6.out.later hlat).later hl) (HR8.out.later hl) (by rw [HN8.out]; omega))
                rw [show decide (L8 = L8) = true by simp] at HFL
                have hw1 := Lib.hid (fun W (hl : Later wx W) => rwaits_any (HRX.out.later hl) (by have := HFR.out.wl; omega))
                have hw2 := Lib.hid (fun W (hl : Later wx W) => rwaits_any (HSX.out.later hl) (by have := HFS.out.wl; omega))
                obtain ⟨YW, hYW⟩ : ∃ y, ss'.W = y := ⟨_, rfl⟩
                have hYW1 : rs'.W = YW := by rw [HGG.out.2.1, hYW]
                have hYl : YW.length ≤ 8192 := by rw [← hYW]; exact HFS.out.wl
                rw [hYW1] at hw1
                rw [hYW] at hw2
                obtain ⟨NY, hNY⟩ : ∃ n, YW.length = n := ⟨_, rfl⟩
                have HNY := Lib.hid hNY
                have HWW := Lib.hid (fun W va vb (ha : IsWaits W va YW) (hb : IsWaits W vb YW) => lwaits_any YW YW va vb W ha hb (by omega))
                rw [show decide (YW = YW) = true by simp] at HWW
                have ho1 := Lib.hid (fun W (hl : Later wx W) => rover_any (HRX.out.later hl))
                have ho2 := Lib.hid (fun W (hl : Later wx W) => rover_any (HSX.out.later hl))
                have hov : decide (ss'.L = []) = decide (rs'.L = []) := by
                  have := HGG.out.len
                  cases h1 : rs'.L <;> cases h2 : ss'.L <;> rw [h1, h2] at this <;> simp at this ⊢
                rw [hov] at ho2
                obtain ⟨OV, hOV⟩ : ∃ y, decide (rs'.L = []) = y := ⟨_, rfl⟩
                rw [hOV] at ho1 ho2
                have hd1' := Lib.hid (fun W (hl : Later wx W) => rday_any (HRX.out.later hl))
                have hd2' := Lib.hid (fun W (hl : Later wx W) => rday_any (HSX.out.later hl))
                have hdy : ss'.day = rs'.day := HGG.out.1.symm
                rw [hdy] at hd2'
                obtain ⟨DY, hDY⟩ : ∃ y, rs'.day = y := ⟨_, rfl⟩
                rw [hDY] at hd1' hd2'
                have HZ := Lib.hid (show GivInv w wx ts T day rb sb tvr la5 wa5 tvs lb6 wb6 rs' ss' pf m1 m2 fx ch (j + 1) from ⟨HRX.out, HSX.out, HF6.out.later hlat, HI.out.fc.more, HFR.out, HFS.out, HGG.out, HRX5.out, HSX6.out⟩)
                clear hYW hYW1 hNY hov hOV hdy hDY HL8 HRX HSX HI HFA6 HFB6 HR6 HS6 HSX6 HRX5 HF6 HFF HGG HAM HFR HFS
                go_wp2_with (first
                  | (go_at_call 23; go_must (refine (HFL.out _ (Later.refl _)).mono ?_; rintro e wa ⟨rfl, hba⟩))
                  | (go_at_call 43; go_must (first | (refine (hw1.out _ hba).mono ?_; clear hw1; rintro e wb ⟨vwb, rfl, hwb, hbb⟩; obtain ⟨pwb, cwb, rfl⟩ := hwb.form; rw [HNY.out] at hwb ⊢) | (refine (hw2.out _ (hba.trans hbb)).mono ?_; clear hw2; rintro e wd ⟨vwd, rfl, hwd, hbd⟩; obtain ⟨pwd, cwd, rfl⟩ := hwd.form; rw [HNY.out] at hwd ⊢)))
                  | (go_at_call 29; go_must (refine (HWW.out _ _ _ (hwb.later hbd) hwd).mono ?_; rintro e we ⟨rfl, hbe⟩; have hle := ((hba.trans hbb).trans hbd).trans hbe))
                  | (go_at_call 41; go_must (first | (refine (ho1.out _ hle).mono ?_; clear ho1; rintro e wf ⟨rfl, hbf⟩) | (refine (ho2.out _ (hle.trans hbf)).mono ?_; clear ho2; rintro e wg ⟨rfl, hbg⟩; have hlg := (hle.trans hbf).trans hbg)))
                  | (go_at_call 40; go_must (first | (refine (hd1'.out _ hlg).mono ?_; clear hd1'; rintro e wh ⟨rfl, hbh⟩) | (refine (hd2'.out _ (hlg.trans hbh)).mono ?_; clear hd2'; rintro e wi ⟨rfl, hbi⟩))))
                go_roundw
                case rel => exact ⟨j + 1, by omega, by go_num, hlwx.trans ((hlg.trans hbh).trans hbi), _, _, _, _, _, _, _, _, Lib.hid ⟨HZ.out.r.later ((hlg.trans hbh).trans hbi), HZ.out.s.later ((hlg.trans hbh).trans hbi), HZ.out.f.later ((hlg.trans hbh).trans hbi), HZ.out.fc, HZ.out.rf, HZ.out.sf, HZ.out.g, HZ.out.rx, HZ.out.sx⟩⟩
                case measure => simp [intOf]; omega
        · have hge : ¬ ((j : Int) < M) := by omega
          go_wp2_with (go_at_call 34; go_must (refine (HAW.out _ hlr).mono ?_; rintro e w5 ⟨rfl, hb5⟩))
          go_ret
          exact ⟨rfl, hlr.trans hb5⟩
    · subst k2
      obtain ⟨T, hG, hm⟩ := ct_good (HDY.out rfl).1
      have HRY2 := Lib.hid (fun W (hl : Later w W) => HRY.out rfl T hG hm W hl)
      have HSN2 := Lib.hid (fun t W (hl : Later w W) hNg => HSN.out (by decide) t W hl hNg)
      clear HRN HRY HSN HSY HGE HDY HDZ hG hm
      go_upto_region 6 with (go_at_call 35; go_must (refine (HRY2.out _ hl2).mono ?_; rintro e w1 ⟨rb, tvr, lr, wvr, rfl, -, -, hb1⟩))
      have hl1 := hl2.trans hb1
      go_upto_region 7 with (go_at_call 35; go_must (refine (HSN2.out _ _ hl1 (HGN.out.later hb1)).mono ?_; rintro e w3 ⟨rfl, hb3⟩))
      have hl3 := hl1.trans hb3
      clear HRY2 HSN2 HGN
      go_wp2_with (first
        | (go_at_call 36; go_must (refine (HNEW.out _).mono ?_; rintro e w4 ⟨pf, m1, m2, rfl, -, -, -, hb4⟩))
        | (go_at_call 34; go_must (refine (HAW.out _ (hl3.trans hb4)).mono ?_; rintro e w5 ⟨rfl, hb5⟩)))
      go_ret
      exact ⟨rfl, (hl3.trans hb4).trans hb5⟩
  · have he1 : (E1 == 0) = false := by simpa using k1
    have he2 : (E1 != 0) = true := by simpa using k1
    have HRN2 := Lib.hid (fun W (hl : Later w W) => HRN.out k1 W hl)
    have HANY : Hid (∀ t W, Later w W → IsNodes W t (giveN :: ts) → Calls Tryz.prog 35 #[t, .int .i64 day] W fun e w' => ∃ (q : Option Addr) (c : Int), e = .returned (.tuple #[.pointer q, .int .i64 c]) ∧ Later W w') := Lib.hid (fun t W hl hNg => by
      by_cases k2 : E2 = 0
      · obtain ⟨T2, hG2, hm2⟩ := ct_good (HDZ.out k2).1
        exact (HSY.out k2 T2 hG2 hm2 t W hl hNg).mono fun e w' ⟨b, _, _, _, he, _, _, hb⟩ => ⟨_, _, he, hb⟩
      · exact (HSN.out k2 t W hl hNg).mono fun e w' ⟨he, hb⟩ => ⟨none, _, he, hb⟩)
    clear HRN HRY HSN HSY HGE HDY HDZ k1
    go_upto_region 6 with (go_at_call 35; go_must (refine (HRN2.out _ hl2).mono ?_; rintro e w1 ⟨rfl, hb1⟩))
    have hl1 := hl2.trans hb1
    go_upto_region 7 with (go_at_call 35; go_must (refine (HANY.out _ _ hl1 (HGN.out.later hb1)).mono ?_; rintro e w3 ⟨q3, c3, rfl, hb3⟩))
    have hl3 := hl1.trans hb3
    clear HRN2 HANY HGN
    go_wp2_with (first
      | (go_at_call 36; go_must (refine (HNEW.out _).mono ?_; rintro e w4 ⟨pf, m1, m2, rfl, -, -, -, hb4⟩))
      | (go_at_call 34; go_must (refine (HAW.out _ (hl3.trans hb4)).mono ?_; rintro e w5 ⟨rfl, hb5⟩)))
    go_ret
    exact ⟨rfl, (hl3.trans hb4).trans hb5⟩
theorem sgv_any (ts : List Nd) (l : List Ops) (v u : Value) (day : Int) (w : World) (hok : ∀ x ∈ ts, x.ok) (ook : ∀ x ∈ l, x.ok) (hS : Shapes w) (hN : IsNodes w v ts) (hO : IsOps w u l) :
    Calls Tryz.prog 12 #[v, .int .i64 day, u] w fun e w' => e = .returned (.bool true) ∧ Later w w' := by
  by_cases h : ts.length ≤ 99 ∧ l.length ≤ 60
  · exact sgv_near ts l v u day w hok ook hS hN hO h.1 h.2
  · exact sgv_far ts l v u day w hS hN hO h
end Go.Proofs.YtkjabiabeemfhaaGreatDoor
end
