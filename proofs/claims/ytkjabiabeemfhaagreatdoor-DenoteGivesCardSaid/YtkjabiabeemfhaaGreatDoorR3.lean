/- DenoteGives: its walk -/
import Derived.Test.YtkjabiabeemfhaaGreatDoorR2
import Derived.Test.YtkjabiabeemfhaaGreatDoorQ17
import Derived.Test.YtkjabiabeemfhaaGreatDoorR1
import Derived.Test.YtkjabiabeemfhaaGreatDoorQ31
import Derived.Test.YtkjabiabeemfhaaGreatDoorQ35
import Derived.Test.YtkjabiabeemfhaaGreatDoorQ34
import Derived.Test.YtkjabiabeemfhaaGreatDoorQ33
import Derived.Test.YtkjabiabeemfhaaGreatDoorQ32
import Derived.Test.YtkjabiabeemfhaaGreatDoorQ22
import Derived.Test.YtkjabiabeemfhaaGreatDoorQ20
import Derived.Test.YtkjabiabeemfhaaGreatDoorQ18
import Derived.Test.YtkjabiabeemfhaaGreatDoorQ16
import Derived.Test.YtkjabiabeemfhaaGreatDoorQ15
import Derived.Test.YtkjabiabeemfhaaGreatDoorQ14
import Derived.Test.YtkjabiabeemfhaaGreatDoorQ13
import Derived.Test.YtkjabiabeemfhaaGreatDoorQ12
import Derived.Test.YtkjabiabeemfhaaGreatDoorQ3
import Derived.Test.YtkjabiabeemfhaaGreatDoorQ2
import Derived.Test.YtkjabiabeemfhaaGreatDoorRows
import Derived.Test.YtkjabiabeemfhaaGreatDoorQ1
import Derived.Shelf.Small.Bits
import Derived.Shelf.Small.Wraps
import Derived.Shelf.Strconv.Itoa0
import Derived.Shelf.Bits.Mul64
import Derived.Ground.Names2Prog
import Derived.Shelf.Slices.Clone
import Derived.Shelf.Slices.SearchI
import Derived.Ground.SlgnProg
import Derived.Shelf.SlicesE.Clone
import Derived.Shelf.SlLaysF0
import Derived.Ground.SlsfProg
import Derived.Test.YtkjabiabeemfhaaGreatDoorProg
import Derived.WalkKit
import Derived.Lib.BitFns
import Derived.Lib.ItoaNum
import Derived.WalkSpells
import Derived.WalkSmall
import Derived.WalkLawsBesides
import Derived.BigQuiet
import Derived.Deep.RegionHeld3
import Derived.Deep.DeepCutAuto
import Derived.Deep.CutBlock
import Derived.Lib.Hide
import Derived.Deep.Quiet
import Derived.Below
import Derived.OrdersHeld
import Derived.Shelf.Spec.BitsCarry
import Derived.Laws.AppendOwnNone
import Derived.OwnWalk
import Derived.Great.BuildSlice
import Derived.DeepKeys4
import Derived.Maps.Own
import Derived.Test.YtkjabiabeemfhaaGreatDoorQ11
import Derived.Test.YtkjabiabeemfhaaGreatDoorQ10
import Derived.Test.YtkjabiabeemfhaaGreatDoorQ4
import Derived.RangeFuncNested
import Derived.RangeFuncBound
import Derived.RangeFuncCalls
import Derived.RangeFuncLeaves
import Derived.Shelf.Abstract
import Derived.Shelf.RegionOpen
import Derived.OwnWalkIn
import Derived.TacticsInMore
import Derived.LoopNIn
import Derived.LoopIn
import Derived.Deep.LoopGhost
import Derived.Test.YtkjabiabeemfhaaGreatDoorQ8
import Derived.Test.YtkjabiabeemfhaaGreatDoorQ7
import Derived.Test.YtkjabiabeemfhaaGreatDoorQ5
import Derived.WalkMore
import Derived.Lib.Strings
import Derived.Shelf.SlSortCmp.Insertion
import Derived.Laws.IdiomCopy
import Derived.Deep.Upon
import Derived.Shelf.GgSortFunc.InsertionK
import Derived.Test.YtkjabiabeemfhaaGreatDoorQ19
import Derived.RangeFuncBox
import Derived.Test.YtkjabiabeemfhaaGreatDoorQ21
import Derived.Test.YtkjabiabeemfhaaGreatDoorQ23
import Derived.Test.YtkjabiabeemfhaaGreatDoorQ25
import Derived.Test.YtkjabiabeemfhaaGreatDoorQ24
import Derived.Test.YtkjabiabeemfhaaGreatDoorQ26
import Derived.Test.YtkjabiabeemfhaaGreatDoorQ29
import Derived.Test.YtkjabiabeemfhaaGreatDoorQ28
import Derived.Test.YtkjabiabeemfhaaGreatDoorQ27
import Derived.Shelf.SlSortCmp.NoneTotal
import Derived.Shelf.SlSortCmp.WholeK
import Derived.Laws.IdiomRangeMap
import Derived.Test.YtkjabiabeemfhaaGreatDoorQ30
import Derived.Lib.SliceRun
set_option linter.all false
set_option linter.all false
section
/- chattelref09.ahead, Put: one more flow, put in its place -/
namespace Go.Proofs.YtkjabiabeemfhaaGreatDoor
open Go.RowKit Go.Sort

def aheadB (x y : Fl) : Bool := !(ltOf ordF) y x
theorem ahead_true {x y : Fl} (h : ¬ ltF y x) : aheadB x y = true := by unfold aheadB; rw [not_lt ltF_iff |>.2 h]; rfl
theorem ahead_false {x y : Fl} (h : ltF y x) : aheadB x y = false := by unfold aheadB; rw [(ltF_iff y x).2 h]; rfl
def flV (x : Fl) : Value := .agg #[.int .i64 x.day, .int .i64 x.cur, .int .i64 x.amt]
set_option maxHeartbeats 1600000 in
theorem rahead_any (x y : Fl) (w : World) : Calls Tryz.prog 79 #[flV x, flV y] w fun e w' => e = .returned (.bool (aheadB x y)) ∧ Later w w' := by
  obtain ⟨a, b, c⟩ := x
  obtain ⟨a', b', c'⟩ := y
  unfold flV
  simp only
  obtain ⟨R, hR⟩ : ∃ R, aheadB ⟨a, b, c⟩ ⟨a', b', c'⟩ = R := ⟨_, rfl⟩
  rw [hR]
  have hcase : (a ≠ a' ∧ a < a' ∧ R = true) ∨ (a ≠ a' ∧ ¬ a < a' ∧ R = false) ∨ (a = a' ∧ b ≠ b' ∧ b < b' ∧ R = true) ∨ (a = a' ∧ b ≠ b' ∧ ¬ b < b' ∧ R = false) ∨ (a = a' ∧ b = b' ∧ c ≤ c' ∧ R = true) ∨ (a = a' ∧ b = b' ∧ ¬ c ≤ c' ∧ R = false) := by
    by_cases h1 : a = a'
    · by_cases h2 : b = b'
      · by_cases h3 : c ≤ c'
        · exact .inr (.inr (.inr (.inr (.inl ⟨h1, h2, h3, by rw [← hR]; exact ahead_true (by unfold ltF; simp only; omega)⟩))))
        · exact .inr (.inr (.inr (.inr (.inr ⟨h1, h2, h3, by rw [← hR]; exact ahead_false (by unfold ltF; simp only; omega)⟩))))
      · by_cases h3 : b < b'
        · exact .inr (.inr (.inl ⟨h1, h2, h3, by rw [← hR]; exact ahead_true (by unfold ltF; simp only; omega)⟩))
        · exact .inr (.inr (.inr (.inl ⟨h1, h2, h3, by rw [← hR]; exact ahead_false (by unfold ltF; simp only; omega)⟩)))
    · by_cases h3 : a < a'
      · exact .inl ⟨h1, h3, by rw [← hR]; exact ahead_true (by unfold ltF; simp only; omega)⟩
      · exact .inr (.inl ⟨h1, h3, by rw [← hR]; exact ahead_false (by unfold ltF; simp only; omega)⟩)
  clear hR
  rcases hcase with ⟨h1, h2, rfl⟩ | ⟨h1, h2, rfl⟩ | ⟨rfl, h1, h2, rfl⟩ | ⟨rfl, h1, h2, rfl⟩ | ⟨rfl, rfl, h2, rfl⟩ | ⟨rfl, rfl, h2, rfl⟩
  · have hb : (a == a') = false := by rw [beq_eq_false_iff_ne]; exact h1
    clear h1
    go_enter Tryz.func79, Tryz.ntmps79
    go_wp2
    go_ret
    exact ⟨rfl, by repeat (first | with_reducible exact Later.refl _ | with_reducible assumption | with_reducible refine Later.ofdrew ?_ | with_reducible refine Later.ofdrewN ?_ | with_reducible refine Later.setCell ?_ ?_ _ | with_reducible refine Later.alloc ?_ _ | with_reducible refine Later.drewN ?_ _ | with_reducible refine Later.drew ?_ | (with_reducible refine Later.trans ?_ (by assumption)) | (simp only [World.size_setCell, World.size_alloc, World.heap_drewN]; omega) | (simp; done) | (simp; omega))⟩
  · have hb : (a == a') = false := by rw [beq_eq_false_iff_ne]; exact h1
    clear h1
    go_enter Tryz.func79, Tryz.ntmps79
    go_wp2
    go_ret
    exact ⟨rfl, by repeat (first | with_reducible exact Later.refl _ | with_reducible assumption | with_reducible refine Later.ofdrew ?_ | with_reducible refine Later.ofdrewN ?_ | with_reducible refine Later.setCell ?_ ?_ _ | with_reducible refine Later.alloc ?_ _ | with_reducible refine Later.drewN ?_ _ | with_reducible refine Later.drew ?_ | (with_reducible refine Later.trans ?_ (by assumption)) | (simp only [World.size_setCell, World.size_alloc, World.heap_drewN]; omega) | (simp; done) | (simp; omega))⟩
  · have hb : (b == b') = false := by rw [beq_eq_false_iff_ne]; exact h1
    clear h1
    go_enter Tryz.func79, Tryz.ntmps79
    go_wp2
    go_ret
    exact ⟨rfl, by repeat (first | with_reducible exact Later.refl _ | with_reducible assumption | with_reducible refine Later.ofdrew ?_ | with_reducible refine Later.ofdrewN ?_ | with_reducible refine Later.setCell ?_ ?_ _ | with_reducible refine Later.alloc ?_ _ | with_reducible refine Later.drewN ?_ _ | with_reducible refine Later.drew ?_ | (with_reducible refine Later.trans ?_ (by assumption)) | (simp only [World.size_setCell, World.size_alloc, World.heap_drewN]; omega) | (simp; done) | (simp; omega))⟩
  · have hb : (b == b') = false := by rw [beq_eq_false_iff_ne]; exact h1
    clear h1
    go_enter Tryz.func79, Tryz.ntmps79
    go_wp2
    go_ret
    exact ⟨rfl, by repeat (first | with_reducible exact Later.refl _ | with_reducible assumption | with_reducible refine Later.ofdrew ?_ | with_reducible refine Later.ofdrewN ?_ | with_reducible refine Later.setCell ?_ ?_ _ | with_reducible refine Later.alloc ?_ _ | with_reducible refine Later.drewN ?_ _ | with_reducible refine Later.drew ?_ | (with_reducible refine Later.trans ?_ (by assumption)) | (simp only [World.size_setCell, World.size_alloc, World.heap_drewN]; omega) | (simp; done) | (simp; omega))⟩
  · go_enter Tryz.func79, Tryz.ntmps79
    go_wp2
    go_ret
    exact ⟨rfl, by repeat (first | with_reducible exact Later.refl _ | with_reducible assumption | with_reducible refine Later.ofdrew ?_ | with_reducible refine Later.ofdrewN ?_ | with_reducible refine Later.setCell ?_ ?_ _ | with_reducible refine Later.alloc ?_ _ | with_reducible refine Later.drewN ?_ _ | with_reducible refine Later.drew ?_ | (with_reducible refine Later.trans ?_ (by assumption)) | (simp only [World.size_setCell, World.size_alloc, World.heap_drewN]; omega) | (simp; done) | (simp; omega))⟩
  · go_enter Tryz.func79, Tryz.ntmps79
    go_wp2
    go_ret
    exact ⟨rfl, by repeat (first | with_reducible exact Later.refl _ | with_reducible assumption | with_reducible refine Later.ofdrew ?_ | with_reducible refine Later.ofdrewN ?_ | with_reducible refine Later.setCell ?_ ?_ _ | with_reducible refine Later.alloc ?_ _ | with_reducible refine Later.drewN ?_ _ | with_reducible refine Later.drew ?_ | (with_reducible refine Later.trans ?_ (by assumption)) | (simp only [World.size_setCell, World.size_alloc, World.heap_drewN]; omega) | (simp; done) | (simp; omega))⟩
theorem tw_take {α : Type} (p : α → Bool) (l : List α) : l.take (l.takeWhile p).length = l.takeWhile p ∧ l.drop (l.takeWhile p).length = l.dropWhile p := by
  have h := List.takeWhile_append_dropWhile (p := p) (l := l)
  constructor
  · conv => lhs; rw [← h]
    rw [List.take_left']
    rw [h]
  · conv => lhs; rw [← h]
    rw [List.drop_left']
    rw [h]
theorem tw_in {α : Type} {p : α → Bool} : ∀ {l : List α} {i : Nat} (hi : i < l.length), i < (l.takeWhile p).length → p l[i] = true
  | a :: l, i, hi, h => by
    rw [List.takeWhile_cons] at h
    split at h
    · rename_i hp
      cases i with
      | zero => exact hp
      | succ i => exact tw_in (l := l) (by simpa using hi) (by simpa using h)
    · simp at h
theorem tw_out {α : Type} {p : α → Bool} : ∀ {l : List α} (hi : (l.takeWhile p).length < l.length), p (l[(l.takeWhile p).length]) = false
  | a :: l, hi => by
    by_cases hp : p a = true
    · have e : (a :: l).takeWhile p = a :: l.takeWhile p := by rw [List.takeWhile_cons, if_pos hp]
      simp only [e, List.length_cons, List.getElem_cons_succ]
      exact tw_out (l := l) (by rw [e] at hi; simpa using hi)
    · have e : (a :: l).takeWhile p = [] := by rw [List.takeWhile_cons, if_neg hp]
      simp only [e, List.length_nil, List.getElem_cons_zero]
      simpa using hp
theorem tw_le {α : Type} (p : α → Bool) (l : List α) : (l.takeWhile p).length ≤ l.length := (List.takeWhile_sublist p).length_le
/-- How many are ahead of one. -/
def aheadN (L : List Fl) (x : Fl) : Nat := (L.takeWhile (fun y => aheadB y x)).length
theorem ins_take (L : List Fl) (x : Fl) : insL ordF L x = L.take (aheadN L x) ++ [x] ++ L.drop (aheadN L x) := by
  unfold aheadN insL
  obtain ⟨a, b⟩ := tw_take (fun y => aheadB y x) L
  rw [a, b]
  unfold aheadB
  simp
set_option maxHeartbeats 3200000 in
theorem rput_any (L : List Fl) (x : Fl) (v : Value) (w : World) (hN : IsFlows w v L) (hlen0 : L.length ≤ 100000) :
    Calls Tryz.prog 33 #[v, flV x] w fun e w' => ∃ v', e = .returned v' ∧ w'.ownsRow w.heap.size 50 3 v' (insL ordF L x).length ((insL ordF L x).flatMap flCs) ∧ Later w w' := by
  obtain ⟨p, cp, rfl⟩ := hN.form
  have hK0 : aheadN L x ≤ L.length := tw_le _ _
  obtain ⟨q1, c1, s1, r1⟩ := row_upto (t := 30) (P := Tryz.prog) (by kernel_rfl) (fun W => by kernel_rfl) hN hK0
  obtain ⟨q2, c2, s2, r2⟩ := row_from (t := 30) (P := Tryz.prog) (by kernel_rfl) (fun W => by kernel_rfl) hN hK0
  have HIN : Hid (∀ i (hi : i < L.length), i < aheadN L x → aheadB (L[i]) x = true) := Lib.hid (fun i hi h => tw_in (p := fun y => aheadB y x) hi h)
  have HOUT : Hid (∀ h : aheadN L x < L.length, aheadB (L[aheadN L x]) x = false) := Lib.hid (fun h => tw_out (p := fun y => aheadB y x) h)
  have HI := Lib.hid (ins_take L x)
  have HX := Lib.hid (fun i (hi : i < L.length) W => rahead_any L[i] x W)
  have HR1 := Lib.hid r1
  have HR2 := Lib.hid r2
  have HN := Lib.hid hN
  obtain ⟨R, hR⟩ : ∃ R, insL ordF L x = R := ⟨_, rfl⟩
  rw [hR] at HI ⊢
  obtain ⟨N, hNL⟩ : ∃ N, L.length = N := ⟨_, rfl⟩
  have HL := Lib.hid hNL
  rw [hNL] at HN hlen0 hK0 s1 s2 HR2 ⊢
  have HT : Hid ((L.take (aheadN L x)).length = aheadN L x ∧ (L.drop (aheadN L x)).length = N - aheadN L x) := Lib.hid ⟨by rw [List.length_take, hNL]; omega, by rw [List.length_drop, hNL]⟩
  clear hR hNL r1 r2 hN
  generalize aheadN L x = K at *
  obtain ⟨xd, xc, xa⟩ := x
  unfold flV
  simp only
  go_enter Tryz.func33, Tryz.ntmps33
  go_upto_region 1 with (fail)
  refine wp_opaque (fun w0 hb0 => ?_)
  have hO0 := Own.one hb0
  have hl0 := hb0.un1
  obtain ⟨z0, d0, -⟩ := own_get hO0
  have x0 := d0 0
  have x1 := d0 1
  have x2 := d0 2
  simp only [List.getElem?_toArray, List.getElem?_cons_zero, List.getElem?_cons_succ] at x0 x1 x2
  clear hb0 d0
  obtain ⟨D, hB⟩ : ∃ D, w.heap.size = D := ⟨_, rfl⟩
  rw [hB] at x0 x1 x2 z0 ⊢
  go_upto_block 0 with (fail)
  go_cut [5] (fun s5 wx => s5 = .int .i64 K ∧ Later w0 wx)
  case first =>
    go_wp2_with fail
    go_loopw [5] (fun s5 wr => ∃ j : Nat, j ≤ K ∧ s5 = .int .i64 j ∧ Later w0 wr) (fun s5 _ => N - (intOf s5).toNat)
    case atStart => exact ⟨0, Nat.zero_le _, rfl, Later.refl _⟩
    case round =>
      obtain ⟨j, hj, rfl, hlat⟩ := hrel
      have hlw := hl0.trans hlat
      replace x0 := ((bcell hlat).1 _ 0 z0).trans x0
      replace x1 := ((bcell hlat).1 _ 1 z0).trans x1
      replace x2 := ((bcell hlat).1 _ 2 z0).trans x2
      have zB := Nat.lt_of_lt_of_le z0 hlat.size
      by_cases hlt : j < N
      · have hjl : j < L.length := by rw [HL.out]; exact hlt
        obtain ⟨b, o, c3, hv, hb, g⟩ := HN.out.full (i := j) hjl
        rw [HL.out] at hv
        cases hv
        have e0 := ((bcell hlw).1 _ _ hb).trans (g 0 (by decide))
        have e1 := ((bcell hlw).1 _ _ hb).trans (g 1 (by decide))
        have e2 := ((bcell hlw).1 _ _ hb).trans (g 2 (by decide))
        simp only [flF, Nat.add_zero] at e0 e1 e2
        have hbr := Nat.lt_of_lt_of_le hb hlw.size
        have HXJ := Lib.hid (fun W => HX.out j hjl W)
        unfold flV at HXJ
        obtain ⟨q, hq⟩ : ∃ q, aheadB L[j] ⟨xd, xc, xa⟩ = q := ⟨_, rfl⟩
        rw [hq] at HXJ
        have HQ := Lib.hid hq
        clear g hq hb HX
        by_cases hjk : j < K
        · have hq : q = true := by rw [← HQ.out]; exact HIN.out j hjl hjk
          subst hq
          clear HQ HIN HOUT HR1 HR2
          generalize (L[j]).day = y0 at *
          generalize (L[j]).cur = y1 at *
          generalize (L[j]).amt = y2 at *
          go_upto_region 2 with (fail)
          refine wp_region_plan 12 (.one [0, 1] 2 (.one [3, 4, 5, 6, 7, 8, 9] 10 (.done [11]))) (by kernel_rfl) (by kernel_rfl) (fun _ _ d _ _ h => by cases d <;> exact h) ?_
          repeat' (first
            | (refine plan_done (fun K hK => ?_); (first | (simp only [pick_cons, pick_nil, toList_some_append, List.getElem?_toArray, List.getElem?_cons_zero, List.getElem?_cons_succ]; repeat (go_big_quiet_step (fail))) | simp only [pick_nil]); refine wpQuiet_nil (hK _ ?_); clear hK K)
            | (refine plan_one (by rfl) (fun K hK => ?_); (first | (simp only [pick_cons, pick_nil, toList_some_append, List.getElem?_toArray, List.getElem?_cons_zero, List.getElem?_cons_succ]; repeat (go_big_quiet_step (fail))) | simp only [pick_nil]); refine wpQuiet_nil (hK _ ?_); clear hK K)
            | ((with_reducible refine at_list ?_); go_wp2_with ((go_at_call 79; go_must (refine (HXJ.out _).mono ?_; rintro e w1 ⟨rfl, hb1⟩))); first | refine behind_store (t := 12) (by decide) ?_ | refine behind (by repeat (first | with_reducible exact Later.refl _ | with_reducible assumption | with_reducible refine Later.ofdrew ?_ | with_reducible refine Later.ofdrewN ?_ | with_reducible refine Later.alloc ?_ _ | with_reducible refine Later.drewN ?_ _ | with_reducible refine Later.drew ?_ | (with_reducible refine Later.trans ?_ (by assumption)))) ?_))
          all_goals
            go_wp2
            go_roundw
            case rel => exact ⟨j + 1, by omega, by go_num, hlat.trans (by repeat (first | with_reducible exact Later.refl _ | with_reducible assumption | with_reducible refine Later.ofdrew ?_ | with_reducible refine Later.ofdrewN ?_ | with_reducible refine Later.setCell ?_ ?_ _ | with_reducible refine Later.alloc ?_ _ | with_reducible refine Later.drewN ?_ _ | with_reducible refine Later.drew ?_ | (with_reducible refine Later.trans ?_ (by assumption)) | (simp only [World.size_setCell, World.size_alloc, World.heap_drewN]; omega) | (simp; done) | (simp; omega)))⟩
            case measure => simp [intOf]; omega
        · obtain rfl : j = K := by omega
          have hq : q = false := by rw [← HQ.out]; exact HOUT.out hjl
          subst hq
          clear HQ HIN HOUT HR1 HR2
          generalize (L[j]).day = y0 at *
          generalize (L[j]).cur = y1 at *
          generalize (L[j]).amt = y2 at *
          go_upto_region 2 with (fail)
          refine wp_region_plan 12 (.one [0, 1] 2 (.one [3, 4, 5, 6, 7, 8, 9] 10 (.done [11]))) (by kernel_rfl) (by kernel_rfl) (fun _ _ d _ _ h => by cases d <;> exact h) ?_
          repeat' (first
            | (refine plan_done (fun K hK => ?_); (first | (simp only [pick_cons, pick_nil, toList_some_append, List.getElem?_toArray, List.getElem?_cons_zero, List.getElem?_cons_succ]; repeat (go_big_quiet_step (fail))) | simp only [pick_nil]); refine wpQuiet_nil (hK _ ?_); clear hK K)
            | (refine plan_one (by rfl) (fun K hK => ?_); (first | (simp only [pick_cons, pick_nil, toList_some_append, List.getElem?_toArray, List.getElem?_cons_zero, List.getElem?_cons_succ]; repeat (go_big_quiet_step (fail))) | simp only [pick_nil]); refine wpQuiet_nil (hK _ ?_); clear hK K)
            | ((with_reducible refine at_list ?_); go_wp2_with ((go_at_call 79; go_must (refine (HXJ.out _).mono ?_; rintro e w1 ⟨rfl, hb1⟩))); first | refine behind_store (t := 12) (by decide) ?_ | refine behind (by repeat (first | with_reducible exact Later.refl _ | with_reducible assumption | with_reducible refine Later.ofdrew ?_ | with_reducible refine Later.ofdrewN ?_ | with_reducible refine Later.alloc ?_ _ | with_reducible refine Later.drewN ?_ _ | with_reducible refine Later.drew ?_ | (with_reducible refine Later.trans ?_ (by assumption)))) ?_))
          all_goals
            go_wp2_with fail
            go_meet
            exact ⟨rfl, hlat.trans (by repeat (first | with_reducible exact Later.refl _ | with_reducible assumption | with_reducible refine Later.ofdrew ?_ | with_reducible refine Later.ofdrewN ?_ | with_reducible refine Later.setCell ?_ ?_ _ | with_reducible refine Later.alloc ?_ _ | with_reducible refine Later.drewN ?_ _ | with_reducible refine Later.drew ?_ | (with_reducible refine Later.trans ?_ (by assumption)) | (simp only [World.size_setCell, World.size_alloc, World.heap_drewN]; omega) | (simp; done) | (simp; omega)))⟩
      · obtain rfl : j = K := by omega
        clear HIN HOUT HR1 HR2 HX
        go_upto_region 2 with (fail)
        refine wp_region_plan 12 (.one [0, 1] 2 (.one [3, 4, 5, 6, 7, 8, 9] 10 (.done [11]))) (by kernel_rfl) (by kernel_rfl) (fun _ _ d _ _ h => by cases d <;> exact h) ?_
        repeat' (first
          | (refine plan_done (fun K hK => ?_); (first | (simp only [pick_cons, pick_nil, toList_some_append, List.getElem?_toArray, List.getElem?_cons_zero, List.getElem?_cons_succ]; repeat (go_big_quiet_step (fail))) | simp only [pick_nil]); refine wpQuiet_nil (hK _ ?_); clear hK K)
          | (refine plan_one (by rfl) (fun K hK => ?_); (first | (simp only [pick_cons, pick_nil, toList_some_append, List.getElem?_toArray, List.getElem?_cons_zero, List.getElem?_cons_succ]; repeat (go_big_quiet_step (fail))) | simp only [pick_nil]); refine wpQuiet_nil (hK _ ?_); clear hK K)
          | ((with_reducible refine at_list ?_); go_wp2_with (fail); first | refine behind_store (t := 12) (by decide) ?_ | refine behind (by repeat (first | with_reducible exact Later.refl _ | with_reducible assumption | with_reducible refine Later.ofdrew ?_ | with_reducible refine Later.ofdrewN ?_ | with_reducible refine Later.alloc ?_ _ | with_reducible refine Later.drewN ?_ _ | with_reducible refine Later.drew ?_ | (with_reducible refine Later.trans ?_ (by assumption)))) ?_))
        all_goals
          go_wp2_with fail
          go_meet
          exact ⟨rfl, hlat.trans (by repeat (first | with_reducible exact Later.refl _ | with_reducible assumption | with_reducible refine Later.ofdrew ?_ | with_reducible refine Later.ofdrewN ?_ | with_reducible refine Later.setCell ?_ ?_ _ | with_reducible refine Later.alloc ?_ _ | with_reducible refine Later.drewN ?_ _ | with_reducible refine Later.drew ?_ | (with_reducible refine Later.trans ?_ (by assumption)) | (simp only [World.size_setCell, World.size_alloc, World.heap_drewN]; omega) | (simp; done) | (simp; omega)))⟩
  case rest =>
    obtain ⟨rfl, hlc⟩ := hcut
    have hlE : Later w wc := hl0.trans hlc
    replace x0 := ((bcell hlc).1 _ 0 z0).trans x0
    replace x1 := ((bcell hlc).1 _ 1 z0).trans x1
    replace x2 := ((bcell hlc).1 _ 2 z0).trans x2
    have zc := Nat.lt_of_lt_of_le z0 hlc.size
    have hBc : D ≤ wc.heap.size := by omega
    clear HX HIN HOUT HN
    go_upto_region 6 with (at_builtin; go_must (refine B.wpList_rows (L := []) (base := D) flCs flCs_len flCs_get flCs_one sliceFlow (World.ownsRow_nil _ _ _ _) hBc (HR1.out.later hlE) rfl _ _ rfl rfl rfl (by rw [HT.out.1]; simp; omega) (by decide) ?_; intro v1 w1 h1 g1 k1; rw [List.nil_append] at h1; have h1' := h1; rw [HT.out.1] at h1'; obtain ⟨p1, c1', rfl⟩ := B.owns_form h1'; have hl1 : Later wc w1 := Later.grown (Later.refl _) g1 (fun k hk => by cases hk)))
    have HM1 := Lib.hid h1
    replace x0 := ((bcell hl1).1 _ 0 zc).trans x0
    replace x1 := ((bcell hl1).1 _ 1 zc).trans x1
    replace x2 := ((bcell hl1).1 _ 2 zc).trans x2
    have zc1 := Nat.lt_of_lt_of_le zc hl1.size
    have hB1 : D ≤ w1.heap.size := by omega
    clear h1 h1' g1 k1
    go_upto_region 7 with (at_builtin; go_must (refine wpList_flow (base := D) ⟨xd, xc, xa⟩ HM1.out hB1 rfl _ _ rfl rfl 1 _ rfl rfl (by rw [HT.out.1]; omega) ?_; intro v2 w2 h2 g2 k2))
    have hK2 : ((L.take K) ++ [(⟨xd, xc, xa⟩ : Fl)]).length = K + 1 := by rw [List.length_append, HT.out.1]; rfl
    have h2' := h2
    rw [hK2] at h2'
    obtain ⟨p2, c2', rfl⟩ := B.owns_form h2'
    have HM2 := Lib.hid h2
    have hl2 : Later w w2 := Later.grown ((hlE.trans hl1).alloc _) g2 (fun k hk => by rw [hB]; exact (HM1.out.lt k hk).1)
    have hB2 : D ≤ w2.heap.size := by have := hl2.size; omega
    have HK2 := Lib.hid hK2
    clear h2 h2' g2 k2 hK2
    go_wp2_with (at_builtin; go_must (refine B.wpList_rows (base := D) flCs flCs_len flCs_get flCs_one sliceFlow HM2.out hB2 (HR2.out.later hl2) rfl _ _ rfl rfl rfl (by rw [HK2.out, HT.out.2]; omega) (by decide) ?_; intro v3 w3 h3 g3 k3; have hl3 : Later w w3 := Later.grown hl2 g3 (fun k hk => by rw [hB]; exact (HM2.out.lt k hk).1)))
    go_ret
    exact ⟨_, rfl, by rw [HI.out, hB]; exact h3, hl3⟩
end Go.Proofs.YtkjabiabeemfhaaGreatDoor
end
section
/- DenoteGives: its walk -/
namespace Go.Proofs.YtkjabiabeemfhaaGreatDoor
open Go.RowKit
set_option maxRecDepth 100000

theorem parts_lit {w w' : World} {u : Value} {ts : List Nd} (h : IsNodes w' u ts) (hl : Later (w.alloc (.cells #[u] 22)) w') : IsParts w' (.slice (some ⟨w.heap.size, 0, none⟩) 1 1) [ts] := by
  have hr : IsRow 1 (fun (u : Value) _ => u) (w.alloc (.cells #[u] 22)) (.slice (some ⟨w.heap.size, 0, none⟩) 1 1) [u] := by
    refine .inr ⟨w.heap.size, 0, 1, rfl, by rw [World.size_alloc]; omega, Nat.le_refl _, by decide, fun i hi j hj => ?_⟩
    obtain rfl : i = 0 := by simpa using hi
    obtain rfl : j = 0 := by omega
    simp only [Nat.zero_mul, Nat.add_zero, List.getElem_cons_zero]
    rw [World.cell?_alloc_at _ _ _ _ rfl]; rfl
  refine ⟨[u], rfl, hr.later hl, fun i h1 h2 => ?_⟩
  obtain rfl : i = 0 := by simpa using h1
  exact h

set_option maxHeartbeats 1600000 in
theorem gives_far (ts : List Nd) (l : List Td) (v u : Value) (day tod : Int) (w : World) (lok : ∀ x ∈ l, x.ok) (hS : Shapes w) (hN : IsNodes w v ts) (hT : IsTolds w u l) (h : ¬ (ts.length ≤ 100 ∧ l.length ≤ 60)) :
    Calls Tryz.prog 8 #[.agg #[v, .int .i64 day, .int .i64 tod, u]] w fun e w' => e = .returned (.bool true) ∧ Later w w' := by
  have HAW := Lib.hid (fun W (hl : Later w W) => dawake_any W (hS.later hl))
  have HM := Lib.hid (fun W (hl : Later w W) => made_big l (row_len hT) lok u W (hT.later hl))
  have HFW := Lib.hid (fun W (hl : Later w W) => lfew_any ts l v u day tod W (hN.later hl) (hT.later hl))
  rw [show (decide (ts.length ≤ 100) && decide (l.length ≤ 60)) = false by rw [Bool.eq_false_iff]; intro e; simp only [Bool.and_eq_true, decide_eq_true_eq] at e; exact h e] at HFW
  clear h hS hN hT lok
  go_enter Tryz.func8, Tryz.ntmps8
  go_upto_region 1 with (fail)
  refine wp_opaque (fun w0 hb0 => ?_)
  have hO0 := Own.one hb0
  have hl0 := hb0.un1
  obtain ⟨z0, d0, -⟩ := own_get hO0
  clear hb0
  go_wp2_with (first
    | (go_at_call 15; go_must (refine (HM.out _ hl0).mono ?_; rintro e w1 ⟨p, m1, m2, rfl, hF1, ge1, ge2, hb1⟩; have hl1 : Later w w1 := hl0.trans hb1; clear hF1 d0 z0; obtain ⟨z0, d0, -⟩ := own_get (hO0.later hb1)))
    | (go_at_call 16; go_must (refine (HFW.out _ hl1).mono ?_; rintro e w2 ⟨rfl, hb2⟩; have hl2 := hl1.trans hb2; clear d0 z0; obtain ⟨z0, d0, -⟩ := own_get (hO0.later (hb1.trans hb2))))
    | (go_at_call 17; go_must (refine (HAW.out _ hl2).mono ?_; rintro e w3 ⟨rfl, hb3⟩)))
  go_ret
  exact ⟨rfl, hl2.trans hb3⟩
set_option maxHeartbeats 6400000 in
theorem gives_near (ts : List Nd) (l : List Td) (v u : Value) (day tod : Int) (w : World) (hok : ∀ x ∈ ts, x.ok) (lok : ∀ x ∈ l, x.ok) (hS : Shapes w) (hN : IsNodes w v ts) (hT : IsTolds w u l) (h1 : ts.length ≤ 100) (h2 : l.length ≤ 60) :
    Calls Tryz.prog 8 #[.agg #[v, .int .i64 day, .int .i64 tod, u]] w fun e w' => e = .returned (.bool true) ∧ Later w w' := by
  have HAW := Lib.hid (fun W (hl : Later w W) => dawake_any W (hS.later hl))
  have HM := Lib.hid (fun W (hl : Later w W) => made_any l (by omega) lok u W (hT.later hl))
  have HFW := Lib.hid (fun W (hl : Later w W) => lfew_any ts l v u day tod W (hN.later hl) (hT.later hl))
  rw [decide_eq_true h1, decide_eq_true h2, Bool.true_and] at HFW
  have hfc := fcOk_made l lok
  have hok1 : ∀ x ∈ giveN :: ts, x.ok := fun x hx => (List.mem_cons.1 hx).elim (fun e => by rw [e]; exact give_ok) (hok x)
  have hok2 : ∀ x ∈ giveN :: giveN :: ts, x.ok := fun x hx => (List.mem_cons.1 hx).elim (fun e => by rw [e]; exact give_ok) (hok1 x)
  have HPRE := Lib.hid (fun (us : List Nd) (hus : us.length ≤ 1000) (huok : ∀ x ∈ us, x.ok) (t : Value) W (hl : Later w W) p m1 m2 (hNu : IsNodes W t us) hF => (⟨by omega, huok, hS.later hl, hNu, hF, hfc.fo, hfc.co, hfc.cn, Nat.le_trans hfc.cl (by omega)⟩ : PreAt W us t (madeFx l) (madeCh l) p m1 m2))
  have HA := Lib.hid (fun W (hl : Later w W) p m1 m2 hF => flows_any (HPRE.out ts (by omega) hok v W hl p m1 m2 (hN.later hl) hF) day tod)
  have HA1 := Lib.hid (fun t W (hl : Later w W) p m1 m2 hNu hF => flows_any (HPRE.out (giveN :: ts) (by rw [List.length_cons]; omega) hok1 t W hl p m1 m2 hNu hF) day tod)
  have HA2 := Lib.hid (fun t W (hl : Later w W) p m1 m2 hNu hF => flows_any (HPRE.out (giveN :: giveN :: ts) (by rw [List.length_cons, List.length_cons]; omega) hok2 t W hl p m1 m2 hNu hF) day tod)
  have HB := Lib.hid (fun W (hl : Later w W) p m1 m2 hF => waits_any (HPRE.out ts (by omega) hok v W hl p m1 m2 (hN.later hl) hF) day tod)
  have HB1 := Lib.hid (fun t W (hl : Later w W) p m1 m2 hNu hF => waits_any (HPRE.out (giveN :: ts) (by rw [List.length_cons]; omega) hok1 t W hl p m1 m2 hNu hF) day tod)
  have HGP := Lib.hid (fun g1 g2 => gives_plain (env := envT (madeFx l) (madeCh l)) (day := day) (tod := tod) hok hfc.env g1 g2)
  have HAM := Lib.hid (flows_amt (ts := giveN :: ts) (day := day) (tod := tod) hok1 hfc.env)
  have HLN : Hid ((flowsT (envT (madeFx l) (madeCh l)) ts day tod).length ≤ 64) := Lib.hid (flows_few _ _ _ _)
  have HLW : Hid ((waitsT (envT (madeFx l) (madeCh l)) ts day tod).length ≤ 8192) := Lib.hid (waits_few _ _ _ _)
  have HJ1 := Lib.hid (fun t W (hl : Later w W) (hp : IsParts W t [ts]) => tjoin_any giveN [ts] t W give_ok (by simpa using hok) (hS.later hl) hp (by simp) (by simp; omega))
  have HJ2 := Lib.hid (fun t W (hl : Later w W) (hp : IsParts W t [giveN :: ts]) => tjoin_any giveN [giveN :: ts] t W give_ok (by simpa using hok1) (hS.later hl) hp (by simp) (by simp; omega))
  have HJ0 := Lib.hid (fun t W (hl : Later w W) (hp : IsParts W t [[]]) => tjoin_any giveN [[]] t W give_ok (by simp) (hS.later hl) hp (by simp) (by simp))
  rw [show [ts].flatten = ts by simp] at HJ1
  rw [show [giveN :: ts].flatten = giveN :: ts by simp] at HJ2
  obtain ⟨E, hE⟩ : ∃ E, (outT (envT (madeFx l) (madeCh l)) ts day tod).1 = E := ⟨_, rfl⟩
  obtain ⟨E1, hE1⟩ : ∃ E, (outT (envT (madeFx l) (madeCh l)) (giveN :: ts) day tod).1 = E := ⟨_, rfl⟩
  obtain ⟨E2, hE2⟩ : ∃ E, (outT (envT (madeFx l) (madeCh l)) (giveN :: giveN :: ts) day tod).1 = E := ⟨_, rfl⟩
  rw [hE] at HA HB HGP
  rw [hE1] at HA1 HB1 HGP
  rw [hE2] at HA2 HGP
  generalize flowsT (envT (madeFx l) (madeCh l)) ts day tod = A at *
  generalize flowsT (envT (madeFx l) (madeCh l)) (giveN :: ts) day tod = A1 at *
  generalize flowsT (envT (madeFx l) (madeCh l)) (giveN :: giveN :: ts) day tod = A2 at *
  generalize waitsT (envT (madeFx l) (madeCh l)) ts day tod = Y at *
  generalize waitsT (envT (madeFx l) (madeCh l)) (giveN :: ts) day tod = Y1 at *
  clear hE hE1 hE2 hfc HPRE
  have HN := Lib.hid hN
  obtain ⟨j1, hj1⟩ : ∃ J, joinE giveN [ts] = J := ⟨_, rfl⟩
  obtain ⟨j2, hj2⟩ : ∃ J, joinE giveN [giveN :: ts] = J := ⟨_, rfl⟩
  obtain ⟨j0, hj0⟩ : ∃ J, joinE giveN [[]] = J := ⟨_, rfl⟩
  rw [hj1] at HJ1 HGP
  rw [hj2] at HJ2 HGP
  rw [hj0] at HJ0
  unfold Nd.val at HJ1 HJ2 HJ0
  obtain ⟨pv, cv, rfl⟩ := hN.form
  obtain ⟨pu, cu, rfl⟩ := hT.form
  clear hS hN hT hok lok h1 h2 hok1 hok2 hj1 hj2 hj0
  generalize madeFx l = FX at *
  generalize madeCh l = CH at *
  obtain ⟨L, hL⟩ : ∃ L, ts.length = L := ⟨_, rfl⟩
  rw [hL] at HN HA HB HFW
  rw [hL]
  have HLL := Lib.hid hL
  clear hL
  generalize l.length = M at *
  go_enter Tryz.func8, Tryz.ntmps8
  go_upto_region 1 with (fail)
  refine wp_opaque (fun w0 hb0 => ?_)
  have hO0 := Own.one hb0
  have HO0 := Lib.hid hO0
  have hl0 := hb0.un1
  obtain ⟨z0, d0, -⟩ := own_get hO0
  clear hb0
  go_upto_region 4 with (first
    | (go_at_call 15; go_must (refine (HM.out _ hl0).mono ?_; rintro e w1 ⟨p, m1, m2, rfl, hF1, ge1, ge2, hb1⟩; have hl1 : Later w w1 := hl0.trans hb1; clear d0 z0; obtain ⟨z0, d0, -⟩ := own_get (hO0.later hb1)))
    | (go_at_call 16; go_must (refine (HFW.out _ hl1).mono ?_; rintro e w2 ⟨rfl, hb2⟩; have hl2 := hl1.trans hb2; clear d0 z0; obtain ⟨z0, d0, -⟩ := own_get (hO0.later (hb1.trans hb2)))))
  have HO2 := Lib.hid (hO0.later (hb1.trans hb2))
  have HF2 := Lib.hid (hF1.later hb2)
  clear hb1 hb2 hF1 hl1 HM HFW ge1 ge2 hO0 HO0 hl0
  go_upto_region 5 with (first | refine wpList_built (node_build _) rfl rfl rfl ?_ | refine wpList_builtS (parts_build _ _ _ _) rfl rfl rfl ?_ | (go_at_call 32; go_must (refine (HJ1.out _ _ (hl2.alloc _) (parts_lit (HN.out.later (hl2.alloc _)) (Later.refl _))).mono ?_; rintro e w3 ⟨v3, rfl, hg3, hn3, hb3⟩; have hl3 : Later w2 w3 := ((Later.refl w2).alloc _).trans hb3; clear d0 z0; obtain ⟨z0, d0, -⟩ := own_get (HO2.out.later hl3))))
  have HO3 := Lib.hid (HO2.out.later hl3)
  have HF3 := Lib.hid (HF2.out.later hl3)
  have HG3 := Lib.hid hg3
  replace hl2 := hl2.trans hl3
  clear hb3 hg3 HO2 HF2 HJ1 hl3
  by_cases k1 : j1 = 0
  · subst k1
    have HI3 := Lib.hid (HG3.out rfl)
    obtain ⟨p3, c3, hv3⟩ := HI3.out.form
    obtain ⟨L3, hL3⟩ : ∃ n, (giveN :: ts).length = n := ⟨_, rfl⟩
    rw [hL3] at hv3
    subst hv3
    clear HG3 hn3 hL3 HJ0
    go_upto_region 6 with (first | refine wpList_built (node_build _) rfl rfl rfl ?_ | refine wpList_builtS (parts_build _ _ _ _) rfl rfl rfl ?_ | (go_at_call 32; go_must (refine (HJ2.out _ _ (hl2.alloc _) (parts_lit (HI3.out.later ((Later.refl w3).alloc _)) (Later.refl _))).mono ?_; rintro e w4 ⟨v4, rfl, hg4, hn4, hb4⟩; have hl4 : Later w3 w4 := ((Later.refl w3).alloc _).trans hb4; clear d0 z0; obtain ⟨z0, d0, -⟩ := own_get (HO3.out.later hl4))))
    have HO4 := Lib.hid (HO3.out.later hl4)
    have HF4 := Lib.hid (HF3.out.later hl4)
    have HI4 := Lib.hid (HI3.out.later hl4)
    have HG4 := Lib.hid hg4
    replace hl2 := hl2.trans hl4
    clear hb4 hg4 HO3 HF3 HJ2 hl4 HI3
    by_cases k2 : j2 = 0
    · subst k2
      have HI5 := Lib.hid (HG4.out rfl)
      obtain ⟨ee1, ee2, ee3, ee4, ee5, ee6⟩ := HGP.out (by simp) (by simp)
      clear HG4 hn4 HGP
      subst ee1 ee2 ee3 ee6
      obtain ⟨N, hN⟩ : ∃ N, A2.length = N := ⟨_, rfl⟩
      rw [hN] at ee4 HLN
      have HFO := Lib.hid ee5
      have HNK := Lib.hid (show A2.length = N ∧ A1.length = N from ⟨hN, ee4⟩)
      have hN64 := HLN.out
      obtain ⟨K, hK⟩ : ∃ N, Y1.length = N := ⟨_, rfl⟩
      rw [hK] at HLW
      have HKK := Lib.hid hK
      obtain ⟨p4, c4, hv4⟩ := HI5.out.form
      obtain ⟨L4, hL4⟩ : ∃ n, (giveN :: giveN :: ts).length = n := ⟨_, rfl⟩
      rw [hL4] at hv4
      subst hv4
      clear hN ee4 ee5 hK hL4
      go_upto_region 9 with (go_at_call 18; go_must (refine (HA.out _ hl2 _ _ _ HF4.out).mono ?_; rintro e w5 ⟨va, rfl, hfa, hb5⟩; obtain ⟨qa, ca, rfl⟩ := hfa.form; rw [HNK.out.1] at hfa ⊢; clear d0 z0; obtain ⟨z0, d0, -⟩ := own_get (HO4.out.later hb5)))
      have HFA5 := Lib.hid hfa
      have HF5 := Lib.hid (HF4.out.later hb5)
      clear hfa HA
      go_upto_region 10 with (go_at_call 18; go_must (refine (HA1.out _ _ (hl2.trans hb5) _ _ _ (HI4.out.later hb5) HF5.out).mono ?_; rintro e w6 ⟨vb, rfl, hfb, hb6⟩; obtain ⟨qb, cb, rfl⟩ := hfb.form; rw [HNK.out.2] at hfb ⊢; clear d0 z0; obtain ⟨z0, d0, -⟩ := own_get (HO4.out.later (hb5.trans hb6))))
      have HFB6 := Lib.hid hfb
      have HF6 := Lib.hid (HF5.out.later hb6)
      have hb46 := hb5.trans hb6
      clear hfb HA1 HF5 hb5
      go_upto_region 11 with (go_at_call 18; go_must (refine (HA2.out _ _ (hl2.trans hb46) _ _ _ (HI5.out.later hb46) HF6.out).mono ?_; rintro e w7 ⟨vc, rfl, hfc, hb7⟩; obtain ⟨qc, cc, rfl⟩ := hfc.form; rw [HNK.out.1] at hfc ⊢; clear d0 z0; obtain ⟨z0, d0, -⟩ := own_get (HO4.out.later (hb46.trans hb7))))
      have HFC7 := Lib.hid hfc
      have HF7 := Lib.hid (HF6.out.later hb7)
      have HFA7 := Lib.hid (HFA5.out.later (hb6.trans hb7))
      have HFB7 := Lib.hid (HFB6.out.later hb7)
      have hb47 := hb46.trans hb7
      clear hfc HA2 HF6 HFA5 HFB6 hb6 hb7 hb46
      have hLL := Lib.hid (lflows_any A2 A2 _ _ w7 HFA7.out HFC7.out (by have := HNK.out.1; omega))
      rw [show decide (A2 = A2) = true by simp] at hLL
      go_upto_region 15 with (go_at_call 23; go_must (refine hLL.out.mono ?_; rintro e w8 ⟨rfl, hb8⟩; clear d0 z0; obtain ⟨z0, d0, -⟩ := own_get (HO4.out.later (hb47.trans hb8))))
      have hb48 := hb47.trans hb8
      have hl8 := hl2.trans hb48
      have HO8 := Lib.hid (HO4.out.later hb48)
      have HF8 := Lib.hid (HF7.out.later hb8)
      have HFA8 := Lib.hid (HFA7.out.later hb8)
      have HFB8 := Lib.hid (HFB7.out.later hb8)
      have HI8 := Lib.hid (HI4.out.later hb48)
      clear hLL HFC7 HFA7 HFB7 HF7 HI5 HI4 HF4 HO4 hb47 hb8 hb48 hl2 d0 z0
      go_loopw [14, 15] (fun s14 s15 wr => ∃ j : Nat, j ≤ N ∧ s15 = .int .i64 j ∧ Hid (IsFlows wr s14 (((A1.take j).map Fl.neg).foldl (insL ordF) [])) ∧ Later w8 wr) (fun _ s15 _ => N - (intOf s15).toNat)
      case atStart => exact ⟨0, Nat.zero_le _, rfl, Lib.hid (.inl ⟨⟨none, rfl⟩, rfl⟩), Later.refl _⟩
      case round =>
        obtain ⟨j, hj, rfl, hrow, hlat⟩ := hrel
        have hwl := hl8.trans hlat
        obtain ⟨z0, d0, -⟩ := own_get (HO8.out.later hlat)
        obtain ⟨L8, hL8⟩ : ∃ X, ((A1.take j).map Fl.neg).foldl (insL ordF) [] = X := ⟨_, rfl⟩
        have hlen8 : L8.length ≤ 64 := by rw [← hL8, puts_len, List.length_map, List.length_take]; have := HNK.out.2; omega
        rw [hL8] at hrow
        have HL8 := Lib.hid hL8
        have HR8 := Lib.hid hrow.out
        obtain ⟨p8, c8, rfl⟩ := hrow.out.form
        obtain ⟨n8, hn8⟩ : ∃ n, L8.length = n := ⟨_, rfl⟩
        rw [hn8] at HR8 hlen8 ⊢
        have HN8 := Lib.hid hn8
        clear hL8 hn8 hrow
        by_cases hlt : j < N
        · have hjl : j < A1.length := by rw [HNK.out.2]; exact hlt
          obtain ⟨b, o, c1, hv, hb, g⟩ := HFB8.out.full (i := j) hjl
          rw [HNK.out.2] at hv
          cases hv
          have e0 := ((bcell hlat).1 _ _ hb).trans (g 0 (by decide))
          have e1 := ((bcell hlat).1 _ _ hb).trans (g 1 (by decide))
          have e2 := ((bcell hlat).1 _ _ hb).trans (g 2 (by decide))
          simp only [flF, Nat.add_zero] at e0 e1 e2
          obtain ⟨m1', m2'⟩ := HAM.out A1[j] (List.getElem_mem hjl)
          have HT := Lib.hid (negs_take hjl)
          have hA3 : (A1[j]).neg = ⟨(A1[j]).day, (A1[j]).cur, -(A1[j]).amt⟩ := rfl
          rw [hA3, HL8.out] at HT
          generalize (A1[j]).day = x0 at *
          generalize (A1[j]).cur = x1 at *
          generalize (A1[j]).amt = x2 at *
          have HPT := Lib.hid (fun W (hl : Later wr W) => rput_any L8 ⟨x0, x1, -x2⟩ _ W (HR8.out.later hl) (by rw [HN8.out]; omega))
          clear g hA3 hjl d0 z0 HL8
          go_upto_region 19 with (fail)
          go_wp2_with (go_at_call 33; go_must (refine (HPT.out _ ((Later.refl wr).alloc _)).mono ?_; rintro e wb ⟨v9, rfl, hown, hb9⟩; have hl9 : Later wr wb := ((Later.refl wr).alloc _).trans hb9))
          go_roundw
          case rel => exact ⟨j + 1, by omega, by go_num, Lib.hid (by rw [HT.out]; exact (owns_flows hown).1), hlat.trans hl9⟩
          case measure => simp [intOf]; omega
        · have hL8 : L8 = A2 := by rw [← HL8.out, ← HFO.out, List.take_of_length_le (by rw [HNK.out.2]; omega)]
          subst hL8
          have HFAr := Lib.hid (HFA8.out.later hlat)
          have HFr := Lib.hid (HF8.out.later hlat)
          have HIr := Lib.hid (HI8.out.later hlat)
          have HOr := Lib.hid (HO8.out.later hlat)
          clear HFA8 HF8 HI8 HO8 HFB8 HL8 HFO HAM hlat hl8
          go_upto_region 21 with (go_at_call 19; go_must (refine (HB.out _ hwl _ _ _ HFr.out).mono ?_; rintro e wb ⟨vx, rfl, hfx, hb9⟩; obtain ⟨qx, cx, rfl⟩ := hfx.form; rw [HKK.out] at hfx ⊢; clear d0 z0; obtain ⟨z0, d0, -⟩ := own_get (HOr.out.later hb9)))
          have HX9 := Lib.hid hfx
          have hl9 := hwl.trans hb9
          clear hfx HB
          go_upto_region 22 with (go_at_call 19; go_must (refine (HB1.out _ _ hl9 _ _ _ (HIr.out.later hb9) (HFr.out.later hb9)).mono ?_; rintro e wd ⟨vy, rfl, hfy, hbd⟩; obtain ⟨qy, cy, rfl⟩ := hfy.form; rw [HKK.out] at hfy ⊢; clear d0 z0; obtain ⟨z0, d0, -⟩ := own_get (HOr.out.later (hb9.trans hbd))))
          have HY := Lib.hid hfy
          have HXd := Lib.hid (HX9.out.later hbd)
          have hld := hl9.trans hbd
          have hF1 := Lib.hid (fun W (hl : Later wd W) => lflows_any L8 L8 _ _ W (HFAr.out.later ((hb9.trans hbd).trans hl)) (HR8.out.later ((hb9.trans hbd).trans hl)) (by rw [HN8.out]; omega))
          rw [show decide (L8 = L8) = true by simp] at hF1
          have hW1 := Lib.hid (fun W (hl : Later wd W) => lwaits_any Y1 Y1 _ _ W (HXd.out.later hl) (HY.out.later hl) (by have := HLW.out; rw [HKK.out]; omega))
          rw [show decide (Y1 = Y1) = true by simp] at hW1
          clear HB1 HX9 hfy HIr HFr HOr HXd HY HFAr hb9 hl9 HR8 d0 z0
          go_wp2_with (first
            | (go_at_call 23; go_must (refine (hF1.out _ (Later.refl _)).mono ?_; rintro e we ⟨rfl, hbe⟩))
            | (go_at_call 29; go_must (refine (hW1.out _ hbe).mono ?_; rintro e wf ⟨rfl, hbf⟩))
            | (go_at_call 17; go_must (refine (HAW.out _ ((hld.trans hbe).trans hbf)).mono ?_; rintro e wg ⟨rfl, hbg⟩)))
          go_ret
          exact ⟨rfl, ((hld.trans hbe).trans hbf).trans hbg⟩
    · have ke : (j2 == 0) = false := by simpa using k2
      have ke2 : (j2 != 0) = true := by simpa using k2
      clear k2 HGP hn4 HG4 HA HA1 HA2 HB HB1 HAM
      go_wp2_with (go_at_call 17; go_must (refine (HAW.out _ hl2).mono ?_; rintro e w5 ⟨rfl, hb5⟩))
      go_ret
      exact ⟨rfl, hl2.trans hb5⟩
  · have hv3 := hn3 k1
    subst hv3
    have ke : (j1 == 0) = false := by simpa using k1
    have ke2 : (j1 != 0) = true := by simpa using k1
    clear k1 HGP hn3 HG3 HJ2 HA HA1 HA2 HB HB1 HAM
    have HNIL : Hid (∀ W, IsNodes W (.slice none 0 0) []) := Lib.hid (fun W => .inl ⟨⟨none, rfl⟩, rfl⟩)
    go_wp2_with (first | refine wpList_built (node_build _) rfl rfl rfl ?_ | refine wpList_builtS (parts_build _ _ _ _) rfl rfl rfl ?_ | (go_at_call 32; go_must (refine (HJ0.out _ _ (hl2.alloc _) (parts_lit (HNIL.out _) (Later.refl _))).mono ?_; rintro e w4 ⟨v4, rfl, hg4, hn4, hb4⟩; have hl4 : Later w3 w4 := ((Later.refl w3).alloc _).trans hb4; clear d0 z0; obtain ⟨z0, d0, -⟩ := own_get (HO3.out.later hl4))) | (go_at_call 17; go_must (refine (HAW.out _ (hl2.trans hl4)).mono ?_; rintro e w5 ⟨rfl, hb5⟩)))
    go_ret
    exact ⟨rfl, (hl2.trans hl4).trans hb5⟩
theorem gives_any (ts : List Nd) (l : List Td) (v u : Value) (day tod : Int) (w : World) (hok : ∀ x ∈ ts, x.ok) (lok : ∀ x ∈ l, x.ok) (hS : Shapes w) (hN : IsNodes w v ts) (hT : IsTolds w u l) :
    Calls Tryz.prog 8 #[.agg #[v, .int .i64 day, .int .i64 tod, u]] w fun e w' => e = .returned (.bool true) ∧ Later w w' := by
  by_cases h : ts.length ≤ 100 ∧ l.length ≤ 60
  · exact gives_near ts l v u day tod w hok lok hS hN hT h.1 h.2
  · exact gives_far ts l v u day tod w lok hS hN hT h
end Go.Proofs.YtkjabiabeemfhaaGreatDoor
end
