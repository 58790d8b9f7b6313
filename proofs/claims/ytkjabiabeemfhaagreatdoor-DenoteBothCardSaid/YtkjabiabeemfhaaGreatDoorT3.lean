/- DenoteBoth: its walk -/
import Derived.Test.YtkjabiabeemfhaaGreatDoorQ35
import Derived.Test.YtkjabiabeemfhaaGreatDoorQ34
import Derived.Test.YtkjabiabeemfhaaGreatDoorQ33
import Derived.Test.YtkjabiabeemfhaaGreatDoorQ32
import Derived.Test.YtkjabiabeemfhaaGreatDoorQ22
import Derived.Test.YtkjabiabeemfhaaGreatDoorQ20
import Derived.Test.YtkjabiabeemfhaaGreatDoorQ18
import Derived.Test.YtkjabiabeemfhaaGreatDoorQ17
import Derived.Test.YtkjabiabeemfhaaGreatDoorQ16
import Derived.Test.YtkjabiabeemfhaaGreatDoorQ15
import Derived.Test.YtkjabiabeemfhaaGreatDoorQ14
import Derived.Test.YtkjabiabeemfhaaGreatDoorQ13
import Derived.Test.YtkjabiabeemfhaaGreatDoorQ12
import Derived.Test.YtkjabiabeemfhaaGreatDoorQ3
import Derived.Test.YtkjabiabeemfhaaGreatDoorQ2
import Derived.Test.YtkjabiabeemfhaaGreatDoorRows
import Derived.Test.YtkjabiabeemfhaaGreatDoorQ1
import Derived.Shelf.Small.Bits
import Derived.Shelf.Small.Wraps
import Derived.Shelf.Strconv.Itoa0
import Derived.Shelf.Bits.Mul64
import Derived.Ground.Names2Prog
import Derived.Shelf.Slices.Clone
import Derived.Shelf.Slices.SearchI
import Derived.Ground.SlgnProg
import Derived.Shelf.SlicesE.Clone
import Derived.Shelf.SlLaysF0
import Derived.Ground.SlsfProg
import Derived.Test.YtkjabiabeemfhaaGreatDoorProg
import Derived.WalkKit
import Derived.Lib.BitFns
import Derived.Lib.ItoaNum
import Derived.WalkSpells
import Derived.WalkSmall
import Derived.WalkLawsBesides
import Derived.BigQuiet
import Derived.Deep.RegionHeld3
import Derived.Deep.DeepCutAuto
import Derived.Deep.CutBlock
import Derived.Lib.Hide
import Derived.Deep.Quiet
import Derived.Below
import Derived.OrdersHeld
import Derived.Shelf.Spec.BitsCarry
import Derived.Laws.AppendOwnNone
import Derived.OwnWalk
import Derived.Great.BuildSlice
import Derived.DeepKeys4
import Derived.Maps.Own
import Derived.Test.YtkjabiabeemfhaaGreatDoorQ11
import Derived.Test.YtkjabiabeemfhaaGreatDoorQ10
import Derived.Test.YtkjabiabeemfhaaGreatDoorQ4
import Derived.RangeFuncNested
import Derived.RangeFuncBound
import Derived.RangeFuncCalls
import Derived.RangeFuncLeaves
import Derived.Shelf.Abstract
import Derived.Shelf.RegionOpen
import Derived.OwnWalkIn
import Derived.TacticsInMore
import Derived.LoopNIn
import Derived.LoopIn
import Derived.Test.YtkjabiabeemfhaaGreatDoorT1
import Derived.Deep.LoopGhost
import Derived.Test.YtkjabiabeemfhaaGreatDoorQ8
import Derived.Test.YtkjabiabeemfhaaGreatDoorQ7
import Derived.Test.YtkjabiabeemfhaaGreatDoorQ5
import Derived.WalkMore
import Derived.Lib.Strings
import Derived.Shelf.SlSortCmp.Insertion
import Derived.Laws.IdiomCopy
import Derived.Deep.Upon
import Derived.Shelf.GgSortFunc.InsertionK
import Derived.Test.YtkjabiabeemfhaaGreatDoorQ19
import Derived.RangeFuncBox
import Derived.Test.YtkjabiabeemfhaaGreatDoorQ21
import Derived.Test.YtkjabiabeemfhaaGreatDoorQ23
import Derived.Test.YtkjabiabeemfhaaGreatDoorQ25
import Derived.Test.YtkjabiabeemfhaaGreatDoorQ24
import Derived.Test.YtkjabiabeemfhaaGreatDoorQ26
import Derived.Test.YtkjabiabeemfhaaGreatDoorQ29
import Derived.Test.YtkjabiabeemfhaaGreatDoorQ28
import Derived.Test.YtkjabiabeemfhaaGreatDoorQ27
import Derived.Shelf.SlSortCmp.NoneTotal
import Derived.Shelf.SlSortCmp.WholeK
import Derived.Laws.IdiomRangeMap
import Derived.Test.YtkjabiabeemfhaaGreatDoorQ30
import Derived.Test.YtkjabiabeemfhaaGreatDoorQ31
import Derived.Lib.SliceRun
import Derived.Test.YtkjabiabeemfhaaGreatDoorT2
set_option linter.all false
set_option linter.all false
section
/- DenoteBoth: its walk -/
namespace Go.Proofs.YtkjabiabeemfhaaGreatDoor
open Go.RowKit
set_option maxRecDepth 100000

theorem parts_lit2 {w w' : World} {u v : Value} {ts us : List Nd} (h : IsNodes w' u ts) (k : IsNodes w' v us) (hl : Later (w.alloc (.cells #[u, v] 22)) w') : IsParts w' (.slice (some ⟨w.heap.size, 0, none⟩) 2 2) [ts, us] := by
  have hr : IsRow 1 (fun (u : Value) _ => u) (w.alloc (.cells #[u, v] 22)) (.slice (some ⟨w.heap.size, 0, none⟩) 2 2) [u, v] := by
    refine .inr ⟨w.heap.size, 0, 2, rfl, by rw [World.size_alloc]; omega, Nat.le_refl _, by decide, fun i hi j hj => ?_⟩
    obtain rfl : j = 0 := by omega
    have hi2 : i < 2 := hi
    rcases i with _ | _ | i
    · rw [World.cell?_alloc_at _ _ _ _ rfl]; rfl
    · rw [World.cell?_alloc_at _ _ _ _ rfl]; rfl
    · omega
  refine ⟨[u, v], rfl, hr.later hl, fun i h1 h2 => ?_⟩
  have hi2 : i < 2 := h1
  rcases i with _ | _ | i
  · exact h
  · exact k
  · omega
set_option maxHeartbeats 3200000 in
theorem both_far (ts us : List Nd) (l : List Td) (v v2 u : Value) (day tod d : Int) (w : World) (lok : ∀ x ∈ l, x.ok) (hS : Shapes w) (hN : IsNodes w v ts) (hN2 : IsNodes w v2 us) (hT : IsTolds w u l) (h : ¬ ((ts.length ≤ 30 ∧ l.length ≤ 60) ∧ us.length ≤ 30 ∧ 0 ≤ d ∧ d ≤ 73048 ∧ 0 ≤ day ∧ day ≤ 73048)) :
    Calls Tryz.prog 9 #[.agg #[v, .int .i64 day, .int .i64 tod, u], v2, .int .i64 d] w fun e w' => e = .returned (.bool true) ∧ Later w w' := by
  have HAW := Lib.hid (fun W (hl : Later w W) => dawake_any W (hS.later hl))
  have HM := Lib.hid (fun W (hl : Later w W) => made_big l (row_len hT) lok u W (hT.later hl))
  have HFW := Lib.hid (fun W (hl : Later w W) => lfew_any ts l v u day tod W (hN.later hl) (hT.later hl))
  obtain ⟨F, hF⟩ : ∃ F, (decide (ts.length ≤ 100) && decide (l.length ≤ 60)) = F := ⟨_, rfl⟩
  rw [hF] at HFW
  obtain ⟨p, c, rfl⟩ := hN.form
  obtain ⟨q, k, rfl⟩ := hN2.form
  have hcase : F = false ∨ (F = true ∧ (30 < (ts.length : Int) ∨ (¬ 30 < (ts.length : Int) ∧ (30 < (us.length : Int) ∨ (¬ 30 < (us.length : Int) ∧ (d < 0 ∨ (¬ d < 0 ∧ (73048 < d ∨ (¬ 73048 < d ∧ (day < 0 ∨ (¬ day < 0 ∧ 73048 < day))))))))))) := by
    cases F with
    | false => exact .inl rfl
    | true =>
      simp only [Bool.and_eq_true, decide_eq_true_eq] at hF
      exact .inr ⟨rfl, by omega⟩
  clear hF h hS hN hN2 hT lok
  generalize ts.length = L at *
  generalize us.length = M at *
  rcases hcase with rfl | ⟨rfl, h1 | ⟨h1, h2 | ⟨h2, h3 | ⟨h3, h4 | ⟨h4, h5 | ⟨h5, h6⟩⟩⟩⟩⟩⟩
  all_goals
    go_enter Tryz.func9, Tryz.ntmps9
    go_upto_region 1 with (fail)
    refine wp_opaque (fun w0 hb0 => ?_)
    have hO0 := Own.one hb0
    have hl0 := hb0.un1
    obtain ⟨z0, d0, -⟩ := own_get hO0
    clear hb0
    go_wp2_with (first
      | (go_at_call 15; go_must (refine (HM.out _ hl0).mono ?_; rintro e w1 ⟨p, m1, m2, rfl, hF1, ge1, ge2, hb1⟩; have hl1 : Later w w1 := hl0.trans hb1; clear hF1 d0 z0; obtain ⟨z0, d0, -⟩ := own_get (hO0.later hb1)))
      | (go_at_call 16; go_must (refine (HFW.out _ hl1).mono ?_; rintro e w2 ⟨rfl, hb2⟩; have hl2 := hl1.trans hb2; clear d0 z0; obtain ⟨z0, d0, -⟩ := own_get (hO0.later (hb1.trans hb2))))
      | (go_at_call 17; go_must (refine (HAW.out _ hl2).mono ?_; rintro e w3 ⟨rfl, hb3⟩)))
    go_ret
    exact ⟨rfl, hl2.trans hb3⟩
set_option maxHeartbeats 12800000 in
theorem both_near (ts us : List Nd) (l : List Td) (v v2 u : Value) (day tod d : Int) (w : World) (hok : ∀ x ∈ ts, x.ok) (hok2 : ∀ x ∈ us, x.ok) (hd : I64 d) (lok : ∀ x ∈ l, x.ok) (hS : Shapes w) (hN : IsNodes w v ts) (hN2 : IsNodes w v2 us) (hT : IsTolds w u l) (h1 : ts.length ≤ 30) (h2 : l.length ≤ 60) (h3 : us.length ≤ 30) (h4 : 0 ≤ d) (h5 : d ≤ 73048) (h6 : 0 ≤ day) (h7 : day ≤ 73048) :
    Calls Tryz.prog 9 #[.agg #[v, .int .i64 day, .int .i64 tod, u], v2, .int .i64 d] w fun e w' => e = .returned (.bool true) ∧ Later w w' := by
  have HAW := Lib.hid (fun W (hl : Later w W) => dawake_any W (hS.later hl))
  have HM := Lib.hid (fun W (hl : Later w W) => made_any l (by omega) lok u W (hT.later hl))
  have HFW := Lib.hid (fun W (hl : Later w W) => lfew_any ts l v u day tod W (hN.later hl) (hT.later hl))
  rw [decide_eq_true (show ts.length ≤ 100 by omega), decide_eq_true h2, Bool.true_and] at HFW
  have hfc := fcOk_made l lok
  have hwok : (whenN d).ok := by unfold whenN Nd.ok I64; exact ⟨by simp, hd, by simp, by simp, by simp⟩
  have haok : andN.ok := by unfold andN Nd.ok I64; decide
  have hokW : ∀ x ∈ whenN d :: ts, x.ok := fun x hx => (List.mem_cons.1 hx).elim (fun e => by rw [e]; exact hwok) (hok x)
  have hokA : ∀ x ∈ andN :: (ts ++ us), x.ok := fun x hx => (List.mem_cons.1 hx).elim (fun e => by rw [e]; exact haok) (fun hx => (List.mem_append.1 hx).elim (hok x) (hok2 x))
  have HPRE := Lib.hid (fun (us : List Nd) (hus : us.length ≤ 1000) (huok : ∀ x ∈ us, x.ok) (t : Value) W (hl : Later w W) p m1 m2 (hNu : IsNodes W t us) hF => (⟨by omega, huok, hS.later hl, hNu, hF, hfc.fo, hfc.co, hfc.cn, Nat.le_trans hfc.cl (by omega)⟩ : PreAt W us t (madeFx l) (madeCh l) p m1 m2))
  have HA := Lib.hid (fun W (hl : Later w W) p m1 m2 hF => flows_any (HPRE.out ts (by omega) hok v W hl p m1 m2 (hN.later hl) hF) day tod)
  have HB := Lib.hid (fun W (hl : Later w W) p m1 m2 hF => flows_any (HPRE.out us (by omega) hok2 v2 W hl p m1 m2 (hN2.later hl) hF) day tod)
  have HC := Lib.hid (fun t W (hl : Later w W) p m1 m2 hNu hF => flows_any (HPRE.out (andN :: (ts ++ us)) (by rw [List.length_cons, List.length_append]; omega) hokA t W hl p m1 m2 hNu hF) day tod)
  have HW := Lib.hid (fun t W (hl : Later w W) p m1 m2 hNu hF => flows_any (HPRE.out (whenN d :: ts) (by rw [List.length_cons]; omega) hokW t W hl p m1 m2 hNu hF) day tod)
  have HD := Lib.hid (fun W (hl : Later w W) p m1 m2 hF => flows_any (HPRE.out ts (by omega) hok v W hl p m1 m2 (hN.later hl) hF) d tod)
  have HBP := Lib.hid (fun g1 => both_plain (env := envT (madeFx l) (madeCh l)) (ts := ts) (us := us) (day := day) (tod := tod) g1 h6 h7)
  have HWP := Lib.hid (fun g1 => when_plain (env := envT (madeFx l) (madeCh l)) (a := d) (ts := ts) (day := day) (tod := tod) g1 h6 h7 h4 h5)
  have HLN : Hid ((flowsT (envT (madeFx l) (madeCh l)) ts day tod).length ≤ 64 ∧ (flowsT (envT (madeFx l) (madeCh l)) us day tod).length ≤ 64 ∧ (flowsT (envT (madeFx l) (madeCh l)) (andN :: (ts ++ us)) day tod).length ≤ 64 ∧ (flowsT (envT (madeFx l) (madeCh l)) (whenN d :: ts) day tod).length ≤ 64 ∧ (flowsT (envT (madeFx l) (madeCh l)) ts d tod).length ≤ 64) := Lib.hid ⟨flows_few _ _ _ _, flows_few _ _ _ _, flows_few _ _ _ _, flows_few _ _ _ _, flows_few _ _ _ _⟩
  have HJ1 := Lib.hid (fun t W (hl : Later w W) (hp : IsParts W t [ts, us]) => tjoin_any andN [ts, us] t W haok (by intro y hy; simp only [List.flatten_cons, List.flatten_nil, List.append_nil] at hy; exact (List.mem_append.1 hy).elim (hok y) (hok2 y)) (hS.later hl) hp (by simp) (by simp; omega))
  have HJ2 := Lib.hid (fun t W (hl : Later w W) (hp : IsParts W t [ts]) => tjoin_any (whenN d) [ts] t W hwok (by simpa using hok) (hS.later hl) hp (by simp) (by simp; omega))
  rw [show [ts, us].flatten = ts ++ us by simp] at HJ1
  rw [show [ts].flatten = ts by simp] at HJ2
  obtain ⟨EA, hEA⟩ : ∃ E, (outT (envT (madeFx l) (madeCh l)) ts day tod).1 = E := ⟨_, rfl⟩
  obtain ⟨EB, hEB⟩ : ∃ E, (outT (envT (madeFx l) (madeCh l)) us day tod).1 = E := ⟨_, rfl⟩
  obtain ⟨EC, hEC⟩ : ∃ E, (outT (envT (madeFx l) (madeCh l)) (andN :: (ts ++ us)) day tod).1 = E := ⟨_, rfl⟩
  obtain ⟨EW, hEW⟩ : ∃ E, (outT (envT (madeFx l) (madeCh l)) (whenN d :: ts) day tod).1 = E := ⟨_, rfl⟩
  obtain ⟨ED, hED⟩ : ∃ E, (outT (envT (madeFx l) (madeCh l)) ts d tod).1 = E := ⟨_, rfl⟩
  rw [hEA] at HA HBP
  rw [hEB] at HB HBP
  rw [hEC] at HC HBP
  rw [hEW] at HW HWP
  rw [hED] at HD HWP
  generalize flowsT (envT (madeFx l) (madeCh l)) ts day tod = A at *
  generalize flowsT (envT (madeFx l) (madeCh l)) us day tod = B1 at *
  generalize flowsT (envT (madeFx l) (madeCh l)) (andN :: (ts ++ us)) day tod = C1 at *
  generalize flowsT (envT (madeFx l) (madeCh l)) (whenN d :: ts) day tod = X1 at *
  generalize flowsT (envT (madeFx l) (madeCh l)) ts d tod = Y1 at *
  clear hEA hEB hEC hEW hED hfc HPRE hwok haok hokW hokA
  have HN := Lib.hid hN
  have HN2 := Lib.hid hN2
  obtain ⟨j1, hj1⟩ : ∃ J, joinE andN [ts, us] = J := ⟨_, rfl⟩
  obtain ⟨j2, hj2⟩ : ∃ J, joinE (whenN d) [ts] = J := ⟨_, rfl⟩
  rw [hj1] at HJ1 HBP
  rw [hj2] at HJ2 HWP
  unfold Nd.val at HJ1 HJ2
  obtain ⟨pv, cv, rfl⟩ := hN.form
  obtain ⟨p2, c2, rfl⟩ := hN2.form
  obtain ⟨pu, cu, rfl⟩ := hT.form
  clear hS hN hN2 hT hok hok2 lok hj1 hj2 h2
  generalize madeFx l = FX at *
  generalize madeCh l = CH at *
  obtain ⟨L, hL⟩ : ∃ L, ts.length = L := ⟨_, rfl⟩
  obtain ⟨L2, hL2⟩ : ∃ L, us.length = L := ⟨_, rfl⟩
  rw [hL] at HN HA HD HFW h1
  rw [hL2] at HN2 HB h3
  rw [hL, hL2]
  clear hL hL2
  generalize l.length = M at *
  have q1 : ¬ 30 < (L : Int) := by omega
  have q2 : ¬ 30 < (L2 : Int) := by omega
  have q3 : ¬ d < 0 := by omega
  have q4 : ¬ 73048 < d := by omega
  have q5 : ¬ day < 0 := by omega
  have q6 : ¬ 73048 < day := by omega
  go_enter Tryz.func9, Tryz.ntmps9
  go_upto_region 1 with (fail)
  refine wp_opaque (fun w0 hb0 => ?_)
  have hO0 := Own.one hb0
  have hl0 := hb0.un1
  obtain ⟨z0, d0, -⟩ := own_get hO0
  clear hb0
  go_upto_region 4 with (first
    | (go_at_call 15; go_must (refine (HM.out _ hl0).mono ?_; rintro e w1 ⟨p, m1, m2, rfl, hF1, ge1, ge2, hb1⟩; have hl1 : Later w w1 := hl0.trans hb1; clear d0 z0; obtain ⟨z0, d0, -⟩ := own_get (hO0.later hb1)))
    | (go_at_call 16; go_must (refine (HFW.out _ hl1).mono ?_; rintro e w2 ⟨rfl, hb2⟩; have hl2 := hl1.trans hb2; clear d0 z0; obtain ⟨z0, d0, -⟩ := own_get (hO0.later (hb1.trans hb2)))))
  have HO2 := Lib.hid (hO0.later (hb1.trans hb2))
  have HF2 := Lib.hid (hF1.later hb2)
  clear hb1 hb2 hF1 hl1 HM HFW ge1 ge2 hO0 hl0 q1 q2 q3 q4 q5 q6
  go_upto_region 5 with (first | refine wpList_built (node_build _) rfl rfl rfl ?_ | refine wpList_builtS (parts_build2 _ _ _ _ _ _ _) rfl rfl rfl ?_ | (go_at_call 32; go_must (refine (HJ1.out _ _ (hl2.alloc _) (parts_lit2 (HN.out.later (hl2.alloc _)) (HN2.out.later (hl2.alloc _)) (Later.refl _))).mono ?_; rintro e w3 ⟨v3, rfl, hg3, hn3, hb3⟩; have hl3 : Later w2 w3 := ((Later.refl w2).alloc _).trans hb3; clear d0 z0; obtain ⟨z0, d0, -⟩ := own_get (HO2.out.later hl3))))
  have HO3 := Lib.hid (HO2.out.later hl3)
  have HF3 := Lib.hid (HF2.out.later hl3)
  have HG3 := Lib.hid hg3
  replace hl2 := hl2.trans hl3
  clear hb3 hg3 HO2 HF2 HJ1 hl3
  have hv3 : ∃ p n c, v3 = .slice p n c := by
    by_cases e : j1 = 0
    · obtain ⟨p, c, hv⟩ := (HG3.out e).form
      exact ⟨_, _, _, hv⟩
    · exact ⟨_, _, _, hn3 e⟩
  obtain ⟨p3, n3, c3, rfl⟩ := hv3
  clear hn3
  go_upto_region 6 with (first | refine wpList_built (node_build1 _ _) rfl rfl rfl ?_ | refine wpList_builtS (parts_build _ _ _ _) rfl rfl rfl ?_ | (go_at_call 32; go_must (refine (HJ2.out _ _ (hl2.alloc _) (parts_lit (HN.out.later (hl2.alloc _)) (Later.refl _))).mono ?_; rintro e w4 ⟨v4, rfl, hg4, hn4, hb4⟩; have hl4 : Later w3 w4 := ((Later.refl w3).alloc _).trans hb4; clear d0 z0; obtain ⟨z0, d0, -⟩ := own_get (HO3.out.later hl4))))
  have HO4 := Lib.hid (HO3.out.later hl4)
  have HF4 := Lib.hid (HF3.out.later hl4)
  have HG34 := Lib.hid (fun e => (HG3.out e).later hl4)
  have HG4 := Lib.hid hg4
  replace hl2 := hl2.trans hl4
  clear hb4 hg4 HO3 HF3 HJ2 hl4 HG3
  have hv4 : ∃ p n c, v4 = .slice p n c := by
    by_cases e : j2 = 0
    · obtain ⟨p, c, hv⟩ := (HG4.out e).form
      exact ⟨_, _, _, hv⟩
    · exact ⟨_, _, _, hn4 e⟩
  obtain ⟨p4, n4, c4, rfl⟩ := hv4
  clear hn4
  by_cases k12 : j1 = 0 ∧ j2 = 0
  · obtain ⟨rfl, rfl⟩ := k12
    have HI3 := Lib.hid (HG34.out (by simp))
    have HI4 := Lib.hid (HG4.out (by simp))
    obtain ⟨b1, b2, b3⟩ := HBP.out (by simp)
    have HWW := Lib.hid (HWP.out (by simp))
    have HB2 := Lib.hid b2
    clear HG34 HG4 HBP HWP b2
    obtain ⟨NA, hNA⟩ : ∃ N, A.length = N := ⟨_, rfl⟩
    obtain ⟨NB, hNB⟩ : ∃ N, B1.length = N := ⟨_, rfl⟩
    obtain ⟨NC, hNC⟩ : ∃ N, C1.length = N := ⟨_, rfl⟩
    obtain ⟨NX, hNX⟩ : ∃ N, X1.length = N := ⟨_, rfl⟩
    obtain ⟨NY, hNY⟩ : ∃ N, Y1.length = N := ⟨_, rfl⟩
    have HL := Lib.hid (show A.length = NA ∧ B1.length = NB ∧ C1.length = NC ∧ X1.length = NX ∧ Y1.length = NY from ⟨hNA, hNB, hNC, hNX, hNY⟩)
    rw [hNA, hNB, hNC, hNX, hNY] at HLN
    clear hNA hNB hNC hNX hNY
    go_upto_region 9 with (go_at_call 18; go_must (refine (HA.out _ hl2 _ _ _ HF4.out).mono ?_; rintro e w5 ⟨va, rfl, hfa, hb5⟩; obtain ⟨qa, ca, rfl⟩ := hfa.form; rw [HL.out.1] at hfa ⊢; clear d0 z0; obtain ⟨z0, d0, -⟩ := own_get (HO4.out.later hb5)))
    have HFA5 := Lib.hid hfa
    have HF5 := Lib.hid (HF4.out.later hb5)
    clear hfa HA
    go_upto_region 10 with (go_at_call 18; go_must (refine (HB.out _ (hl2.trans hb5) _ _ _ HF5.out).mono ?_; rintro e w6 ⟨vb, rfl, hfb, hb6⟩; obtain ⟨qb, cb, rfl⟩ := hfb.form; rw [HL.out.2.1] at hfb ⊢; clear d0 z0; obtain ⟨z0, d0, -⟩ := own_get (HO4.out.later (hb5.trans hb6))))
    have HFB6 := Lib.hid hfb
    have HF6 := Lib.hid (HF5.out.later hb6)
    have hb46 := hb5.trans hb6
    clear hfb HB HF5 hb5
    go_upto_region 11 with (go_at_call 18; go_must (refine (HC.out _ _ (hl2.trans hb46) _ _ _ (HI3.out.later hb46) HF6.out).mono ?_; rintro e w7 ⟨vc, rfl, hfc, hb7⟩; obtain ⟨qc, cc, rfl⟩ := hfc.form; rw [HL.out.2.2.1] at hfc ⊢; clear d0 z0; obtain ⟨z0, d0, -⟩ := own_get (HO4.out.later (hb46.trans hb7))))
    have HFC7 := Lib.hid hfc
    have HF7 := Lib.hid (HF6.out.later hb7)
    have HFA7 := Lib.hid (HFA5.out.later (hb6.trans hb7))
    have HFB7 := Lib.hid (HFB6.out.later hb7)
    have hb47 := hb46.trans hb7
    have HO7 := Lib.hid (HO4.out.later hb47)
    have HI7 := Lib.hid (HI4.out.later hb47)
    have hl7 := hl2.trans hb47
    clear hfc HC HF6 HFA5 HFB6 hb6 hb7 hb46 HO4 HF4 HI3 HI4 HN2 hb47 hl2
    have hLN := HLN.out
    by_cases hc0 : EC = 0
    · subst hc0
      obtain ⟨rfl, rfl⟩ := b1.2 (by simp)
      have HFO := Lib.hid (HB2.out (by simp))
      clear b1 HB2 b3
      have hb7 := Lib.hid (Later.refl w7)
      go_upto_region 16 with (at_builtin; go_must (refine B.wpList_rows (L := []) (base := w7.heap.size) flCs flCs_len flCs_get flCs_one sliceFlow (World.ownsRow_nil _ _ _ _) (Nat.le_refl _) HFA7.out rfl _ _ rfl rfl rfl (by have := HL.out.1; simp; omega) (by decide) ?_; intro v8 w8 h8 g8 k8; rw [List.nil_append] at h8; have hl8 : Later w7 w8 := Later.grown (Later.refl _) g8 (fun k hk => by cases hk)))
      have HR0 := Lib.hid (owns_flows h8).1
      clear h8 g8 k8 hb7 HFA7 d0 z0
      go_upto_region 17 with (fail)
      go_loopw [18, 19] (fun s18 s19 wr => ∃ j : Nat, j ≤ NB ∧ s19 = .int .i64 j ∧ Hid (IsFlows wr s18 ((B1.take j).foldl (insL ordF) A)) ∧ Later w7 wr) (fun _ s19 _ => NB - (intOf s19).toNat)
      case atStart => exact ⟨0, Nat.zero_le _, rfl, HR0, hl8⟩
      case round =>
        obtain ⟨j, hj, rfl, hrow, hlat⟩ := hrel
        have hwl := hl7.trans hlat
        obtain ⟨z0, d0, -⟩ := own_get (HO7.out.later hlat)
        obtain ⟨L8, hL8⟩ : ∃ X, (B1.take j).foldl (insL ordF) A = X := ⟨_, rfl⟩
        have hlen8 : L8.length ≤ 128 := by rw [← hL8, puts_lenm, List.length_take, HL.out.1, HL.out.2.1]; omega
        rw [hL8] at hrow
        have HL8 := Lib.hid hL8
        have HR8 := Lib.hid hrow.out
        obtain ⟨p8, c8, rfl⟩ := hrow.out.form
        obtain ⟨n8, hn8⟩ : ∃ n, L8.length = n := ⟨_, rfl⟩
        rw [hn8] at HR8 hlen8 ⊢
        have HN8 := Lib.hid hn8
        clear hL8 hn8 hrow HR0 hl8
        by_cases hlt : j < NB
        · have hjl : j < B1.length := by rw [HL.out.2.1]; exact hlt
          obtain ⟨b, o, c1, hv, hb, g⟩ := HFB7.out.full (i := j) hjl
          rw [HL.out.2.1] at hv
          cases hv
          have e0 := ((bcell hlat).1 _ _ hb).trans (g 0 (by decide))
          have e1 := ((bcell hlat).1 _ _ hb).trans (g 1 (by decide))
          have e2 := ((bcell hlat).1 _ _ hb).trans (g 2 (by decide))
          simp only [flF, Nat.add_zero] at e0 e1 e2
          have HT := Lib.hid (puts_take (m := A) hjl)
          have hA3 : B1[j] = ⟨(B1[j]).day, (B1[j]).cur, (B1[j]).amt⟩ := rfl
          rw [hA3, HL8.out] at HT
          generalize (B1[j]).day = x0 at *
          generalize (B1[j]).cur = x1 at *
          generalize (B1[j]).amt = x2 at *
          have HPT := Lib.hid (fun W (hl : Later wr W) => rput_any L8 ⟨x0, x1, x2⟩ _ W (HR8.out.later hl) (by rw [HN8.out]; omega))
          clear g hA3 hjl d0 z0 HL8
          go_wp2_with (go_at_call 33; go_must (refine (HPT.out _ (Later.refl _)).mono ?_; rintro e wb ⟨v9, rfl, hown, hb9⟩))
          go_roundw
          case rel => exact ⟨j + 1, by omega, by go_num, Lib.hid (by rw [HT.out]; exact (owns_flows hown).1), hlat.trans hb9⟩
          case measure => simp [intOf]; omega
        · have hL8 : L8 = C1 := by rw [← HL8.out, ← HFO.out, List.take_of_length_le (by rw [HL.out.2.1]; omega)]
          subst hL8
          have HFCr := Lib.hid (HFC7.out.later hlat)
          have HFr := Lib.hid (HF7.out.later hlat)
          have HIr := Lib.hid (HI7.out.later hlat)
          have HOr := Lib.hid (HO7.out.later hlat)
          have HRr := Lib.hid HR8.out
          clear HFC7 HF7 HI7 HO7 HFB7 HL8 HFO hlat hl7 HR8
          go_upto_region 21 with (go_at_call 18; go_must (refine (HW.out _ _ hwl _ _ _ HIr.out HFr.out).mono ?_; rintro e wx ⟨vx, rfl, hfx, hbx⟩; obtain ⟨qx, cx, rfl⟩ := hfx.form; rw [HL.out.2.2.2.1] at hfx ⊢; clear d0 z0; obtain ⟨z0, d0, -⟩ := own_get (HOr.out.later hbx)))
          have HX9 := Lib.hid hfx
          have hlx := hwl.trans hbx
          clear hfx HW HIr
          go_upto_region 22 with (go_at_call 18; go_must (refine (HD.out _ hlx _ _ _ (HFr.out.later hbx)).mono ?_; rintro e wy ⟨vy, rfl, hfy, hby⟩; obtain ⟨qy, cy, rfl⟩ := hfy.form; rw [HL.out.2.2.2.2] at hfy ⊢; clear d0 z0; obtain ⟨z0, d0, -⟩ := own_get (HOr.out.later (hbx.trans hby))))
          have HY9 := Lib.hid hfy
          have HXd := Lib.hid (HX9.out.later hby)
          have hld := hlx.trans hby
          have hbxy := hbx.trans hby
          have hF1 := Lib.hid (fun W (hl : Later wy W) => lflows_any L8 L8 _ _ W (HFCr.out.later (hbxy.trans hl)) (HRr.out.later (hbxy.trans hl)) (by first | (have := HL.out.2.2.1; omega) | simp))
          rw [show decide (L8 = L8) = true by simp] at hF1
          clear hfy HX9 HD HFr HOr hlx hwl HFCr HRr hbx hbxy hby
          by_cases hdd : d < day
          · have hX := HWW.out.1 hdd
            have HNIL : Hid (∀ W, IsFlows W (.slice none 0 0) []) := Lib.hid (fun W => .inl ⟨⟨none, rfl⟩, rfl⟩)
            have hF2 := Lib.hid (fun W (hl : Later wy W) => lflows_any X1 [] _ _ W (HXd.out.later hl) (HNIL.out W) (by have := HL.out.2.2.2.1; omega))
            rw [show decide (X1 = []) = true by rw [hX]; simp] at hF2
            clear hX HWW HXd HY9
            go_wp2_with (first
              | (go_at_call 23; go_must (first | (refine (hF1.out _ (Later.refl _)).mono ?_; clear hF1; rintro e we ⟨rfl, hbe⟩) | (refine (hF2.out _ hbe).mono ?_; rintro e wf ⟨rfl, hbf⟩)))
              | (go_at_call 17; go_must (refine (HAW.out _ ((hld.trans hbe).trans hbf)).mono ?_; rintro e wg ⟨rfl, hbg⟩)))
            go_ret
            exact ⟨rfl, ((hld.trans hbe).trans hbf).trans hbg⟩
          · obtain ⟨hE2, hX⟩ := HWW.out.2 (by omega)
            subst hE2
            have hF2 := Lib.hid (fun W (hl : Later wy W) => lflows_any X1 Y1 _ _ W (HXd.out.later hl) (HY9.out.later hl) (by have := HL.out.2.2.2.1; omega))
            rw [show decide (X1 = Y1) = true by rw [hX]; simp] at hF2
            clear hX HWW HXd HY9
            go_wp2_with (first
              | (go_at_call 23; go_must (first | (refine (hF1.out _ (Later.refl _)).mono ?_; clear hF1; rintro e we ⟨rfl, hbe⟩) | (refine (hF2.out _ hbe).mono ?_; rintro e wf ⟨rfl, hbf⟩)))
              | (go_at_call 17; go_must (refine (HAW.out _ ((hld.trans hbe).trans hbf)).mono ?_; rintro e wg ⟨rfl, hbg⟩)))
            go_ret
            exact ⟨rfl, ((hld.trans hbe).trans hbf).trans hbg⟩
    · have hC := b3 hc0
      subst hC
      have ec1 : (EC == 0) = false := by simpa using hc0
      have ec2 : (EC != 0) = true := by simpa using hc0
      have hn : ¬ (EA = 0 ∧ EB = 0) := fun e => hc0 (b1.1 e)
      have HFCr := Lib.hid HFC7.out
      have HFr := Lib.hid HF7.out
      have HIr := Lib.hid HI7.out
      have HOr := Lib.hid HO7.out
      have HRr : Hid (IsFlows w7 (.slice none 0 0) []) := Lib.hid (.inl ⟨⟨none, rfl⟩, rfl⟩)
      have hwl := hl7
      clear HFC7 HF7 HI7 HO7 HFB7 HFA7 b1 b3 HB2 hl7 hc0
      by_cases ha0 : EA = 0
      · subst ha0
        have eb1 : (EB == 0) = false := by rw [beq_eq_false_iff_ne]; exact fun e => hn ⟨rfl, e⟩
        clear hn
        go_upto_region 21 with (go_at_call 18; go_must (refine (HW.out _ _ hwl _ _ _ HIr.out HFr.out).mono ?_; rintro e wx ⟨vx, rfl, hfx, hbx⟩; obtain ⟨qx, cx, rfl⟩ := hfx.form; rw [HL.out.2.2.2.1] at hfx ⊢; clear d0 z0; obtain ⟨z0, d0, -⟩ := own_get (HOr.out.later hbx)))
        have HX9 := Lib.hid hfx
        have hlx := hwl.trans hbx
        clear hfx HW HIr
        go_upto_region 22 with (go_at_call 18; go_must (refine (HD.out _ hlx _ _ _ (HFr.out.later hbx)).mono ?_; rintro e wy ⟨vy, rfl, hfy, hby⟩; obtain ⟨qy, cy, rfl⟩ := hfy.form; rw [HL.out.2.2.2.2] at hfy ⊢; clear d0 z0; obtain ⟨z0, d0, -⟩ := own_get (HOr.out.later (hbx.trans hby))))
        have HY9 := Lib.hid hfy
        have HXd := Lib.hid (HX9.out.later hby)
        have hld := hlx.trans hby
        have hbxy := hbx.trans hby
        have hF1 := Lib.hid (fun W (hl : Later wy W) => lflows_any ([] : List Fl) ([] : List Fl) _ _ W (HFCr.out.later (hbxy.trans hl)) (HRr.out.later (hbxy.trans hl)) (by first | (have := HL.out.2.2.1; omega) | simp))
        rw [show decide (([] : List Fl) = ([] : List Fl)) = true by simp] at hF1
        clear hfy HX9 HD HFr HOr hlx hwl HFCr HRr hbx hbxy hby
        by_cases hdd : d < day
        · have hX := HWW.out.1 hdd
          have HNIL : Hid (∀ W, IsFlows W (.slice none 0 0) []) := Lib.hid (fun W => .inl ⟨⟨none, rfl⟩, rfl⟩)
          have hF2 := Lib.hid (fun W (hl : Later wy W) => lflows_any X1 [] _ _ W (HXd.out.later hl) (HNIL.out W) (by have := HL.out.2.2.2.1; omega))
          rw [show decide (X1 = []) = true by rw [hX]; simp] at hF2
          clear hX HWW HXd HY9
          go_wp2_with (first
            | (go_at_call 23; go_must (first | (refine (hF1.out _ (Later.refl _)).mono ?_; clear hF1; rintro e we ⟨rfl, hbe⟩) | (refine (hF2.out _ hbe).mono ?_; rintro e wf ⟨rfl, hbf⟩)))
            | (go_at_call 17; go_must (refine (HAW.out _ ((hld.trans hbe).trans hbf)).mono ?_; rintro e wg ⟨rfl, hbg⟩)))
          go_ret
          exact ⟨rfl, ((hld.trans hbe).trans hbf).trans hbg⟩
        · obtain ⟨hE2, hX⟩ := HWW.out.2 (by omega)
          subst hE2
          have hF2 := Lib.hid (fun W (hl : Later wy W) => lflows_any X1 Y1 _ _ W (HXd.out.later hl) (HY9.out.later hl) (by have := HL.out.2.2.2.1; omega))
          rw [show decide (X1 = Y1) = true by rw [hX]; simp] at hF2
          clear hX HWW HXd HY9
          go_wp2_with (first
            | (go_at_call 23; go_must (first | (refine (hF1.out _ (Later.refl _)).mono ?_; clear hF1; rintro e we ⟨rfl, hbe⟩) | (refine (hF2.out _ hbe).mono ?_; rintro e wf ⟨rfl, hbf⟩)))
            | (go_at_call 17; go_must (refine (HAW.out _ ((hld.trans hbe).trans hbf)).mono ?_; rintro e wg ⟨rfl, hbg⟩)))
          go_ret
          exact ⟨rfl, ((hld.trans hbe).trans hbf).trans hbg⟩
      · have ea1 : (EA == 0) = false := by simpa using ha0
        clear hn ha0
        go_upto_region 21 with (go_at_call 18; go_must (refine (HW.out _ _ hwl _ _ _ HIr.out HFr.out).mono ?_; rintro e wx ⟨vx, rfl, hfx, hbx⟩; obtain ⟨qx, cx, rfl⟩ := hfx.form; rw [HL.out.2.2.2.1] at hfx ⊢; clear d0 z0; obtain ⟨z0, d0, -⟩ := own_get (HOr.out.later hbx)))
        have HX9 := Lib.hid hfx
        have hlx := hwl.trans hbx
        clear hfx HW HIr
        go_upto_region 22 with (go_at_call 18; go_must (refine (HD.out _ hlx _ _ _ (HFr.out.later hbx)).mono ?_; rintro e wy ⟨vy, rfl, hfy, hby⟩; obtain ⟨qy, cy, rfl⟩ := hfy.form; rw [HL.out.2.2.2.2] at hfy ⊢; clear d0 z0; obtain ⟨z0, d0, -⟩ := own_get (HOr.out.later (hbx.trans hby))))
        have HY9 := Lib.hid hfy
        have HXd := Lib.hid (HX9.out.later hby)
        have hld := hlx.trans hby
        have hbxy := hbx.trans hby
        have hF1 := Lib.hid (fun W (hl : Later wy W) => lflows_any ([] : List Fl) ([] : List Fl) _ _ W (HFCr.out.later (hbxy.trans hl)) (HRr.out.later (hbxy.trans hl)) (by first | (have := HL.out.2.2.1; omega) | simp))
        rw [show decide (([] : List Fl) = ([] : List Fl)) = true by simp] at hF1
        clear hfy HX9 HD HFr HOr hlx hwl HFCr HRr hbx hbxy hby
        by_cases hdd : d < day
        · have hX := HWW.out.1 hdd
          have HNIL : Hid (∀ W, IsFlows W (.slice none 0 0) []) := Lib.hid (fun W => .inl ⟨⟨none, rfl⟩, rfl⟩)
          have hF2 := Lib.hid (fun W (hl : Later wy W) => lflows_any X1 [] _ _ W (HXd.out.later hl) (HNIL.out W) (by have := HL.out.2.2.2.1; omega))
          rw [show decide (X1 = []) = true by rw [hX]; simp] at hF2
          clear hX HWW HXd HY9
          go_wp2_with (first
            | (go_at_call 23; go_must (first | (refine (hF1.out _ (Later.refl _)).mono ?_; clear hF1; rintro e we ⟨rfl, hbe⟩) | (refine (hF2.out _ hbe).mono ?_; rintro e wf ⟨rfl, hbf⟩)))
            | (go_at_call 17; go_must (refine (HAW.out _ ((hld.trans hbe).trans hbf)).mono ?_; rintro e wg ⟨rfl, hbg⟩)))
          go_ret
          exact ⟨rfl, ((hld.trans hbe).trans hbf).trans hbg⟩
        · obtain ⟨hE2, hX⟩ := HWW.out.2 (by omega)
          subst hE2
          have hF2 := Lib.hid (fun W (hl : Later wy W) => lflows_any X1 Y1 _ _ W (HXd.out.later hl) (HY9.out.later hl) (by have := HL.out.2.2.2.1; omega))
          rw [show decide (X1 = Y1) = true by rw [hX]; simp] at hF2
          clear hX HWW HXd HY9
          go_wp2_with (first
            | (go_at_call 23; go_must (first | (refine (hF1.out _ (Later.refl _)).mono ?_; clear hF1; rintro e we ⟨rfl, hbe⟩) | (refine (hF2.out _ hbe).mono ?_; rintro e wf ⟨rfl, hbf⟩)))
            | (go_at_call 17; go_must (refine (HAW.out _ ((hld.trans hbe).trans hbf)).mono ?_; rintro e wg ⟨rfl, hbg⟩)))
          go_ret
          exact ⟨rfl, ((hld.trans hbe).trans hbf).trans hbg⟩
  · have HEN : Hid True := Lib.hid trivial
    clear HA HB HC HW HD HBP HWP HG34 HG4 HLN HN HN2
    by_cases k1 : j1 = 0
    · subst k1
      have ke : (j2 == 0) = false := by rw [beq_eq_false_iff_ne]; exact fun e => k12 ⟨rfl, e⟩
      have ke2 : (j2 != 0) = true := by simpa using fun e => k12 ⟨rfl, e⟩
      clear k12
      go_wp2_with (go_at_call 17; go_must (refine (HAW.out _ hl2).mono ?_; rintro e w5 ⟨rfl, hb5⟩))
      go_ret
      exact ⟨rfl, hl2.trans hb5⟩
    · have ke : (j1 == 0) = false := by simpa using k1
      have ke2 : (j1 != 0) = true := by simpa using k1
      clear k12 k1
      go_wp2_with (go_at_call 17; go_must (refine (HAW.out _ hl2).mono ?_; rintro e w5 ⟨rfl, hb5⟩))
      go_ret
      exact ⟨rfl, hl2.trans hb5⟩
theorem both_any (ts us : List Nd) (l : List Td) (v v2 u : Value) (day tod d : Int) (w : World) (hok : ∀ x ∈ ts, x.ok) (hok2 : ∀ x ∈ us, x.ok) (hd : I64 d) (lok : ∀ x ∈ l, x.ok) (hS : Shapes w) (hN : IsNodes w v ts) (hN2 : IsNodes w v2 us) (hT : IsTolds w u l) :
    Calls Tryz.prog 9 #[.agg #[v, .int .i64 day, .int .i64 tod, u], v2, .int .i64 d] w fun e w' => e = .returned (.bool true) ∧ Later w w' := by
  by_cases h : (ts.length ≤ 30 ∧ l.length ≤ 60) ∧ us.length ≤ 30 ∧ 0 ≤ d ∧ d ≤ 73048 ∧ 0 ≤ day ∧ day ≤ 73048
  · obtain ⟨⟨h1, h2⟩, h3, h4, h5, h6, h7⟩ := h
    exact both_near ts us l v v2 u day tod d w hok hok2 hd lok hS hN hN2 hT h1 h2 h3 h4 h5 h6 h7
  · exact both_far ts us l v v2 u day tod d w lok hS hN hN2 hT h
end Go.Proofs.YtkjabiabeemfhaaGreatDoor
end
