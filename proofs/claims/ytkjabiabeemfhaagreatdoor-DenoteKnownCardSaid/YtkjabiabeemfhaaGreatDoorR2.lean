/- DenoteKnown: its walk -/
import Derived.Test.YtkjabiabeemfhaaGreatDoorQ35
import Derived.Test.YtkjabiabeemfhaaGreatDoorQ34
import Derived.Test.YtkjabiabeemfhaaGreatDoorQ33
import Derived.Test.YtkjabiabeemfhaaGreatDoorQ32
import Derived.Test.YtkjabiabeemfhaaGreatDoorQ22
import Derived.Test.YtkjabiabeemfhaaGreatDoorQ20
import Derived.Test.YtkjabiabeemfhaaGreatDoorQ18
import Derived.Test.YtkjabiabeemfhaaGreatDoorQ17
import Derived.Test.YtkjabiabeemfhaaGreatDoorQ16
import Derived.Test.YtkjabiabeemfhaaGreatDoorR1
import Derived.Test.YtkjabiabeemfhaaGreatDoorQ3
import Derived.Test.YtkjabiabeemfhaaGreatDoorQ2
import Derived.Test.YtkjabiabeemfhaaGreatDoorRows
import Derived.Test.YtkjabiabeemfhaaGreatDoorQ1
import Derived.Shelf.Small.Bits
import Derived.Shelf.Small.Wraps
import Derived.Shelf.Strconv.Itoa0
import Derived.Shelf.Bits.Mul64
import Derived.Ground.Names2Prog
import Derived.Shelf.Slices.Clone
import Derived.Shelf.Slices.SearchI
import Derived.Ground.SlgnProg
import Derived.Shelf.SlicesE.Clone
import Derived.Shelf.SlLaysF0
import Derived.Ground.SlsfProg
import Derived.Test.YtkjabiabeemfhaaGreatDoorProg
import Derived.WalkKit
import Derived.Lib.BitFns
import Derived.Lib.ItoaNum
import Derived.WalkSpells
import Derived.WalkSmall
import Derived.WalkLawsBesides
import Derived.BigQuiet
import Derived.Deep.RegionHeld3
import Derived.Deep.DeepCutAuto
import Derived.Deep.CutBlock
import Derived.Lib.Hide
import Derived.Deep.Quiet
import Derived.Below
import Derived.OrdersHeld
import Derived.Shelf.Spec.BitsCarry
import Derived.Laws.AppendOwnNone
import Derived.OwnWalk
import Derived.Great.BuildSlice
import Derived.ArgAppend
import Derived.Shelf.SlSortCmp.Insertion
import Derived.Laws.IdiomCopy
import Derived.Deep.Upon
import Derived.Shelf.GgSortFunc.InsertionK
import Derived.Test.YtkjabiabeemfhaaGreatDoorQ19
import Derived.Test.YtkjabiabeemfhaaGreatDoorQ15
import Derived.Test.YtkjabiabeemfhaaGreatDoorQ14
import Derived.Test.YtkjabiabeemfhaaGreatDoorQ13
import Derived.Test.YtkjabiabeemfhaaGreatDoorQ12
import Derived.DeepKeys4
import Derived.Maps.Own
import Derived.Test.YtkjabiabeemfhaaGreatDoorQ11
import Derived.Test.YtkjabiabeemfhaaGreatDoorQ10
import Derived.Test.YtkjabiabeemfhaaGreatDoorQ4
import Derived.RangeFuncNested
import Derived.RangeFuncBound
import Derived.RangeFuncCalls
import Derived.RangeFuncLeaves
import Derived.Shelf.Abstract
import Derived.Shelf.RegionOpen
import Derived.OwnWalkIn
import Derived.TacticsInMore
import Derived.LoopNIn
import Derived.LoopIn
import Derived.Deep.LoopGhost
import Derived.Test.YtkjabiabeemfhaaGreatDoorQ8
import Derived.Test.YtkjabiabeemfhaaGreatDoorQ7
import Derived.Test.YtkjabiabeemfhaaGreatDoorQ5
import Derived.WalkMore
import Derived.Lib.Strings
import Derived.RangeFuncBox
import Derived.Test.YtkjabiabeemfhaaGreatDoorQ21
import Derived.Test.YtkjabiabeemfhaaGreatDoorQ23
import Derived.Test.YtkjabiabeemfhaaGreatDoorQ25
import Derived.Test.YtkjabiabeemfhaaGreatDoorQ24
import Derived.Test.YtkjabiabeemfhaaGreatDoorQ26
import Derived.Test.YtkjabiabeemfhaaGreatDoorQ29
import Derived.Test.YtkjabiabeemfhaaGreatDoorQ28
import Derived.Test.YtkjabiabeemfhaaGreatDoorQ27
import Derived.Shelf.SlSortCmp.NoneTotal
import Derived.Shelf.SlSortCmp.WholeK
import Derived.Laws.IdiomRangeMap
import Derived.Test.YtkjabiabeemfhaaGreatDoorQ30
import Derived.Test.YtkjabiabeemfhaaGreatDoorQ31
import Derived.Lib.SliceRun
set_option linter.all false
set_option linter.all false
section
/- DenoteKnown: its walk -/
namespace Go.Proofs.YtkjabiabeemfhaaGreatDoor
open Go.RowKit
set_option maxRecDepth 100000

set_option maxHeartbeats 1600000 in
theorem known_far (ts : List Nd) (l l2 : List Td) (v u u2 : Value) (day tod : Int) (w : World) (lok : ∀ x ∈ l, x.ok) (hS : Shapes w) (hN : IsNodes w v ts) (hT : IsTolds w u l) (hU : IsTolds w u2 l2) (h : ¬ (ts.length ≤ 100 ∧ l.length ≤ 60 ∧ l2.length ≤ 40)) :
    Calls Tryz.prog 5 #[.agg #[v, .int .i64 day, .int .i64 tod, u], u2] w fun e w' => e = .returned (.bool true) ∧ Later w w' := by
  have HAW := Lib.hid (fun W (hl : Later w W) => dawake_any W (hS.later hl))
  have HM := Lib.hid (fun W (hl : Later w W) => made_big l (row_len hT) lok u W (hT.later hl))
  have HFW := Lib.hid (fun W (hl : Later w W) => lfew_any ts l v u day tod W (hN.later hl) (hT.later hl))
  obtain ⟨F, hF⟩ : ∃ F, (decide (ts.length ≤ 100) && decide (l.length ≤ 60)) = F := ⟨_, rfl⟩
  rw [hF] at HFW
  obtain ⟨p2, c2, rfl⟩ := hU.form
  have hcase : F = false ∨ (F = true ∧ 40 < (l2.length : Int)) := by
    cases F with
    | false => exact .inl rfl
    | true =>
      simp only [Bool.and_eq_true, decide_eq_true_eq] at hF
      exact .inr ⟨rfl, by omega⟩
  clear hF h hS hN hT hU lok
  generalize l2.length = M at *
  rcases hcase with rfl | ⟨rfl, h1⟩
  all_goals
    go_enter Tryz.func5, Tryz.ntmps5
    go_upto_region 1 with (fail)
    refine wp_opaque (fun w0 hb0 => ?_)
    have hO0 := Own.one hb0
    have hl0 := hb0.un1
    obtain ⟨z0, d0, -⟩ := own_get hO0
    clear hb0
    go_wp2_with (first
      | (go_at_call 15; go_must (refine (HM.out _ hl0).mono ?_; rintro e w1 ⟨p, m1, m2, rfl, hF1, ge1, ge2, hb1⟩; have hl1 : Later w w1 := hl0.trans hb1; clear hF1 d0 z0; obtain ⟨z0, d0, -⟩ := own_get (hO0.later hb1)))
      | (go_at_call 16; go_must (refine (HFW.out _ hl1).mono ?_; rintro e w2 ⟨rfl, hb2⟩; have hl2 := hl1.trans hb2; clear d0 z0; obtain ⟨z0, d0, -⟩ := own_get (hO0.later (hb1.trans hb2))))
      | (go_at_call 17; go_must (refine (HAW.out _ hl2).mono ?_; rintro e w3 ⟨rfl, hb3⟩)))
    go_ret
    exact ⟨rfl, hl2.trans hb3⟩
theorem keyAny_take {ts : List Nd} {k : Int} {i : Nat} (h : i < ts.length) : keyAny (ts.take (i + 1)) k = (keyAny (ts.take i) k || ((ts[i]).op == 17 && (ts[i]).a == k)) := by
  unfold keyAny
  rw [List.take_succ_eq_append_getElem h, List.any_append]
  simp
theorem gotF_some (fx : FxL) (k d : Int) : (gotF fx k d).2.2 = (getA fx (k, d)).isSome := by unfold gotF; cases getA fx (k, d) <;> rfl
theorem known_cases (ts : List Nd) (s : FxL × ChL) (x : Td) :
    (x.c = false → (getA s.1 (x.k, x.d)).isSome = true → knownM ts s x = s) ∧ (x.c = false → (getA s.1 (x.k, x.d)).isSome = false → knownM ts s x = tellS s x) ∧
    (x.c = true → ((getA s.2 (x.k, x.d)).isSome || keyAny ts x.k) = true → knownM ts s x = s) ∧ (x.c = true → ((getA s.2 (x.k, x.d)).isSome || keyAny ts x.k) = false → knownM ts s x = tellS s x) := by
  unfold knownM isK
  refine ⟨fun h1 h2 => ?_, fun h1 h2 => ?_, fun h1 h2 => ?_, fun h1 h2 => ?_⟩
  · simp [h1, h2]
  · simp [h1, h2]
  · rw [if_pos (by rw [if_pos h1]; exact h2)]
  · rw [if_neg (by rw [if_pos h1, h2]; simp)]
theorem goes_step {a b : List Fl} {k i : Nat} (hk : k < a.length) (hi : i < b.length) : goes (a.drop k) (b.drop i) = if b[i] = a[k] then goes (a.drop (k + 1)) (b.drop (i + 1)) else goes (a.drop k) (b.drop (i + 1)) := by
  rw [List.drop_eq_getElem_cons hk, List.drop_eq_getElem_cons hi, goes]
theorem goes_end {a b : List Fl} {k i : Nat} (h : goes (a.drop k) (b.drop i) = []) (hi : b.length ≤ i) : a.length ≤ k := by
  rw [List.drop_of_length_le hi] at h
  cases he : a.drop k with
  | nil => rw [List.drop_eq_nil_iff] at he; exact he
  | cons x r => rw [he] at h; simp [goes] at h
set_option maxHeartbeats 6400000 in
theorem known_near (ts : List Nd) (l l2 : List Td) (v u u2 : Value) (day tod : Int) (w : World) (hok : ∀ x ∈ ts, x.ok) (lok : ∀ x ∈ l, x.ok) (lok2 : ∀ x ∈ l2, x.ok) (hS : Shapes w) (hN : IsNodes w v ts) (hT : IsTolds w u l) (hU : IsTolds w u2 l2) (h1 : ts.length ≤ 100) (h2 : l.length ≤ 60) (h3 : l2.length ≤ 40) :
    Calls Tryz.prog 5 #[.agg #[v, .int .i64 day, .int .i64 tod, u], u2] w fun e w' => e = .returned (.bool true) ∧ Later w w' := by
  have HAW := Lib.hid (fun W (hl : Later w W) => dawake_any W (hS.later hl))
  have HM := Lib.hid (fun W (hl : Later w W) => made_any l (by omega) lok u W (hT.later hl))
  have HFW := Lib.hid (fun W (hl : Later w W) => lfew_any ts l v u day tod W (hN.later hl) (hT.later hl))
  rw [decide_eq_true h1, decide_eq_true h2, Bool.true_and] at HFW
  have hfc := fcOk_made l lok
  have hkn := known_all (ts := ts) l2 lok2 (madeFx l, madeCh l) l.length hfc
  have HPRE := Lib.hid (fun (s : FxL × ChL) n (hn : n ≤ 1000) (hfc : FcOk s n) W (hl : Later w W) p m1 m2 hF => (⟨by omega, hok, hS.later hl, hN.later hl, hF, hfc.fo, hfc.co, hfc.cn, Nat.le_trans hfc.cl (by omega)⟩ : PreAt W ts v s.1 s.2 p m1 m2))
  have HA := Lib.hid (fun W (hl : Later w W) p m1 m2 hF => flows_any (HPRE.out (madeFx l, madeCh l) _ (by omega) hfc W hl p m1 m2 hF) day tod)
  have HB := Lib.hid (fun W (hl : Later w W) p m1 m2 hF => waits_any (HPRE.out (madeFx l, madeCh l) _ (by omega) hfc W hl p m1 m2 hF) day tod)
  have HC := Lib.hid (fun W (hl : Later w W) p m1 m2 hF => flows_any (HPRE.out (l2.foldl (knownM ts) (madeFx l, madeCh l)) _ (by omega) hkn.1 W hl p m1 m2 hF) day tod)
  have HPL := Lib.hid (fun h0 => known_plain (day := day) (tod := tod) hok hfc.env hkn.1.env hkn.2 h0)
  have HLN : Hid ((flowsT (envT (madeFx l) (madeCh l)) ts day tod).length ≤ 64) := Lib.hid (flows_few _ _ _ _)
  have HLM : Hid ((flowsT (envT (l2.foldl (knownM ts) (madeFx l, madeCh l)).1 (l2.foldl (knownM ts) (madeFx l, madeCh l)).2) ts day tod).length ≤ 64) := Lib.hid (flows_few _ _ _ _)
  have HX := Lib.hid (fun (j : Nat) (h : j < l2.length) p m1 m2 fx ch W hF => fixing_any p m1 m2 fx ch (l2[j]).k (l2[j]).d W hF (lok2 _ (List.getElem_mem h)).1 (lok2 _ (List.getElem_mem h)).2.1)
  have HY := Lib.hid (fun (j : Nat) (h : j < l2.length) p m1 m2 fx ch W hF => choice_any p m1 m2 fx ch (l2[j]).k (l2[j]).d W hF (lok2 _ (List.getElem_mem h)).1 (lok2 _ (List.getElem_mem h)).2.1)
  have HTL := Lib.hid (fun (j : Nat) (h : j < l2.length) p m1 m2 fx ch W hF => tell_any p m1 m2 fx ch l2[j] W hF (lok2 _ (List.getElem_mem h)))
  have HU := Lib.hid hU
  have HN := Lib.hid hN
  obtain ⟨E1, hE1⟩ : ∃ E, (outT (envT (madeFx l) (madeCh l)) ts day tod).1 = E := ⟨_, rfl⟩
  obtain ⟨E2, hE2⟩ : ∃ E, (outT (envT (l2.foldl (knownM ts) (madeFx l, madeCh l)).1 (l2.foldl (knownM ts) (madeFx l, madeCh l)).2) ts day tod).1 = E := ⟨_, rfl⟩
  rw [hE1] at HA HB HPL
  rw [hE2] at HC HPL
  generalize flowsT (envT (madeFx l) (madeCh l)) ts day tod = A at *
  generalize waitsT (envT (madeFx l) (madeCh l)) ts day tod = Y at *
  generalize flowsT (envT (l2.foldl (knownM ts) (madeFx l, madeCh l)).1 (l2.foldl (knownM ts) (madeFx l, madeCh l)).2) ts day tod = B at *
  clear hE1 hE2 hfc hkn HPRE
  obtain ⟨pv, cv, rfl⟩ := hN.form
  obtain ⟨pu, cu, rfl⟩ := hT.form
  obtain ⟨p2, c2, rfl⟩ := hU.form
  clear hS hN hT hU hok lok lok2 h2
  generalize madeFx l = FX at *
  generalize madeCh l = CH at *
  obtain ⟨L, hL⟩ : ∃ L, ts.length = L := ⟨_, rfl⟩
  obtain ⟨M, hM⟩ : ∃ M, l2.length = M := ⟨_, rfl⟩
  rw [hL] at HN HA HB HC HFW h1
  rw [hM] at HU h3
  rw [hL, hM]
  have HLL := Lib.hid (show ts.length = L ∧ l2.length = M from ⟨hL, hM⟩)
  clear hL hM
  have k3 : ¬ 40 < (M : Int) := by omega
  generalize l.length = M0 at *
  go_enter Tryz.func5, Tryz.ntmps5
  go_upto_region 1 with (fail)
  refine wp_opaque (fun w0 hb0 => ?_)
  have hO0 := Own.one hb0
  have HO0 := Lib.hid hO0
  have hl0 := hb0.un1
  obtain ⟨z0, d0, -⟩ := own_get hO0
  clear hb0
  go_upto_region 5 with (first
    | (go_at_call 15; go_must (refine (HM.out _ hl0).mono ?_; rintro e w1 ⟨p, m1, m2, rfl, hF1, ge1, ge2, hb1⟩; have hl1 : Later w w1 := hl0.trans hb1; clear d0 z0; obtain ⟨z0, d0, -⟩ := own_get (hO0.later hb1)))
    | (go_at_call 16; go_must (refine (HFW.out _ hl1).mono ?_; rintro e w2 ⟨rfl, hb2⟩; have hl2 := hl1.trans hb2; clear d0 z0; obtain ⟨z0, d0, -⟩ := own_get (hO0.later (hb1.trans hb2))))
    | (go_at_call 18; go_must (refine (HA.out _ hl2 _ _ _ (hF1.later hb2)).mono ?_; rintro e w3 ⟨va, rfl, hfa, hb3⟩; obtain ⟨qa, ca, rfl⟩ := hfa.form; have hl3 := hl2.trans hb3; clear d0 z0; obtain ⟨z0, d0, -⟩ := own_get (hO0.later (hb1.trans (hb2.trans hb3))))))
  have hb13 := hb2.trans hb3
  have hl03 := hb1.trans hb13
  have HO3 := Lib.hid (hO0.later hl03)
  have HF3 := Lib.hid (hF1.later hb13)
  have HFA := Lib.hid hfa
  clear hb1 hb2 hb3 hb13 hF1 hfa hl1 hl2 HM HFW HA
  go_upto_region 6 with (go_at_call 19; go_must (refine (HB.out _ hl3 _ _ _ HF3.out).mono ?_; rintro e w4 ⟨vb, rfl, hfb, hb4⟩; obtain ⟨qb, cb, rfl⟩ := hfb.form; have hl4 := hl3.trans hb4; clear d0 z0; obtain ⟨z0, d0, -⟩ := own_get (HO3.out.later hb4)))
  have HO4 := Lib.hid (HO3.out.later hb4)
  have hl04 := hl03.trans hb4
  have HFA4 := Lib.hid (HFA.out.later hb4)
  have HF4 := Lib.hid (HF3.out.later hb4)
  clear hb4 hfb HF3 HFA HB HO3 hl3 hl03
  by_cases h0 : E1 = 0
  · subst h0
    have HPP := Lib.hid (HPL.out rfl)
    obtain ⟨N, hN⟩ : ∃ N, A.length = N := ⟨_, rfl⟩
    obtain ⟨K, hK⟩ : ∃ K, Y.length = K := ⟨_, rfl⟩
    rw [hN] at HLN HFA4
    rw [hN, hK]
    have HFA5 := HFA4
    have HNK := Lib.hid (show A.length = N ∧ Y.length = K from ⟨hN, hK⟩)
    clear hN hK HPL
    have HGE := Lib.hid (show w0.heap.size ≤ m1 ∧ w0.heap.size ≤ m2 from ⟨ge1, ge2⟩)
    clear ge1 ge2
    go_upto_region 9 with (fail)
    go_loopw [10] (fun s10 wr => ∃ j : Nat, j ≤ M ∧ s10 = .int .i64 j ∧ Hid (FactsAt wr p m1 m2 ((l2.take j).foldl (knownM ts) (FX, CH)).1 ((l2.take j).foldl (knownM ts) (FX, CH)).2) ∧ Hid (IsFlows wr (.slice qa N ca) A) ∧ Later w0 wr) (fun s10 _ => M - (intOf s10).toNat)
    case atStart => exact ⟨0, Nat.zero_le _, rfl, HF4, HFA4, hl04⟩
    case round =>
      obtain ⟨j, hj, rfl, hF, hFa, hlat⟩ := hrel
      have hwl := hl0.trans hlat
      clear HF4 HFA4 HFA5 d0 z0 HO4
      obtain ⟨z0, d0, -⟩ := own_get (HO0.out.later hlat)
      have D0 := d0 0
      have D1 := d0 1
      have D2 := d0 2
      simp only [List.getElem?_toArray, List.getElem?_cons_zero, List.getElem?_cons_succ] at D0 D1 D2
      clear d0
      by_cases hlt : j < M
      · have hjl : j < l2.length := by rw [HLL.out.2]; exact hlt
        obtain ⟨b, o, cp2, hv, hb, gg⟩ := HU.out.full (i := j) hjl
        rw [HLL.out.2] at hv
        cases hv
        have g0 := ((bcell hwl).1 _ _ hb).trans (gg 0 (by omega))
        have g1 := ((bcell hwl).1 _ _ hb).trans (gg 1 (by omega))
        have g2 := ((bcell hwl).1 _ _ hb).trans (gg 2 (by omega))
        have g3 := ((bcell hwl).1 _ _ hb).trans (gg 3 (by omega))
        have g4 := ((bcell hwl).1 _ _ hb).trans (gg 4 (by omega))
        have g5 := ((bcell hwl).1 _ _ hb).trans (gg 5 (by omega))
        have ht : l2.take (j + 1) = l2.take j ++ [l2[j]] := List.take_succ_eq_append_getElem hjl
        obtain ⟨s2, hs2⟩ : ∃ s, (l2.take (j + 1)).foldl (knownM ts) (FX, CH) = s := ⟨_, rfl⟩
        have hT1 : knownM ts ((l2.take j).foldl (knownM ts) (FX, CH)) l2[j] = s2 := by rw [← hs2, ht, List.foldl_append]; rfl
        have HS2 := Lib.hid hs2
        have HFJ := Lib.hid (fun W (hl : Later wr W) => HX.out j hjl p m1 m2 _ _ W (hF.out.later hl))
        have HCJ := Lib.hid (fun W (hl : Later wr W) => HY.out j hjl p m1 m2 _ _ W (hF.out.later hl))
        have HTJ := Lib.hid (fun W (hl : Later wr W) => HTL.out j hjl p m1 m2 _ _ W (hF.out.later hl))
        obtain ⟨sj, hsj⟩ : ∃ s, (l2.take j).foldl (knownM ts) (FX, CH) = s := ⟨_, rfl⟩
        rw [hsj] at hT1 HFJ HCJ HTJ hF
        have hkc := known_cases ts sj l2[j]
        rw [hT1, ← gotF_some] at hkc
        obtain ⟨gt, hgt⟩ : ∃ g, gotF sj.1 (l2[j]).k (l2[j]).d = g := ⟨_, rfl⟩
        rw [hgt] at HFJ hkc
        obtain ⟨gch, hgch⟩ : ∃ g, getA sj.2 ((l2[j]).k, (l2[j]).d) = g := ⟨_, rfl⟩
        rw [hgch] at HCJ hkc
        have HKC := Lib.hid hkc
        have HF0 := hF
        clear hT1 hsj hgt hgch ht hkc hs2 gg HX HY HTL hF
        unfold Td.val at HTJ
        simp only [Td.cell, Nat.add_zero] at g0 g1 g2 g3 g4 g5
        obtain ⟨ga, gb, gc⟩ := gt
        simp only at HFJ HKC
        generalize hX : l2[j] = X at *
        clear hX
        obtain ⟨xc, xk, xd, xn, xm, xp⟩ := X
        simp only at g0 g1 g2 g3 g4 g5 HFJ HCJ HTJ HKC
        go_upto_region 12 with (fail)
        refine wp_opaque (fun wa hba => ?_)
        have HOa := Lib.hid (Own.one hba)
        have hla := hba.un1
        obtain ⟨Y1, hY1⟩ : ∃ Y, wr.heap.size = Y := ⟨_, rfl⟩
        rw [hY1] at HOa ⊢
        obtain ⟨y1, c1, -⟩ := own_get HOa.out
        have i1 := c1 1
        have i2 := c1 2
        simp only [List.getElem?_toArray, List.getElem?_cons_zero, List.getElem?_cons_succ] at i1 i2
        clear hba c1 g0 g1 g2 g3 g4 g5 hb
        go_upto_region 13 with (go_at_call 24; go_must (refine (HFJ.out _ hla).mono ?_; rintro e wb ⟨rfl, hb4⟩))
        refine wp_opaque (fun wc hbc => ?_)
        have hlc : Later wa wc := hb4.trans hbc.un1
        have hlrc := hla.trans hlc
        obtain ⟨y2, c2, -⟩ := own_get (HOa.out.later hlc)
        have j0 := c2 0
        have j1 := c2 1
        have j2 := c2 2
        have j3 := c2 3
        have j4 := c2 4
        have j5 := c2 5
        simp only [List.getElem?_toArray, List.getElem?_cons_zero, List.getElem?_cons_succ] at j0 j1 j2 j3 j4 j5
        clear hbc hb4 c2 i1 i2 y1 HFJ
        replace D0 := ((bcell hlrc).1 _ 0 z0).trans D0
        have zc := Nat.lt_of_lt_of_le z0 hlrc.size
        have HSTAY : Hid (∀ W, Later wr W → FactsAt W p m1 m2 sj.1 sj.2 ∧ IsFlows W (.slice qa N ca) A ∧ Later w0 W) := Lib.hid (fun W hl => ⟨HF0.out.later hl, hFa.out.later hl, hlat.trans hl⟩)
        have HTELL : Hid (∀ W W' mm, Later wr W → W.grownBy W' (some mm) → (mm = m1 ∨ mm = m2) → IsFlows W' (.slice qa N ca) A ∧ Later w0 W') := Lib.hid (fun W W' mm hl hg hm => ⟨row_grown (hFa.out.later hl) hg ((HF0.out.later hl).map1 hm), Later.grown (hlat.trans hl) hg (fun q e => by cases e; have := HGE.out; rcases hm with rfl | rfl <;> omega)⟩)
        clear HF0 hFa D1 D2
        cases xc with
        | false =>
          cases gc with
          | true =>
            have hs := HKC.out.1 rfl rfl
            have HSS := Lib.hid hs
            clear hs HKC
            go_wp2
            go_roundw
            case rel => exact ⟨j + 1, by omega, by go_num, Lib.hid (by rw [HS2.out, HSS.out]; exact (HSTAY.out _ hlrc).1), Lib.hid (HSTAY.out _ hlrc).2.1, (HSTAY.out _ hlrc).2.2⟩
            case measure => simp [intOf]; omega
          | false =>
            have hs := HKC.out.2.1 rfl rfl
            have HSS := Lib.hid hs
            clear hs HKC
            go_wp2_with (go_at_call 26; go_must (refine (HTJ.out _ hlrc).mono ?_; rintro e w5 ⟨rfl, hF5, mm, hmm, hg5⟩))
            go_roundw
            case rel => exact ⟨j + 1, by omega, by go_num, Lib.hid (by rw [HS2.out, HSS.out]; exact hF5), Lib.hid (HTELL.out _ _ _ hlrc hg5 hmm).1, (HTELL.out _ _ _ hlrc hg5 hmm).2⟩
            case measure => simp [intOf]; omega
        | true =>
          have h8 := Lib.hid (HKC.out.2.2.1 rfl)
          have h9 := Lib.hid (HKC.out.2.2.2 rfl)
          clear HKC
          go_upto_region 15 with (go_at_call 25; go_must (refine (HCJ.out _ hlrc).mono ?_; rintro e wd ⟨rfl, hb5⟩))
          have hlrd := hlrc.trans hb5
          obtain ⟨y3, c3, -⟩ := own_get (HOa.out.later (hlc.trans hb5))
          replace D0 := ((bcell hb5).1 _ 0 zc).trans D0
          have zd := Nat.lt_of_lt_of_le zc hb5.size
          have Q0 := c3 0
          have Q1 := c3 1
          have Q2 := c3 2
          have Q3 := c3 3
          have Q4 := c3 4
          have Q5 := c3 5
          simp only [List.getElem?_toArray, List.getElem?_cons_zero, List.getElem?_cons_succ] at Q0 Q1 Q2 Q3 Q4 Q5
          obtain ⟨gi, hgi⟩ : ∃ g, gch.isSome = g := ⟨_, rfl⟩
          obtain ⟨gv, hgv⟩ : ∃ g, gch.getD 0 = g := ⟨_, rfl⟩
          rw [hgi] at h8 h9
          rw [hgi, hgv]
          clear hgi hgv j0 j1 j2 j3 j4 j5 c3 hb5 hlc y2 zc HCJ hlrc hla HOa
          go_upto_region 16 with (fail)
          go_loopw [13, 14] (fun s13 s14 wq => ∃ i : Nat, i ≤ L ∧ s14 = .int .i64 i ∧ s13 = .bool (gi || keyAny (ts.take i) xk) ∧ Later wd wq) (fun _ s14 _ => L - (intOf s14).toNat)
          case atStart => exact ⟨0, Nat.zero_le _, rfl, by simp [keyAny], Later.refl _⟩
          case round =>
            obtain ⟨i, hi, rfl, rfl, hlq⟩ := hrel
            have hlrq := hlrd.trans hlq
            have F0 := ((bcell hlq).1 _ 0 zd).trans D0
            have q0 := ((bcell hlq).1 _ 0 y3).trans Q0
            have q1 := ((bcell hlq).1 _ 1 y3).trans Q1
            have q2 := ((bcell hlq).1 _ 2 y3).trans Q2
            have q3 := ((bcell hlq).1 _ 3 y3).trans Q3
            have q4 := ((bcell hlq).1 _ 4 y3).trans Q4
            have q5 := ((bcell hlq).1 _ 5 y3).trans Q5
            clear Q0 Q1 Q2 Q3 Q4 Q5 D0
            by_cases hil : i < L
            · have hix : i < ts.length := by rw [HLL.out.1]; exact hil
              obtain ⟨b, o, cp3, hv, hb, gg⟩ := HN.out.full (i := i) hix
              rw [HLL.out.1] at hv
              cases hv
              have G0 := ((bcell (hwl.trans hlrq)).1 _ _ hb).trans gg.2.1
              have G1 := ((bcell (hwl.trans hlrq)).1 _ _ hb).trans gg.2.2.1
              have hT := keyAny_take (k := xk) hix
              obtain ⟨b0, hb0⟩ : ∃ b, (gi || keyAny (ts.take i) xk) = b := ⟨_, rfl⟩
              have HT : Hid ((gi || keyAny (ts.take (i + 1)) xk) = (b0 || ((ts[i]).op == 17 && (ts[i]).a == xk))) := Lib.hid (by rw [hT, ← Bool.or_assoc, hb0])
              rw [hb0]
              generalize (ts[i]).op = O0 at *
              generalize (ts[i]).a = A0 at *
              clear hT hb0 gg h8 h9 HSTAY HTELL HTJ hb
              cases b0 with
              | true =>
                go_upto_region 18 with (fail)
                refine wp_region_plan 22 (.done [0, 1, 2, 3, 4, 5, 6, 7, 8, 9, 10, 11, 12, 13, 14, 15, 16, 17, 18, 19, 20, 21]) (by kernel_rfl) (by kernel_rfl) (fun _ _ d _ _ h => by cases d <;> exact h) ?_
                repeat' (first
                  | (refine plan_done (fun K hK => ?_); (first | (simp only [pick_cons, pick_nil, toList_some_append, List.getElem?_toArray, List.getElem?_cons_zero, List.getElem?_cons_succ]; repeat (go_big_quiet_step (fail))) | simp only [pick_nil]); refine wpQuiet_nil (hK _ ?_); clear hK K)
                  | ((with_reducible refine at_list ?_); go_wp2_with (fail); first | refine behind_store (t := 22) (by decide) ?_ | refine behind (by repeat (first | with_reducible exact Later.refl _ | with_reducible assumption | with_reducible refine Later.ofdrew ?_ | with_reducible refine Later.ofdrewN ?_ | with_reducible refine Later.alloc ?_ _ | with_reducible refine Later.drewN ?_ _ | with_reducible refine Later.drew ?_ | (with_reducible refine Later.trans ?_ (by assumption)))) ?_))
                go_wp2
                go_roundw
                case rel => exact ⟨i + 1, by omega, by go_num, by rw [HT.out]; simp, hlq.drew⟩
                case measure => simp [intOf]; omega
              | false =>
                by_cases hO : O0 = 17
                · subst hO
                  by_cases hA : A0 = xk
                  · subst hA
                    go_upto_region 18 with (fail)
                    refine wp_region_plan 22 (.done [0, 1, 2, 3, 4, 5, 6, 7, 8, 9, 10, 11, 12, 13, 14, 15, 16, 17, 18, 19, 20, 21]) (by kernel_rfl) (by kernel_rfl) (fun _ _ d _ _ h => by cases d <;> exact h) ?_
                    repeat' (first
                      | (refine plan_done (fun K hK => ?_); (first | (simp only [pick_cons, pick_nil, toList_some_append, List.getElem?_toArray, List.getElem?_cons_zero, List.getElem?_cons_succ]; repeat (go_big_quiet_step (fail))) | simp only [pick_nil]); refine wpQuiet_nil (hK _ ?_); clear hK K)
                      | ((with_reducible refine at_list ?_); go_wp2_with (fail); first | refine behind_store (t := 22) (by decide) ?_ | refine behind (by repeat (first | with_reducible exact Later.refl _ | with_reducible assumption | with_reducible refine Later.ofdrew ?_ | with_reducible refine Later.ofdrewN ?_ | with_reducible refine Later.alloc ?_ _ | with_reducible refine Later.drewN ?_ _ | with_reducible refine Later.drew ?_ | (with_reducible refine Later.trans ?_ (by assumption)))) ?_))
                    go_wp2
                    go_roundw
                    case rel => exact ⟨i + 1, by omega, by go_num, by rw [HT.out]; simp, hlq.drew⟩
                    case measure => simp [intOf]; omega
                  · have hA' : (A0 == xk) = false := by rw [beq_eq_false_iff_ne]; exact hA
                    clear hA
                    go_upto_region 18 with (fail)
                    refine wp_region_plan 22 (.done [0, 1, 2, 3, 4, 5, 6, 7, 8, 9, 10, 11, 12, 13, 14, 15, 16, 17, 18, 19, 20, 21]) (by kernel_rfl) (by kernel_rfl) (fun _ _ d _ _ h => by cases d <;> exact h) ?_
                    repeat' (first
                      | (refine plan_done (fun K hK => ?_); (first | (simp only [pick_cons, pick_nil, toList_some_append, List.getElem?_toArray, List.getElem?_cons_zero, List.getElem?_cons_succ]; repeat (go_big_quiet_step (fail))) | simp only [pick_nil]); refine wpQuiet_nil (hK _ ?_); clear hK K)
                      | ((with_reducible refine at_list ?_); go_wp2_with (fail); first | refine behind_store (t := 22) (by decide) ?_ | refine behind (by repeat (first | with_reducible exact Later.refl _ | with_reducible assumption | with_reducible refine Later.ofdrew ?_ | with_reducible refine Later.ofdrewN ?_ | with_reducible refine Later.alloc ?_ _ | with_reducible refine Later.drewN ?_ _ | with_reducible refine Later.drew ?_ | (with_reducible refine Later.trans ?_ (by assumption)))) ?_))
                    go_wp2
                    go_roundw
                    case rel => exact ⟨i + 1, by omega, by go_num, by rw [HT.out, hA']; simp, hlq.drew⟩
                    case measure => simp [intOf]; omega
                · have hO' : (O0 == 17) = false := by rw [beq_eq_false_iff_ne]; exact hO
                  clear hO
                  go_upto_region 18 with (fail)
                  refine wp_region_plan 22 (.done [0, 1, 2, 3, 4, 5, 6, 7, 8, 9, 10, 11, 12, 13, 14, 15, 16, 17, 18, 19, 20, 21]) (by kernel_rfl) (by kernel_rfl) (fun _ _ d _ _ h => by cases d <;> exact h) ?_
                  repeat' (first
                    | (refine plan_done (fun K hK => ?_); (first | (simp only [pick_cons, pick_nil, toList_some_append, List.getElem?_toArray, List.getElem?_cons_zero, List.getElem?_cons_succ]; repeat (go_big_quiet_step (fail))) | simp only [pick_nil]); refine wpQuiet_nil (hK _ ?_); clear hK K)
                    | ((with_reducible refine at_list ?_); go_wp2_with (fail); first | refine behind_store (t := 22) (by decide) ?_ | refine behind (by repeat (first | with_reducible exact Later.refl _ | with_reducible assumption | with_reducible refine Later.ofdrew ?_ | with_reducible refine Later.ofdrewN ?_ | with_reducible refine Later.alloc ?_ _ | with_reducible refine Later.drewN ?_ _ | with_reducible refine Later.drew ?_ | (with_reducible refine Later.trans ?_ (by assumption)))) ?_))
                  go_wp2
                  go_roundw
                  case rel => exact ⟨i + 1, by omega, by go_num, by rw [HT.out, hO']; simp, hlq.drew⟩
                  case measure => simp [intOf]; omega
            · have hT : keyAny (ts.take i) xk = keyAny ts xk := by rw [List.take_of_length_le (by rw [HLL.out.1]; omega)]
              rw [hT]
              obtain ⟨b0, hb0⟩ : ∃ b, (gi || keyAny ts xk) = b := ⟨_, rfl⟩
              rw [hb0] at h8 h9 ⊢
              clear hT hb0
              cases b0 with
              | true =>
                have HSS := Lib.hid (h8.out rfl)
                clear h8 h9
                go_wp2
                go_roundw
                case rel => exact ⟨j + 1, by omega, by go_num, Lib.hid (by rw [HS2.out, HSS.out]; exact (HSTAY.out _ hlrq).1), Lib.hid (HSTAY.out _ hlrq).2.1, (HSTAY.out _ hlrq).2.2⟩
                case measure => simp [intOf]; omega
              | false =>
                have HSS := Lib.hid (h9.out rfl)
                clear h8 h9
                go_wp2_with (go_at_call 26; go_must (refine (HTJ.out _ hlrq).mono ?_; rintro e w5 ⟨rfl, hF5, mm, hmm, hg5⟩))
                go_roundw
                case rel => exact ⟨j + 1, by omega, by go_num, Lib.hid (by rw [HS2.out, HSS.out]; exact hF5), Lib.hid (HTELL.out _ _ _ hlrq hg5 hmm).1, (HTELL.out _ _ _ hlrq hg5 hmm).2⟩
                case measure => simp [intOf]; omega
      · have hjM : l2.take j = l2 := List.take_of_length_le (by rw [HLL.out.2]; omega)
        rw [hjM] at hF
        have HCJ := Lib.hid (HC.out wr hwl p m1 m2 hF.out)
        obtain ⟨MB, hMB⟩ : ∃ N, B.length = N := ⟨_, rfl⟩
        rw [hMB] at HLM
        have HMB := Lib.hid hMB
        clear hMB hjM HC HX HY HTL hF HU HN
        go_upto_region 22 with (go_at_call 18; go_must (refine (HCJ.out).mono ?_; rintro e w5 ⟨vc, rfl, hfc, hb5⟩; obtain ⟨qc, cc, rfl⟩ := hfc.form; rw [HMB.out] at hfc ⊢))
        have hl5 := hwl.trans hb5
        have HFA5 := Lib.hid (hFa.out.later hb5)
        have HFC := Lib.hid hfc
        clear hb5 hfc hFa HCJ D0 D1 D2 hwl hlat z0 HO0 hlt
        by_cases hK0 : K = 0
        · subst hK0
          have hY : Y = [] := List.length_eq_zero_iff.1 HNK.out.2
          obtain ⟨rfl, hAB⟩ := HPP.out.1 hY
          have HLF := Lib.hid (fun W (hl : Later w5 W) => lflows_any A B (.slice qa N ca) (.slice qc MB cc) W (HFA5.out.later hl) (HFC.out.later hl) (by have h1 := HLN.out; have h2 := HNK.out.1; omega))
          rw [show decide (A = B) = true by rw [hAB]; simp] at HLF
          clear hY hAB HPP HFA5 HFC
          go_wp2_with (first
            | (go_at_call 23; go_must (refine (HLF.out _ (Later.refl _)).mono ?_; rintro e w6 ⟨rfl, hb6⟩))
            | (go_at_call 17; go_must (refine (HAW.out _ (hl5.trans hb6)).mono ?_; rintro e w7 ⟨rfl, hb7⟩)))
          go_ret
          exact ⟨rfl, (hl5.trans hb6).trans hb7⟩
        · have hK1 : ¬ ((K : Int) = 0) := by omega
          have hK2 : ((K : Int) == 0) = false := by rw [beq_eq_false_iff_ne]; exact hK1
          have HG := Lib.hid HPP.out.2.2
          rcases HPP.out.2.1 with h2 | h2
          · subst h2
            have HGO := Lib.hid (HG.out rfl)
            clear HPP HG hK1 hK0
            have hN64 := HLN.out
            have hM64 := HLM.out
            go_upto_region 28 with (fail)
            go_loopw [17, 18] (fun s17 s18 wr => ∃ k i : Nat, k ≤ N ∧ i ≤ MB ∧ s17 = .int .i64 k ∧ s18 = .int .i64 i ∧ Hid (goes (A.drop k) (B.drop i) = []) ∧ Later w5 wr) (fun _ s18 _ => MB - (intOf s18).toNat)
            case atStart => exact ⟨0, 0, Nat.zero_le _, Nat.zero_le _, rfl, rfl, HGO, Later.refl _⟩
            case round =>
              obtain ⟨k, i, hk, hi, rfl, rfl, hgo, hlat⟩ := hrel
              clear HGO
              have hlE := hl5.trans hlat
              by_cases hlt : i < MB
              · by_cases hlk : k < N
                · have hka : k < A.length := by rw [HNK.out.1]; exact hlk
                  have hib : i < B.length := by rw [HMB.out]; exact hlt
                  obtain ⟨b, o, c1, hv, hb, g⟩ := HFA5.out.full (i := k) hka
                  obtain ⟨b', o', c2, hv', hb', g'⟩ := HFC.out.full (i := i) hib
                  rw [HNK.out.1] at hv
                  rw [HMB.out] at hv'
                  cases hv
                  cases hv'
                  have e0 := ((bcell hlat).1 _ _ hb).trans (g 0 (by decide))
                  have e1 := ((bcell hlat).1 _ _ hb).trans (g 1 (by decide))
                  have e2 := ((bcell hlat).1 _ _ hb).trans (g 2 (by decide))
                  have f0 := ((bcell hlat).1 _ _ hb').trans (g' 0 (by decide))
                  have f1 := ((bcell hlat).1 _ _ hb').trans (g' 1 (by decide))
                  have f2 := ((bcell hlat).1 _ _ hb').trans (g' 2 (by decide))
                  simp only [flF, Nat.add_zero] at e0 e1 e2 f0 f1 f2
                  have hgs := goes_step hka hib
                  rw [hgo.out] at hgs
                  by_cases heq : B[i] = A[k]
                  · rw [if_pos heq] at hgs
                    have HA := Lib.hid hgs.symm
                    rw [heq] at f0 f1 f2
                    clear g g' hgo heq hgs
                    generalize (A[k]).day = x0 at *
                    generalize (A[k]).cur = x1 at *
                    generalize (A[k]).amt = x2 at *
                    go_upto_region 30 with (fail)
                    refine wp_region_plan 9 (.done [0, 1, 2, 3, 4, 5, 6, 7, 8]) (by kernel_rfl) (by kernel_rfl) (fun _ _ d _ _ h => by cases d <;> exact h) ?_
                    repeat' (first
                      | (refine plan_done (fun K hK => ?_); (first | (simp only [pick_cons, pick_nil, toList_some_append, List.getElem?_toArray, List.getElem?_cons_zero, List.getElem?_cons_succ]; repeat (go_big_quiet_step (fail))) | simp only [pick_nil]); refine wpQuiet_nil (hK _ ?_); clear hK K)
                      | ((with_reducible refine at_list ?_); go_wp2_with (fail); first | refine behind_store (t := 9) (by decide) ?_ | refine behind (by repeat (first | with_reducible exact Later.refl _ | with_reducible assumption | with_reducible refine Later.ofdrew ?_ | with_reducible refine Later.ofdrewN ?_ | with_reducible refine Later.alloc ?_ _ | with_reducible refine Later.drewN ?_ _ | with_reducible refine Later.drew ?_ | (with_reducible refine Later.trans ?_ (by assumption)))) ?_))
                    go_wp2
                    go_roundw
                    case rel => exact ⟨k + 1, i + 1, by omega, by omega, by go_num, by go_num, HA, hlat.drew⟩
                    case measure => simp [intOf]; omega
                  · rw [if_neg heq] at hgs
                    have HA := Lib.hid hgs.symm
                    have hne : ¬ ((B[i]).day = (A[k]).day ∧ (B[i]).cur = (A[k]).cur ∧ (B[i]).amt = (A[k]).amt) := fun ⟨a, b, c⟩ => heq (by
                      cases hx : B[i]; cases hy : A[k]; rw [hx, hy] at a b c; simp only at a b c; rw [a, b, c])
                    clear g g' hgo heq hgs
                    generalize (A[k]).day = x0 at *
                    generalize (A[k]).cur = x1 at *
                    generalize (A[k]).amt = x2 at *
                    generalize (B[i]).day = y0 at *
                    generalize (B[i]).cur = y1 at *
                    generalize (B[i]).amt = y2 at *
                    by_cases h0 : y0 = x0
                    · subst h0
                      by_cases h1 : y1 = x1
                      · subst h1
                        have h2 : (y2 == x2) = false := by rw [beq_eq_false_iff_ne]; intro e; exact hne ⟨rfl, rfl, e⟩
                        clear hne
                        go_upto_region 30 with (fail)
                        refine wp_region_plan 9 (.done [0, 1, 2, 3, 4, 5, 6, 7, 8]) (by kernel_rfl) (by kernel_rfl) (fun _ _ d _ _ h => by cases d <;> exact h) ?_
                        repeat' (first
                          | (refine plan_done (fun K hK => ?_); (first | (simp only [pick_cons, pick_nil, toList_some_append, List.getElem?_toArray, List.getElem?_cons_zero, List.getElem?_cons_succ]; repeat (go_big_quiet_step (fail))) | simp only [pick_nil]); refine wpQuiet_nil (hK _ ?_); clear hK K)
                          | ((with_reducible refine at_list ?_); go_wp2_with (fail); first | refine behind_store (t := 9) (by decide) ?_ | refine behind (by repeat (first | with_reducible exact Later.refl _ | with_reducible assumption | with_reducible refine Later.ofdrew ?_ | with_reducible refine Later.ofdrewN ?_ | with_reducible refine Later.alloc ?_ _ | with_reducible refine Later.drewN ?_ _ | with_reducible refine Later.drew ?_ | (with_reducible refine Later.trans ?_ (by assumption)))) ?_))
                        go_wp2
                        go_roundw
                        case rel => exact ⟨k, i + 1, by omega, by omega, rfl, by go_num, HA, hlat.drew⟩
                        case measure => simp [intOf]; omega
                      · have h1' : (y1 == x1) = false := by rw [beq_eq_false_iff_ne]; exact h1
                        clear hne h1
                        go_upto_region 30 with (fail)
                        refine wp_region_plan 9 (.done [0, 1, 2, 3, 4, 5, 6, 7, 8]) (by kernel_rfl) (by kernel_rfl) (fun _ _ d _ _ h => by cases d <;> exact h) ?_
                        repeat' (first
                          | (refine plan_done (fun K hK => ?_); (first | (simp only [pick_cons, pick_nil, toList_some_append, List.getElem?_toArray, List.getElem?_cons_zero, List.getElem?_cons_succ]; repeat (go_big_quiet_step (fail))) | simp only [pick_nil]); refine wpQuiet_nil (hK _ ?_); clear hK K)
                          | ((with_reducible refine at_list ?_); go_wp2_with (fail); first | refine behind_store (t := 9) (by decide) ?_ | refine behind (by repeat (first | with_reducible exact Later.refl _ | with_reducible assumption | with_reducible refine Later.ofdrew ?_ | with_reducible refine Later.ofdrewN ?_ | with_reducible refine Later.alloc ?_ _ | with_reducible refine Later.drewN ?_ _ | with_reducible refine Later.drew ?_ | (with_reducible refine Later.trans ?_ (by assumption)))) ?_))
                        go_wp2
                        go_roundw
                        case rel => exact ⟨k, i + 1, by omega, by omega, rfl, by go_num, HA, hlat.drew⟩
                        case measure => simp [intOf]; omega
                    · have h0' : (y0 == x0) = false := by rw [beq_eq_false_iff_ne]; exact h0
                      clear hne h0
                      go_upto_region 30 with (fail)
                      refine wp_region_plan 9 (.done [0, 1, 2, 3, 4, 5, 6, 7, 8]) (by kernel_rfl) (by kernel_rfl) (fun _ _ d _ _ h => by cases d <;> exact h) ?_
                      repeat' (first
                        | (refine plan_done (fun K hK => ?_); (first | (simp only [pick_cons, pick_nil, toList_some_append, List.getElem?_toArray, List.getElem?_cons_zero, List.getElem?_cons_succ]; repeat (go_big_quiet_step (fail))) | simp only [pick_nil]); refine wpQuiet_nil (hK _ ?_); clear hK K)
                        | ((with_reducible refine at_list ?_); go_wp2_with (fail); first | refine behind_store (t := 9) (by decide) ?_ | refine behind (by repeat (first | with_reducible exact Later.refl _ | with_reducible assumption | with_reducible refine Later.ofdrew ?_ | with_reducible refine Later.ofdrewN ?_ | with_reducible refine Later.alloc ?_ _ | with_reducible refine Later.drewN ?_ _ | with_reducible refine Later.drew ?_ | (with_reducible refine Later.trans ?_ (by assumption)))) ?_))
                      go_wp2
                      go_roundw
                      case rel => exact ⟨k, i + 1, by omega, by omega, rfl, by go_num, HA, hlat.drew⟩
                      case measure => simp [intOf]; omega
                · have hkN : k = N := by omega
                  subst hkN
                  clear hgo hk
                  go_wp2_with (go_at_call 17; go_must (refine (HAW.out _ hlE).mono ?_; rintro e w7 ⟨rfl, hb7⟩))
                  go_ret
                  exact ⟨rfl, hlE.trans hb7⟩
              · have hkN : k = N := by
                  have h1 := goes_end hgo.out (by rw [HMB.out]; omega)
                  rw [HNK.out.1] at h1
                  omega
                subst hkN
                clear hgo hk
                go_wp2_with (go_at_call 17; go_must (refine (HAW.out _ hlE).mono ?_; rintro e w7 ⟨rfl, hb7⟩))
                go_ret
                exact ⟨rfl, hlE.trans hb7⟩
          · subst h2
            clear HPP HG HFA5 HFC
            go_wp2_with (go_at_call 17; go_must (refine (HAW.out _ hl5).mono ?_; rintro e w7 ⟨rfl, hb7⟩))
            go_ret
            exact ⟨rfl, hl5.trans hb7⟩
  · have he1 : (E1 == 0) = false := by simpa using h0
    have he2 : (E1 != 0) = true := by simpa using h0
    clear h0 HPL HX HY HTL HC HU HN d0 z0 HF4 HO4 HFA4
    go_wp2_with (go_at_call 17; go_must (refine (HAW.out _ hl4).mono ?_; rintro e w5 ⟨rfl, hb5⟩))
    go_ret
    exact ⟨rfl, hl4.trans hb5⟩
theorem known_any (ts : List Nd) (l l2 : List Td) (v u u2 : Value) (day tod : Int) (w : World) (hok : ∀ x ∈ ts, x.ok) (lok : ∀ x ∈ l, x.ok) (lok2 : ∀ x ∈ l2, x.ok) (hS : Shapes w) (hN : IsNodes w v ts) (hT : IsTolds w u l) (hU : IsTolds w u2 l2) :
    Calls Tryz.prog 5 #[.agg #[v, .int .i64 day, .int .i64 tod, u], u2] w fun e w' => e = .returned (.bool true) ∧ Later w w' := by
  by_cases h : ts.length ≤ 100 ∧ l.length ≤ 60 ∧ l2.length ≤ 40
  · exact known_near ts l l2 v u u2 day tod w hok lok lok2 hS hN hT hU h.1 h.2.1 h.2.2
  · exact known_far ts l l2 v u u2 day tod w lok hS hN hT hU h
end Go.Proofs.YtkjabiabeemfhaaGreatDoor
end
