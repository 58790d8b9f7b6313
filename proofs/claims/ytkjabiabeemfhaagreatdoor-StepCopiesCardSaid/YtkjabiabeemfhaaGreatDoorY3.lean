/- arguments opened: a job; calls of a run -/
import Derived.Test.YtkjabiabeemfhaaGreatDoorY2
import Derived.Test.YtkjabiabeemfhaaGreatDoorW30
import Derived.Test.YtkjabiabeemfhaaGreatDoorY1
import Derived.Test.YtkjabiabeemfhaaGreatDoorW29
import Derived.Test.YtkjabiabeemfhaaGreatDoorW16
import Derived.Test.YtkjabiabeemfhaaGreatDoorW13
import Derived.Test.YtkjabiabeemfhaaGreatDoorW12
import Derived.Test.YtkjabiabeemfhaaGreatDoorW11
import Derived.WalkMore
import Derived.Test.YtkjabiabeemfhaaGreatDoorW3
import Derived.Test.YtkjabiabeemfhaaGreatDoorW2
import Derived.Test.YtkjabiabeemfhaaGreatDoorRows
import Derived.Test.YtkjabiabeemfhaaGreatDoorW1
import Derived.Shelf.Small.Bits
import Derived.Shelf.Small.Wraps
import Derived.Shelf.Strconv.Itoa0
import Derived.Shelf.Bits.Mul64
import Derived.Ground.Names2Prog
import Derived.Shelf.Slices.Clone
import Derived.Shelf.Slices.SearchI
import Derived.Ground.SlgnProg
import Derived.Shelf.SlicesE.Clone
import Derived.Shelf.SlLaysF0
import Derived.Ground.SlsfProg
import Derived.Test.YtkjabiabeemfhaaGreatDoorProg
import Derived.WalkKit
import Derived.Lib.BitFns
import Derived.Lib.ItoaNum
import Derived.WalkSpells
import Derived.WalkSmall
import Derived.WalkLawsBesides
import Derived.BigQuiet
import Derived.Deep.RegionHeld3
import Derived.Deep.DeepCutAuto
import Derived.Deep.CutBlock
import Derived.Lib.Hide
import Derived.Deep.Quiet
import Derived.Below
import Derived.OrdersHeld
import Derived.Shelf.Spec.BitsCarry
import Derived.Laws.AppendOwnNone
import Derived.OwnWalk
import Derived.Great.BuildSlice
import Derived.Test.YtkjabiabeemfhaaGreatDoorW14
import Derived.ArgAppend
import Derived.Test.YtkjabiabeemfhaaGreatDoorW31
import Derived.Test.YtkjabiabeemfhaaGreatDoorW18
import Derived.Test.YtkjabiabeemfhaaGreatDoorW10
import Derived.Test.YtkjabiabeemfhaaGreatDoorW9
import Derived.Test.YtkjabiabeemfhaaGreatDoorW8
import Derived.RangeFuncNested
import Derived.RangeFuncBound
import Derived.RangeFuncCalls
import Derived.RangeFuncLeaves
import Derived.Shelf.Abstract
import Derived.Shelf.RegionOpen
import Derived.OwnWalkIn
import Derived.TacticsInMore
import Derived.LoopNIn
import Derived.LoopIn
import Derived.Test.YtkjabiabeemfhaaGreatDoorW4
import Derived.Test.YtkjabiabeemfhaaGreatDoorW7
import Derived.Test.YtkjabiabeemfhaaGreatDoorW5
import Derived.Test.YtkjabiabeemfhaaGreatDoorW6
import Derived.Deep.LoopGhost
import Derived.Lib.Strings
import Derived.Test.YtkjabiabeemfhaaGreatDoorW15
import Derived.Shelf.SlSortCmp.Insertion
import Derived.Laws.IdiomCopy
import Derived.Deep.Upon
import Derived.Shelf.GgSortFunc.InsertionK
import Derived.Shelf.Spec.SlicesGrow
import Derived.Ground.Names8Prog
import Derived.Test.YtkjabiabeemfhaaGreatDoorW32
import Derived.Test.YtkjabiabeemfhaaGreatDoorW33
import Derived.ChangeSame
import Derived.ProofKit
import Derived.Carry
import Derived.ReadAgain
import Derived.Deep.Slices
import Derived.OpenShut
import Derived.LaidMore
set_option linter.all false
set_option linter.all false
section
/- StepCopies: its walk (printed by gen_copies.py) -/
namespace Go.Proofs.YtkjabiabeemfhaaGreatDoor
open Go.RowKit Go.Sort

set_option maxRecDepth 20000 in
set_option maxHeartbeats 1600000 in
theorem cpy_far (ts : List Nd) (l : List Td) (os : List Ops) (v u vi : Value) (day tod : Int) (w : World) (lok : ∀ x ∈ l, x.ok) (hS : Shapes w) (hN : IsNodes w v ts) (hT : IsTolds w u l) (hI : IsOps w vi os) (h : ¬ (ts.length ≤ 100 ∧ l.length ≤ 60 ∧ os.length ≤ 30)) :
    Calls Tryz.prog 13 #[.agg #[v, .int .i64 day, .int .i64 tod, u], vi] w fun e w' => e = .returned (.bool true) ∧ Later w w' := by
  have HAW := Lib.hid (fun W (hl : Later w W) => sawake_any W (hS.later hl))
  have HM := Lib.hid (fun W (hl : Later w W) => made_big l (row_len hT) lok u W (hT.later hl))
  have HFW := Lib.hid (fun W (hl : Later w W) => lfew_any ts l v u day tod W (hN.later hl) (hT.later hl))
  obtain ⟨F, hF⟩ : ∃ F, (decide (ts.length ≤ 100) && decide (l.length ≤ 60)) = F := ⟨_, rfl⟩
  rw [hF] at HFW
  obtain ⟨p2, c2, rfl⟩ := hI.form
  have hcase : F = false ∨ (F = true ∧ 30 < (os.length : Int)) := by
    cases F with
    | false => exact .inl rfl
    | true =>
      simp only [Bool.and_eq_true, decide_eq_true_eq] at hF
      exact .inr ⟨rfl, by omega⟩
  clear hF h hS hN hT hI lok
  generalize os.length = M at *
  rcases hcase with rfl | ⟨rfl, h1⟩
  all_goals
    go_enter Tryz.func13, Tryz.ntmps13
    go_upto_region 1 with (fail)
    refine wp_opaque (fun w0 hb0 => ?_)
    have hO0 := Own.one hb0
    have hl0 := hb0.un1
    obtain ⟨z0, d0, -⟩ := own_get hO0
    clear hb0
    go_wp2_with (first
      | (go_at_call 15; go_must (refine (HM.out _ hl0).mono ?_; rintro e w1 ⟨p, m1, m2, rfl, hF1, ge1, ge2, hb1⟩; have hl1 : Later w w1 := hl0.trans hb1; clear hF1 d0 z0; obtain ⟨z0, d0, -⟩ := own_get (hO0.later hb1)))
      | (go_at_call 16; go_must (refine (HFW.out _ hl1).mono ?_; rintro e w2 ⟨rfl, hb2⟩; have hl2 := hl1.trans hb2; clear d0 z0; obtain ⟨z0, d0, -⟩ := own_get (hO0.later (hb1.trans hb2))))
      | (go_at_call 34; go_must (refine (HAW.out _ hl2).mono ?_; rintro e w3 ⟨rfl, hb3⟩)))
    go_ret
    exact ⟨rfl, hl2.trans hb3⟩
/-- What the copies are, between two calls. -/
structure CpyInv (w5 wr : World) (ts : List Nd) (cb db : Nat) (tvc lc wvc tvd ld wvd : Value) (cs s1 : RunS) (q n1 n2 : Nat) (fx : FxL) (ch : ChL) (j : Nat) : Prop where
  lat : Later w5 wr
  c : RunAt wr cb ts tvc lc wvc cs
  d : RunAt wr db ts tvd ld wvd s1
  g : FactsAt wr q n1 n2 fx ch
  fc : FcOk (fx, ch) (60 + j)
  cf : RunFit ts cs
section
variable {w5 wr w' : World} {ts : List Nd} {T : Tm} {cb db : Nat} {tvc lc wvc lc' wvc' tvd ld wvd : Value} {cs s1 : RunS} {q n1 n2 : Nat} {fx : FxL} {ch : ChL} {j : Nat}
theorem CpyInv.later (h : CpyInv w5 wr ts cb db tvc lc wvc tvd ld wvd cs s1 q n1 n2 fx ch j) (hl : Later wr w') : CpyInv w5 w' ts cb db tvc lc wvc tvd ld wvd cs s1 q n1 n2 fx ch j :=
  ⟨h.lat.trans hl, h.c.later hl, h.d.later hl, h.g.later hl, h.fc, h.cf⟩
theorem CpyInv.go (h : CpyInv w5 wr ts cb db tvc lc wvc tvd ld wvd cs s1 q n1 n2 fx ch j) (hG : Good ts T) (hok : ∀ x ∈ ts, x.ok) {xt : Int} (hc : RunAt w' cb ts tvc lc' wvc' (goR (envT fx ch) cs xt).2.2) (hl : S.LatB (fun k => k = cb) wr w') (hz : w5.heap.size ≤ cb) (hd : ∀ k, RunB db tvd ld wvd k → ¬ k = cb) : CpyInv w5 w' ts cb db tvc lc' wvc' tvd ld wvd (goR (envT fx ch) cs xt).2.2 s1 q n1 n2 fx ch (j + 1) :=
  ⟨lat_one h.lat hl hz, hc, h.d.lat hl hd, h.g.lat h.c hl, h.fc.more, h.cf.go hG hok h.fc.env xt⟩
theorem CpyInv.tell (h : CpyInv w5 wr ts cb db tvc lc wvc tvd ld wvd cs s1 q n1 n2 fx ch j) {x : Td} (hx : x.ok) {mm : Nat} (hm : mm = n1 ∨ mm = n2) (hg : wr.grownBy w' (some mm)) (hF : FactsAt w' q n1 n2 (tellFx fx x) (tellCh ch x)) (z1 : w5.heap.size ≤ n1) (z2 : w5.heap.size ≤ n2) : CpyInv w5 w' ts cb db tvc lc wvc tvd ld wvd cs s1 q n1 n2 (tellFx fx x) (tellCh ch x) (j + 1) :=
  ⟨tell_grown h.lat h.g z1 z2 hm hg, h.c.grown hg (h.g.map1 hm), h.d.grown hg (h.g.map1 hm), hF, h.fc.tell hx, h.cf⟩
end
set_option maxRecDepth 20000 in
set_option maxHeartbeats 12800000 in
theorem cpy_near (ts : List Nd) (l : List Td) (os : List Ops) (v u vi : Value) (day tod : Int) (w : World) (hok : ∀ x ∈ ts, x.ok) (lok : ∀ x ∈ l, x.ok) (ook : ∀ x ∈ os, x.ok) (hS : Shapes w) (hN : IsNodes w v ts) (hT : IsTolds w u l) (hI : IsOps w vi os) (h1 : ts.length ≤ 100) (h2 : l.length ≤ 60) (h3 : os.length ≤ 30) :
    Calls Tryz.prog 13 #[.agg #[v, .int .i64 day, .int .i64 tod, u], vi] w fun e w' => e = .returned (.bool true) ∧ Later w w' := by
  have HAW := Lib.hid (fun W (hl : Later w W) => sawake_any W (hS.later hl))
  have HM := Lib.hid (fun W (hl : Later w W) => made_any l (by omega) lok u W (hT.later hl))
  have HFW := Lib.hid (fun W (hl : Later w W) => lfew_any ts l v u day tod W (hN.later hl) (hT.later hl))
  rw [decide_eq_true h1, decide_eq_true h2, Bool.true_and] at HFW
  have hfc := fcOk_made l lok
  have HFC : Hid (FcOk (madeFx l, madeCh l) 60) := Lib.hid ⟨hfc.1, hfc.2, hfc.3, hfc.4, Nat.le_trans hfc.5 h2⟩
  have HSH := Lib.hid (fun W (hl : Later w W) => hS.later hl)
  have HOK := Lib.hid hok
  have HI := Lib.hid hI
  have HOO := Lib.hid ook
  have HRN := Lib.hid (fun (h : newE ts day ≠ 0) W (hl : Later w W) => rnew_no ts (by omega) hok v day W (hS.later hl) (hN.later hl) h)
  have HRY := Lib.hid (fun (h : newE ts day = 0) T (hG : Good ts T) (hm : makesI T.root.op = 2) W (hl : Later w W) => rnew_yes ts hok v day W (hS.later hl) (hN.later hl) h hG hm)
  obtain ⟨E1, hE1⟩ : ∃ x, newE ts day = x := ⟨_, rfl⟩
  have HDY := Lib.hid (fun h => newE_zero (ts := ts) (day := day) h)
  rw [hE1] at HRN HRY HDY
  obtain ⟨pv, cv, rfl⟩ := hN.form
  obtain ⟨pu, cu, rfl⟩ := hT.form
  obtain ⟨pi, ci, rfl⟩ := hI.form
  obtain ⟨M, hM⟩ : ∃ x, os.length = x := ⟨_, rfl⟩
  have HML := Lib.hid hM
  rw [hM] at HI h3
  rw [hM]
  have n2 : ¬ (30 : Int) < (M : Int) := by omega
  clear hS hN hT hI hok lok ook hE1 hM hfc h1 h2
  generalize madeFx l = FX at *
  generalize madeCh l = CH at *
  generalize ts.length = L at *
  generalize l.length = M0 at *
  go_enter Tryz.func13, Tryz.ntmps13
  go_upto_region 1 with (fail)
  refine wp_opaque (fun w0 hb0 => ?_)
  have hO0 := Own.one hb0
  have hl0 := hb0.un1
  obtain ⟨z0, d0, -⟩ := own_get hO0
  clear hb0
  go_upto_region 4 with (first
    | (go_at_call 15; go_must (refine (HM.out _ hl0).mono ?_; rintro e w1 ⟨p, m1, m2, rfl, hF1, ge1, ge2, hb1⟩; have hl1 : Later w w1 := hl0.trans hb1; clear d0 z0; obtain ⟨z0, d0, -⟩ := own_get (hO0.later hb1)))
    | (go_at_call 16; go_must (refine (HFW.out _ hl1).mono ?_; rintro e w2 ⟨rfl, hb2⟩; have hl2 := hl1.trans hb2; clear d0 z0; obtain ⟨z0, d0, -⟩ := own_get (hO0.later (hb1.trans hb2)))))
  have HO2 := Lib.hid (hO0.later (hb1.trans hb2))
  have HF2 := Lib.hid (hF1.later hb2)
  clear hb1 hb2 hF1 hl1 HM HFW ge1 ge2 hO0 hl0
  by_cases k1 : E1 = 0
  · subst k1
    obtain ⟨hct, hd0, hd1⟩ := HDY.out rfl
    obtain ⟨T, hG, hm⟩ := ct_good hct
    have HRY2 := Lib.hid (fun W (hl : Later w W) => HRY.out rfl T hG hm W hl)
    have HGD := Lib.hid (show Good ts T ∧ makesI T.root.op = 2 ∧ 0 ≤ day ∧ day ≤ 73048 from ⟨hG, hm, hd0, hd1⟩)
    clear HRN HRY HDY hG hm hd0 hd1 hct
    go_upto_region 5 with (go_at_call 35; go_must (refine (HRY2.out _ hl2).mono ?_; rintro e w3 ⟨rb, tvr, lr, wvr, rfl, hr3, hz3, hb3⟩; clear d0 z0; obtain ⟨z0, d0, -⟩ := own_get (HO2.out.later hb3)))
    have HR3 := Lib.hid hr3
    have HZ3 := Lib.hid hz3
    have hl3 := hl2.trans hb3
    have HF3 := Lib.hid (HF2.out.later hb3)
    have hrb : w.heap.size ≤ rb := by have := (HZ3.out rb (.inl rfl)).1; have := hl2.size; omega
    have HFIT := Lib.hid (RunFit.new HGD.out.1 HGD.out.2.1 HGD.out.2.2.1 HGD.out.2.2.2 : RunFit ts (newR T day))
    have HGR := Lib.hid (fun W (hl : Later w3 W) => rgo_facts HGD.out.1 HOK.out (HSH.out W (hl3.trans hl)) HFC.out (by decide) (HF3.out.later hl) (HR3.out.later hl) HFIT.out.ok HFIT.out.sz tod)
    have HFS := Lib.hid (HFIT.out.go HGD.out.1 HOK.out HFC.out.env tod)
    have HOW := Lib.hid (fun h => over_waits (tod := tod) HGD.out.1 HGD.out.2.1 HOK.out HFC.out.env HGD.out.2.2.1 HGD.out.2.2.2 h)
    obtain ⟨⟨C0, A0, s1⟩, hgr⟩ : ∃ gg, goR (envT FX CH) (newR T day) tod = gg := ⟨_, rfl⟩
    rw [hgr] at HGR HFS HOW
    try simp only at HFS HOW
    clear hgr hr3 hz3 HRY2
    have e2 : w3.cell? ⟨w.heap.size, 2, none⟩ = some (.int .i64 tod) := d0 2
    clear d0
    go_upto_region 7 with (fail)
    go_upto_region 8 with (go_at_call 38; go_must (refine (HGR.out _ (Later.refl _)).mono ?_; rintro e w5 ⟨fa, lr1, wvr1, rfl, -, -, hr5, -, hl5⟩))
    try simp only at hr5
    have HR5 := Lib.hid hr5
    have HF5 := Lib.hid (HF3.out.lat HR3.out hl5)
    have hlw5 : Later w w5 := lat_one hl3 hl5 hrb
    have hrb5 : rb < w5.heap.size := hr5.own.1.1
    have HTV : Hid (∀ k, tvr.ownBlock = some k → k < w5.heap.size) := Lib.hid (fun k hk => by
      have := (HZ3.out k (.inr (.inl hk))).2
      have := hl5.size
      omega)
    have HD5 := Lib.hid (fun W (hl : Later w5 W) => rday_any (HR5.out.later hl))
    have HV5 := Lib.hid (fun W (hl : Later w5 W) => rover_any (HR5.out.later hl))
    have HW5 := Lib.hid (fun W (hl : Later w5 W) => rwaits_any (HR5.out.later hl) (by have := HFS.out.wl; omega))
    have HCP := Lib.hid (fun W (hl : Later w5 W) => rcopy_any (HR5.out.later hl) (by have := HGD.out.1.len; omega) (by have := sizesH_len s1.L; have := HFS.out.sz; omega) (by have := HFS.out.wl; omega))
    have HFP := Lib.hid (fun W (hl : Later w5 W) => fcopy_any (HF5.out.later hl))
    obtain ⟨DY, hDY⟩ : ∃ y, s1.day = y := ⟨_, rfl⟩
    have hdy : -1 ≤ DY := by rw [← hDY]; exact HFS.out.ok.d0
    obtain ⟨OV, hOV⟩ : ∃ y, decide (s1.L = []) = y := ⟨_, rfl⟩
    obtain ⟨NW, hNW⟩ : ∃ y, s1.W.length = y := ⟨_, rfl⟩
    have HFW := Lib.hid (fun W v (hw : IsWaits W v s1.W) => show ∃ p c, v = .slice p NW c from by rw [← hNW]; exact hw.form)
    have HOV : Hid (OV = false ∨ OV = true ∧ NW = 0 ∧ s1.L = []) := Lib.hid (by
      cases OV with
      | false => exact .inl rfl
      | true =>
        have := of_decide_eq_true hOV
        exact .inr ⟨rfl, by rw [← hNW, HOW.out this]; rfl, this⟩)
    rw [hDY] at HD5
    rw [hOV] at HV5
    clear hr5 hl5 HGR HFIT HR3 HZ3 HF3 hDY hOV hNW HOW e2 hb3 HF2 HO2 hl3
    go_upto_region 9 with (go_at_call 40; go_must (refine (HD5.out _ (Later.refl _)).mono ?_; rintro e w51 ⟨rfl, hb51⟩))
    go_upto_region 10 with (go_at_call 41; go_must (refine (HV5.out _ hb51).mono ?_; rintro e w52 ⟨rfl, hb52⟩; have hl52 := hb51.trans hb52))
    go_upto_region 11 with (go_at_call 43; go_must (refine (HW5.out _ hl52).mono ?_; rintro e w53 ⟨vw53, rfl, hw53, hb53⟩; obtain ⟨pw5, cw5, rfl⟩ := HFW.out _ _ hw53; clear hw53; have hl53 := hl52.trans hb53))
    go_upto_region 12 with (go_at_call 44; go_must (refine (HCP.out _ hl53).mono ?_; rintro e w6 ⟨cb, tvc, lc0, wvc0, rfl, hc6, hz6, hb6⟩; have hl6 := hl53.trans hb6))
    have HC6 := Lib.hid hc6
    have HZ6 := Lib.hid hz6
    clear hc6 hz6
    go_upto_region 13 with (go_at_call 44; go_must (refine (HCP.out _ hl6).mono ?_; rintro e w7 ⟨db, tvd, ld, wvd, rfl, hd7, hz7, hb7⟩; have hl7 := hl6.trans hb7))
    have HD7 := Lib.hid hd7
    have HZ7 := Lib.hid hz7
    clear hd7 hz7
    go_upto_region 14 with (go_at_call 45; go_must (refine (HFP.out _ hl7).mono ?_; rintro e w8 ⟨q, n1, n2, rfl, hg8, zn1, zn2, hb8⟩; have hl8 := hl7.trans hb8))
    have hcb : w5.heap.size ≤ cb := by have := (HZ6.out cb (.inl rfl)).1; have := hl53.size; omega
    have hdb : w5.heap.size ≤ db ∧ db < w8.heap.size := by have := HZ7.out db (.inl rfl); have := hl6.size; have := hb8.size; omega
    have HDX : Hid ((∀ k, RunB db tvd ld wvd k → ¬ k = cb) ∧ (∀ k, RunB db tvd ld wvd k → ¬ k = rb) ∧ w5.heap.size ≤ n1 ∧ w5.heap.size ≤ n2 ∧ w5.heap.size ≤ cb ∧ w5.heap.size ≤ db ∧ db < w8.heap.size) := Lib.hid ⟨fun k hk e => by
      have := (HZ7.out k hk).1
      have := (HZ6.out cb (.inl rfl)).2
      omega, fun k hk e => by
      have := (HZ7.out k hk).1
      have := hl6.size
      omega, by have := hl7.size; omega, by have := hl7.size; omega, hcb, hdb.1, hdb.2⟩
    have HINV : Hid (CpyInv w5 w8 ts cb db tvc lc0 wvc0 tvd ld wvd s1 s1 q n1 n2 FX CH 0) := Lib.hid ⟨hl8, (HC6.out.later hb7).later hb8, HD7.out.later hb8, hg8, HFC.out, HFS.out⟩
    have hsz8 : w8.heap.size ≤ w8.heap.size := Nat.le_refl _
    clear HC6 HD7 HZ6 HZ7 hg8 zn1 zn2 hb8 hb7 hb6 hb53 hb52 hb51 hl52 hl53 hl6 hl7 hl8 hcb hdb HD5 HV5 HW5 HCP HFP z0
    go_upto_region 17 with (fail)
    go_loopw [14] (fun s14 wr => ∃ j : Nat, j ≤ M ∧ s14 = .int .i64 j ∧ w8.heap.size ≤ wr.heap.size ∧ ∃ (lc wvc : Value) (cs : RunS) (fx : FxL) (ch : ChL), Hid (CpyInv w5 wr ts cb db tvc lc wvc tvd ld wvd cs s1 q n1 n2 fx ch j)) (fun s14 _ => M - (intOf s14).toNat)
    case atStart => exact ⟨0, Nat.zero_le _, rfl, hsz8, _, _, _, _, _, HINV⟩
    case round =>
      obtain ⟨j, hj, rfl, hsz, lc, wvc, cs, fx, ch, HV⟩ := hrel
      clear HINV hsz8
      have hlr : Later w wr := hlw5.trans HV.out.lat
      by_cases hlt : j < M
      · have hltI : (j : Int) < (M : Int) := by omega
        obtain ⟨ob, oo, oc, hv, hob, g⟩ := (HI.out.later hlr).full (i := j) (by rw [HML.out]; exact hlt)
        rw [HML.out] at hv
        cases hv
        have HOB : Hid (¬ ob = cb) := Lib.hid (by
          have hob0 : ob < w.heap.size := by
            obtain ⟨ob', oo', oc', hv', hob', -⟩ := HI.out.full (i := j) (by rw [HML.out]; exact hlt)
            rw [HML.out] at hv'
            cases hv'
            exact hob'
          have := HDX.out.2.2.2.2.1
          have := hlw5.size
          omega)
        have HXO := Lib.hid (HOO.out _ (List.getElem_mem (show j < os.length by rw [HML.out]; exact hlt)))
        have g0 := g 0 (by decide)
        have g1 := g 1 (by decide)
        have g2 := g 2 (by decide)
        have g3 := g 3 (by decide)
        have g4 := g 4 (by decide)
        have g5 := g 5 (by decide)
        have g6 := g 6 (by decide)
        have g7 := g 7 (by decide)
        obtain ⟨x, hx⟩ : ∃ x, os[j]'(by rw [HML.out]; exact hlt) = x := ⟨_, rfl⟩
        rw [hx] at g0 g1 g2 g3 g4 g5 g6 g7 HXO
        clear hx g
        obtain ⟨xg, xt, ⟨fc, fk, fd, fn, fm, fp⟩⟩ := x
        simp only [Ops.cell, Td.cell, Nat.add_zero] at g0 g1 g2 g3 g4 g5 g6 g7
        cases xg
        · have HT := Lib.hid (tell_any q n1 n2 fx ch ⟨fc, fk, fd, fn, fm, fp⟩ wr HV.out.g HXO.out.2)
          unfold Td.val at HT
          simp only at HT
          clear g1
          go_wp2_with (go_at_call 26; go_must (refine HT.out.mono ?_; rintro e w9 ⟨rfl, hF9, mm, hmm, hg9⟩))
          go_roundw
          case rel => exact ⟨j + 1, by omega, by go_num, by have := hg9.size; omega, _, _, _, _, _, Lib.hid (HV.out.tell HXO.out.2 hmm hg9 hF9 HDX.out.2.2.1 HDX.out.2.2.2.1)⟩
          case measure => first | (simp [intOf]; omega) | simp [intOf]
        · clear g2 g3 g4 g5 g6 g7 HXO
          have HDA := Lib.hid (rday_any HV.out.c)
          have HWA := Lib.hid (fun W (hl : Later wr W) => rwaits_any (HV.out.c.later hl) (by have := HV.out.cf.wl; omega))
          have HGR := Lib.hid (fun W (hl : Later wr W) => rgo_facts HGD.out.1 HOK.out (HSH.out W (hlr.trans hl)) HV.out.fc (by omega) (HV.out.g.later hl) (HV.out.c.later hl) HV.out.cf.ok HV.out.cf.sz xt)
          have HFL := Lib.hid (fun h => goR_fail (env := envT fx ch) (s := cs) (tod := xt) h)
          have HNX := Lib.hid (fun W (hl : Later wr W) (w' : World) (lc' wvc' : Value) (hc : RunAt w' cb ts tvc lc' wvc' (goR (envT fx ch) cs xt).2.2) (hlb : S.LatB (fun k => k = cb) W w') => (HV.out.later hl).go HGD.out.1 HOK.out hc hlb HDX.out.2.2.2.2.1 HDX.out.1)
          obtain ⟨⟨C, A, cs'⟩, hgr⟩ : ∃ gg, goR (envT fx ch) cs xt = gg := ⟨_, rfl⟩
          rw [hgr] at HGR HFL HNX
          simp only at HGR HFL HNX
          obtain ⟨DC, hDC⟩ : ∃ y, cs.day = y := ⟨_, rfl⟩
          obtain ⟨YW, hYW⟩ : ∃ y, cs.W = y := ⟨_, rfl⟩
          obtain ⟨NY, hNY⟩ : ∃ n, YW.length = n := ⟨_, rfl⟩
          have hYl : YW.length ≤ 8192 := by rw [← hYW]; exact HV.out.cf.wl
          have HNY := Lib.hid (show YW.length = NY ∧ cs.W = YW ∧ cs.day = DC from ⟨hNY, hYW, hDC⟩)
          have HFO := Lib.hid (fun W v (hw : IsWaits W v YW) => show ∃ p c, v = .slice p NY c from by rw [← hNY]; exact hw.form)
          have HWW := Lib.hid (fun W va vb (ha : IsWaits W va YW) (hb : IsWaits W vb YW) => lwaits_any YW YW va vb W ha hb (by omega))
          rw [show decide (YW = YW) = true by simp] at HWW
          rw [hDC] at HDA
          rw [hYW] at HWA
          clear hgr hDC hYW hNY hYl
          go_upto_region 22 with (go_at_call 40; go_must (refine HDA.out.mono ?_; rintro e wa ⟨rfl, hba⟩))
          go_upto_region 23 with (go_at_call 43; go_must (refine (HWA.out _ hba).mono ?_; rintro e wb ⟨vwb, rfl, hwb, hbb⟩; obtain ⟨pwb, cwb, rfl⟩ := HFO.out _ _ hwb))
          have hlb := hba.trans hbb
          replace g1 := ((bcell hlb).1 _ _ hob).trans g1
          replace hob := Nat.lt_of_lt_of_le hob hlb.size
          have HWB := Lib.hid hwb
          have HCB := Lib.hid (HV.out.c.later hlb)
          clear g0 hwb hbb HDA HWA
          go_upto_region 24 with (go_at_call 38; go_must (refine (HGR.out _ hlb).mono ?_; rintro e wd ⟨fv, lc', wvc', rfl, -, -, hcd, -, hld⟩))
          try simp only at hcd
          have HCD := Lib.hid hcd
          have HNV := Lib.hid (HNX.out _ hlb _ _ _ hcd hld)
          have HWD := Lib.hid (row_latx HWB.out hld (fun k hk hx => HCB.out.waits_ne HWB.out k hk hx))
          have hszd : w8.heap.size ≤ wd.heap.size := by have := hld.size; have := hlb.size; omega
          clear hcd HGR HNX HWB HCB hld g1 hob hba hlb
          by_cases hC : C = 0
          · subst hC
            go_wp2_with fail
            go_roundw
            case rel => exact ⟨j + 1, by omega, by go_num, hszd, _, _, _, _, _, HNV⟩
            case measure => first | (simp [intOf]; omega) | simp [intOf]
          · have hc1 : (C == 0) = false := by simpa using hC
            have hc2 : (C != 0) = true := by simpa using hC
            have hst : cs' = cs := congrArg Prod.snd (HFL.out hC)
            have hst2 := Lib.hid hst
            have HDE := Lib.hid (fun W (hl : Later wd W) => rday_any (HCD.out.later hl))
            have HWE := Lib.hid (fun W (hl : Later wd W) => rwaits_any (HCD.out.later hl) (by rw [hst2.out, HNY.out.2.1]; have := HV.out.cf.wl; rw [HNY.out.2.1] at this; omega))
            rw [hst, HNY.out.2.2] at HDE
            rw [hst, HNY.out.2.1] at HWE
            clear hC hst HFL HCD
            go_wp2_with (first
              | (go_at_call 40; go_must (refine (HDE.out _ (Later.refl _)).mono ?_; rintro e we ⟨rfl, hbe⟩))
              | (go_at_call 43; go_must (refine (HWE.out _ hbe).mono ?_; rintro e wf ⟨vwf, rfl, hwf, hbf⟩; obtain ⟨pwf, cwf, rfl⟩ := HFO.out _ _ hwf; have HWF := Lib.hid hwf; clear hwf; have hlf := hbe.trans hbf))
              | (go_at_call 29; go_must (refine (HWW.out _ _ _ HWF.out (HWD.out.later hlf)).mono ?_; rintro e wg ⟨rfl, hbg⟩; have hlg := hlf.trans hbg)))
            go_roundw
            case rel => exact ⟨j + 1, by omega, by go_num, by have := hlg.size; omega, _, _, _, _, _, Lib.hid (HNV.out.later hlg)⟩
            case measure => first | (simp [intOf]; omega) | simp [intOf]
      · have hge : ¬ ((j : Int) < (M : Int)) := by omega
        have HRX := Lib.hid (HR5.out.later HV.out.lat)
        have hs5 : w5.heap.size ≤ wr.heap.size := HV.out.lat.size
        have HB := Lib.hid (show (∀ k, lr1.ownBlock = some k → s1.L ≠ [] → k < w5.heap.size) ∧ (∀ k, wvr1.ownBlock = some k → s1.W ≠ [] → k < w5.heap.size) from ⟨row_lt HR5.out.held, row_lt HR5.out.waits⟩)
        have HGA := Lib.hid ((rgo_facts HGD.out.1 HOK.out (HSH.out wr hlr) HFC.out (by decide) (HF5.out.later HV.out.lat) HRX.out HFS.out.ok HFS.out.sz 73048).mono (fun e w' h => GoEnd.left h HRX.out hs5 HB.out.1 HB.out.2))
        have HGB := Lib.hid (fun W (hl : Later w W) (hF : FactsAt W p m1 m2 FX CH) (hd : RunAt W db ts tvd ld wvd s1) => rgo_facts HGD.out.1 HOK.out (HSH.out W hl) HFC.out (by decide) hF hd HFS.out.ok HFS.out.sz 73048)
        have hfe := goR_few (env := envT FX CH) 73048 HFS.out.sz HFS.out.wl
        have HOS := Lib.hid (fun h => over_stays (env := envT FX CH) (tod := 73048) (s := s1) h)
        obtain ⟨⟨C, A, s2⟩, hgr⟩ : ∃ gg, goR (envT FX CH) s1 73048 = gg := ⟨_, rfl⟩
        rw [hgr] at HGA HGB hfe HOS
        simp only at HGA HGB hfe HOS
        obtain ⟨hfe1, hfe2⟩ := hfe
        obtain ⟨NA, hNA⟩ : ∃ n, A.length = n := ⟨_, rfl⟩
        have HNA := Lib.hid hNA
        rw [hNA] at hfe1
        have HFF := Lib.hid (fun W v (hw : IsFlows W v A) => show ∃ p c, v = .slice p NA c from by rw [← hNA]; exact hw.form)
        clear hgr hNA
        go_upto_region 26 with (fail)
        go_upto_region 27 with (go_at_call 38; go_must (refine HGA.out.mono ?_; rintro e wa ⟨fa, la, wva, rfl, hfa, hfza, hra, hbl, hbw, hla⟩; obtain ⟨qa, ca, rfl⟩ := HFF.out _ _ hfa))
        have HFA := Lib.hid hfa
        have HFZ := Lib.hid hfza
        have HRA := Lib.hid hra
        have HBL := Lib.hid (And.intro hbl hbw)
        have HDA := Lib.hid (HV.out.d.lat hla HDX.out.2.1)
        have HFCT := Lib.hid ((HF5.out.later HV.out.lat).lat HRX.out hla)
        have hlwa : Later w wa := lat_one hlr hla hrb
        have hsa := hla.size
        clear hfa hfza hra hbl hbw hla HGA HRX
        go_upto_region 28 with (go_at_call 38; go_must (refine (HGB.out _ hlwa HFCT.out HDA.out).mono ?_; rintro e wb ⟨fb, lb, wvb, rfl, hfb, -, hdb, -, hlb⟩; obtain ⟨qb, cb', rfl⟩ := HFF.out _ _ hfb))
        try simp only at hdb hfb
        have HRB := Lib.hid (HRA.out.latx hlb (fun e => HDX.out.2.1 db (.inl rfl) e.symm) (fun k hk e => by
          have := HTV.out k hk
          have := HDX.out.2.2.2.2.2.1
          omega) (fun k hk hx e => by
          have := HBL.out.1 k hk hx
          have := HDX.out.2.2.2.2.2
          omega) (fun k hk hx e => by
          have := HBL.out.2 k hk hx
          have := HDX.out.2.2.2.2.2
          omega))
        have HFAB := Lib.hid (row_lat HFA.out hlb (fun k hk e => by
          have := HFZ.out k hk
          have := HDX.out.2.2.2.2.2
          omega))
        have HDB := Lib.hid hdb
        have hlwb : Later w wb := lat_one hlwa hlb (by have := HDX.out.2.2.2.2.2.1; have := hlw5.size; omega)
        have HFL := Lib.hid (fun W (hl : Later wb W) => lflows_any A A _ _ W (HFAB.out.later hl) ((show IsFlows wb (.slice qb NA cb') A from hfb).later hl) (by rw [HNA.out]; omega))
        rw [show decide (A = A) = true by simp] at HFL
        obtain ⟨YW, hYW⟩ : ∃ y, s2.W = y := ⟨_, rfl⟩
        obtain ⟨NY, hNY⟩ : ∃ n, YW.length = n := ⟨_, rfl⟩
        have hw1 := Lib.hid (fun W (hl : Later wb W) => rwaits_any (HDB.out.later hl) (by omega))
        have hw2 := Lib.hid (fun W (hl : Later wb W) => rwaits_any (HRB.out.later hl) (by omega))
        rw [hYW] at hw1 hw2 hfe2
        rw [hNY] at hfe2
        have HFO := Lib.hid (fun W v (hw : IsWaits W v YW) => show ∃ p c, v = .slice p NY c from by rw [← hNY]; exact hw.form)
        have HWW := Lib.hid (fun W va vb (ha : IsWaits W va YW) (hb : IsWaits W vb YW) => lwaits_any YW YW va vb W ha hb (by omega))
        rw [show decide (YW = YW) = true by simp] at HWW
        obtain ⟨O2, hO2⟩ : ∃ y, decide (s2.L = []) = y := ⟨_, rfl⟩
        have ho1 := Lib.hid (fun W (hl : Later wb W) => rover_any (HDB.out.later hl))
        have ho2 := Lib.hid (fun W (hl : Later wb W) => rover_any (HRB.out.later hl))
        have ho3 := Lib.hid (fun W (hl : Later wb W) => rover_any (HRB.out.later hl))
        rw [hO2] at ho1 ho2 ho3
        have hcond : OV = false ∨ OV = true ∧ NW = 0 ∧ O2 = true := by
          rcases HOV.out with h | ⟨h, h', h''⟩
          · exact .inl h
          · exact .inr ⟨h, h', by rw [← hO2, HOS.out h'']; rfl⟩
        have hdyI : (DY ≥ -1) := hdy
        clear hYW hNY hO2 hfb hdb hlb HRA HDA HFA HFZ HBL HFCT HGB HNA HRB HDB HFAB HV HOS HOV hsa hs5 hlwa
        rcases hcond with rfl | ⟨rfl, rfl, rfl⟩
        all_goals
          go_wp2_with (first
            | (go_at_call 23; go_must (refine (HFL.out _ (Later.refl _)).mono ?_; rintro e x1 ⟨rfl, hx1⟩))
            | (go_at_call 41; go_must (first | (refine (ho1.out _ hx1).mono ?_; clear ho1; rintro e x2 ⟨rfl, hx2⟩) | (refine (ho2.out _ (hx1.trans hx2)).mono ?_; clear ho2; rintro e x3 ⟨rfl, hx3⟩; have hy3 := (hx1.trans hx2).trans hx3) | (refine (ho3.out _ hy6).mono ?_; clear ho3; rintro e x7 ⟨rfl, hx7⟩; replace hy6 := hy6.trans hx7)))
            | (go_at_call 43; go_must (first | (refine (hw1.out _ hy3).mono ?_; clear hw1; rintro e x4 ⟨v4, rfl, hv4, hx4⟩; obtain ⟨p4, c4, rfl⟩ := HFO.out _ _ hv4; have HV4 := Lib.hid hv4; clear hv4; have hy4 := hy3.trans hx4) | (refine (hw2.out _ hy4).mono ?_; clear hw2; rintro e x5 ⟨v5, rfl, hv5, hx5⟩; obtain ⟨p5, c5, rfl⟩ := HFO.out _ _ hv5; have HV5 := Lib.hid hv5; clear hv5; have hy5 := hy4.trans hx5)))
            | (go_at_call 29; go_must (refine (HWW.out _ _ _ (HV4.out.later hx5) HV5.out).mono ?_; rintro e x6 ⟨rfl, hx6⟩; have hy6 := hy5.trans hx6))
            | (go_at_call 34; go_must (refine (HAW.out _ (hlwb.trans hy6)).mono ?_; rintro e x8 ⟨rfl, hx8⟩)))
          go_ret
          exact ⟨rfl, (hlwb.trans hy6).trans hx8⟩
  · have he1 : (E1 == 0) = false := by simpa using k1
    have he2 : (E1 != 0) = true := by simpa using k1
    have HRN2 := Lib.hid (fun W (hl : Later w W) => HRN.out k1 W hl)
    clear HRN HRY HDY k1 HF2
    go_wp2_with (first
      | (go_at_call 35; go_must (refine (HRN2.out _ hl2).mono ?_; rintro e w3 ⟨rfl, hb3⟩; clear d0 z0; obtain ⟨z0, d0, -⟩ := own_get (HO2.out.later hb3); have hl4 := hl2.trans hb3))
      | (go_at_call 34; go_must (refine (HAW.out _ hl4).mono ?_; rintro e w5 ⟨rfl, hb5⟩)))
    go_ret
    exact ⟨rfl, hl4.trans hb5⟩
theorem cpy_any (ts : List Nd) (l : List Td) (os : List Ops) (v u vi : Value) (day tod : Int) (w : World) (hok : ∀ x ∈ ts, x.ok) (lok : ∀ x ∈ l, x.ok) (ook : ∀ x ∈ os, x.ok) (hS : Shapes w) (hN : IsNodes w v ts) (hT : IsTolds w u l) (hI : IsOps w vi os) :
    Calls Tryz.prog 13 #[.agg #[v, .int .i64 day, .int .i64 tod, u], vi] w fun e w' => e = .returned (.bool true) ∧ Later w w' := by
  by_cases h : ts.length ≤ 100 ∧ l.length ≤ 60 ∧ os.length ≤ 30
  · exact cpy_near ts l os v u vi day tod w hok lok ook hS hN hT hI h.1 h.2.1 h.2.2
  · exact cpy_far ts l os v u vi day tod w lok hS hN hT hI h
end Go.Proofs.YtkjabiabeemfhaaGreatDoor
end
section
/- the arguments of a law, opened and read again: words that hang on no struct -/
namespace Go.Proofs.YtkjabiabeemfhaaGreatDoor
open Go.ChangeShapes Go.WideShapes Go.ChangeAt Go.RowKit

section
variable {H : Type} {enc : TypeId × Value → H} {W : World} {r : Reach} {base : Nat} {sp : Nat → Bool} {held : Bool}
theorem rd_4 {α : Type} {l : List α} (h : l.length = 4) : ∃ a b c d, l = [a, b, c, d] := by match l, h with | [a, b, c, d], _ => exact ⟨a, b, c, d, rfl⟩
/-! Read again behind the call. -/
end
end Go.Proofs.YtkjabiabeemfhaaGreatDoor
end
section
/- arguments opened: a job; calls of a run -/
namespace Go.Proofs.YtkjabiabeemfhaaGreatDoor
open Go.ChangeShapes Go.WideShapes Go.ChangeAt Go.RowKit

section
variable {H : Type} {enc : TypeId × Value → H} {W : World} {r : Reach} {base : Nat} {held : Bool}
theorem tolds_rd {fuel : Nat} {v : Value} {x : DataW H × List MemPlace} (h : DataW.trod enc Tryz.prog W 0 (fun _ => true) held fuel 23 [v] = some x) : ∃ ts, IsTolds W v ts ∧ ∀ y ∈ ts, y.ok :=
  rd_row (P := Tryz.prog) (e := 55) (sz := 6) (ok := Td.ok) (f := Td.cell) (by decide) Tryz.underlying23 (by kernel_rfl) (fun _ _ _ h' => told_of_trod h') h
set_option maxRecDepth 100000
theorem job_cells {n : Nat} {cs : List Value} {y : DataW H × List MemPlace} (h : DataW.trod enc Tryz.prog W 0 (fun _ => true) held n 25 cs = some y) :
    ∃ u1 a b u2 l1 l2, cs = [u1, .int .i64 a, .int .i64 b, u2] ∧ I64 a ∧ I64 b ∧ IsNodes W u1 l1 ∧ IsTolds W u2 l2 ∧ (∀ y ∈ l1, y.ok) ∧ ∀ y ∈ l2, y.ok := by
  obtain ⟨xs, m, _, _, hl, hlen, hf⟩ := DataW.trod_struct Tryz.underlying25 h
  have c0 : Tryz.prog.cellsOf 25 = 4 := by kernel_rfl
  have c1 : Tryz.prog.cellsOf 3 = 1 := by kernel_rfl
  have c2 : Tryz.prog.cellsOf 22 = 1 := by kernel_rfl
  have c3 : Tryz.prog.cellsOf 23 = 1 := by kernel_rfl
  have hlen : xs.length = 4 := hlen
  have f0 : DataW.trod enc Tryz.prog W 0 (fun _ => true) held m 22 ((cs.drop 0).take (Tryz.prog.cellsOf 22)) = xs[0]? := hf 0 _ rfl
  have f1 : DataW.trod enc Tryz.prog W 0 (fun _ => true) held m 3 ((cs.drop 1).take (Tryz.prog.cellsOf 3)) = xs[1]? := hf 1 _ rfl
  have f2 : DataW.trod enc Tryz.prog W 0 (fun _ => true) held m 3 ((cs.drop 2).take (Tryz.prog.cellsOf 3)) = xs[2]? := hf 2 _ rfl
  have f3 : DataW.trod enc Tryz.prog W 0 (fun _ => true) held m 23 ((cs.drop 3).take (Tryz.prog.cellsOf 23)) = xs[3]? := hf 3 _ rfl
  obtain ⟨y0, e0⟩ := rd_some (xs := xs) (i := 0) (by omega)
  obtain ⟨y1, e1⟩ := rd_some (xs := xs) (i := 1) (by omega)
  obtain ⟨y2, e2⟩ := rd_some (xs := xs) (i := 2) (by omega)
  obtain ⟨y3, e3⟩ := rd_some (xs := xs) (i := 3) (by omega)
  rw [c2, e0] at f0
  rw [c1, e1] at f1
  rw [c1, e2] at f2
  rw [c3, e3] at f3
  rw [c0] at hl
  obtain ⟨a, b, c, d, rfl⟩ := rd_4 hl
  clear hf hl h
  obtain ⟨p, hp, ip⟩ := rd_int Tryz.underlying3 f1
  obtain ⟨q, hq, iq⟩ := rd_int Tryz.underlying3 f2
  simp at hp hq
  subst hp hq
  obtain ⟨l1, g1, o1⟩ := nodes_rd (v := a) (by simpa using f0)
  obtain ⟨l2, g2, o2⟩ := tolds_rd (v := d) (by simpa using f3)
  exact ⟨a, p, q, d, l1, l2, rfl, ip, iq, g1, g2, o1, o2⟩
theorem job_of_trod {fuel : Nat} {v : Value} {x : DataW H × List MemPlace} (hk : Value.okWide Tryz.prog W r base 25 v) (h : DataW.trod enc Tryz.prog W 0 (fun _ => true) held fuel 25 v.cells.toList = some x) :
    ∃ u1 a b u2 l1 l2, v = .agg #[u1, .int .i64 a, .int .i64 b, u2] ∧ I64 a ∧ I64 b ∧ IsNodes W u1 l1 ∧ IsTolds W u2 l2 ∧ (∀ y ∈ l1, y.ok) ∧ ∀ y ∈ l2, y.ok := by
  obtain ⟨s, rfl, -, -⟩ : ∃ cs, v = .agg cs ∧ cs.size = Tryz.prog.cellsOf 25 ∧ Row.okWide Tryz.prog W r base 25 cs := by simpa only [Value.okWide, Tryz.underlying25] using hk
  obtain ⟨u1, a, b, u2, l1, l2, he, i1, i2, g1, g2, o1, o2⟩ := job_cells h
  refine ⟨u1, a, b, u2, l1, l2, ?_, i1, i2, g1, g2, o1, o2⟩
  cases s with
  | mk s => simp [Value.cells] at he; rw [he]
end
end Go.Proofs.YtkjabiabeemfhaaGreatDoor
end
