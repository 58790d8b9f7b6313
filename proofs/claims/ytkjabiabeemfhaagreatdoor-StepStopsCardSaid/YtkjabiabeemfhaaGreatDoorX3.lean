/- StepStops: its walk (printed by gen_stops.py) -/
import Derived.Test.YtkjabiabeemfhaaGreatDoorX2
import Derived.Test.YtkjabiabeemfhaaGreatDoorW30
import Derived.Test.YtkjabiabeemfhaaGreatDoorX1
import Derived.Test.YtkjabiabeemfhaaGreatDoorW29
import Derived.Test.YtkjabiabeemfhaaGreatDoorW16
import Derived.Test.YtkjabiabeemfhaaGreatDoorW13
import Derived.Test.YtkjabiabeemfhaaGreatDoorW12
import Derived.Test.YtkjabiabeemfhaaGreatDoorW11
import Derived.WalkMore
import Derived.Test.YtkjabiabeemfhaaGreatDoorW3
import Derived.Test.YtkjabiabeemfhaaGreatDoorW2
import Derived.Test.YtkjabiabeemfhaaGreatDoorRows
import Derived.Test.YtkjabiabeemfhaaGreatDoorW1
import Derived.Shelf.Small.Bits
import Derived.Shelf.Small.Wraps
import Derived.Shelf.Strconv.Itoa0
import Derived.Shelf.Bits.Mul64
import Derived.Ground.Names2Prog
import Derived.Shelf.Slices.Clone
import Derived.Shelf.Slices.SearchI
import Derived.Ground.SlgnProg
import Derived.Shelf.SlicesE.Clone
import Derived.Shelf.SlLaysF0
import Derived.Ground.SlsfProg
import Derived.Test.YtkjabiabeemfhaaGreatDoorProg
import Derived.WalkKit
import Derived.Lib.BitFns
import Derived.Lib.ItoaNum
import Derived.WalkSpells
import Derived.WalkSmall
import Derived.WalkLawsBesides
import Derived.BigQuiet
import Derived.Deep.RegionHeld3
import Derived.Deep.DeepCutAuto
import Derived.Deep.CutBlock
import Derived.Lib.Hide
import Derived.Deep.Quiet
import Derived.Below
import Derived.OrdersHeld
import Derived.Shelf.Spec.BitsCarry
import Derived.Laws.AppendOwnNone
import Derived.OwnWalk
import Derived.Great.BuildSlice
import Derived.Test.YtkjabiabeemfhaaGreatDoorW14
import Derived.ArgAppend
import Derived.Test.YtkjabiabeemfhaaGreatDoorW31
import Derived.Test.YtkjabiabeemfhaaGreatDoorW18
import Derived.Test.YtkjabiabeemfhaaGreatDoorW10
import Derived.Test.YtkjabiabeemfhaaGreatDoorW9
import Derived.Test.YtkjabiabeemfhaaGreatDoorW8
import Derived.RangeFuncNested
import Derived.RangeFuncBound
import Derived.RangeFuncCalls
import Derived.RangeFuncLeaves
import Derived.Shelf.Abstract
import Derived.Shelf.RegionOpen
import Derived.OwnWalkIn
import Derived.TacticsInMore
import Derived.LoopNIn
import Derived.LoopIn
import Derived.Test.YtkjabiabeemfhaaGreatDoorW4
import Derived.Test.YtkjabiabeemfhaaGreatDoorW7
import Derived.Test.YtkjabiabeemfhaaGreatDoorW5
import Derived.Test.YtkjabiabeemfhaaGreatDoorW6
import Derived.Deep.LoopGhost
import Derived.Shelf.Spec.SlicesGrow
import Derived.Ground.Names8Prog
import Derived.Test.YtkjabiabeemfhaaGreatDoorW32
set_option linter.all false
set_option linter.all false
section
namespace Go.Proofs.YtkjabiabeemfhaaGreatDoor
open Go.RowKit Go.Sort
set_option maxRecDepth 20000 in
set_option maxHeartbeats 1600000 in
theorem sts_far (ts : List Nd) (l : List Td) (is : List Int) (v u vi : Value) (day tod : Int) (w : World) (lok : ∀ x ∈ l, x.ok) (hS : Shapes w) (hN : IsNodes w v ts) (hT : IsTolds w u l) (hI : IsIntR w vi is) (h : ¬ (ts.length ≤ 100 ∧ l.length ≤ 60 ∧ is.length ≤ 20)) :
    Calls Tryz.prog 11 #[.agg #[v, .int .i64 day, .int .i64 tod, u], vi] w fun e w' => e = .returned (.bool true) ∧ Later w w' := by
  have HAW := Lib.hid (fun W (hl : Later w W) => sawake_any W (hS.later hl))
  have HM := Lib.hid (fun W (hl : Later w W) => made_big l (row_len hT) lok u W (hT.later hl))
  have HFW := Lib.hid (fun W (hl : Later w W) => lfew_any ts l v u day tod W (hN.later hl) (hT.later hl))
  obtain ⟨F, hF⟩ : ∃ F, (decide (ts.length ≤ 100) && decide (l.length ≤ 60)) = F := ⟨_, rfl⟩
  rw [hF] at HFW
  obtain ⟨p2, c2, rfl⟩ := hI.form
  have hcase : F = false ∨ (F = true ∧ 20 < (is.length : Int)) := by
    cases F with
    | false => exact .inl rfl
    | true =>
      simp only [Bool.and_eq_true, decide_eq_true_eq] at hF
      exact .inr ⟨rfl, by omega⟩
  clear hF h hS hN hT hI lok
  generalize is.length = M at *
  rcases hcase with rfl | ⟨rfl, h1⟩
  all_goals
    go_enter Tryz.func11, Tryz.ntmps11
    go_upto_region 1 with (fail)
    refine wp_opaque (fun w0 hb0 => ?_)
    have hO0 := Own.one hb0
    have hl0 := hb0.un1
    obtain ⟨z0, d0, -⟩ := own_get hO0
    clear hb0
    go_wp2_with (first
      | (go_at_call 15; go_must (refine (HM.out _ hl0).mono ?_; rintro e w1 ⟨p, m1, m2, rfl, hF1, ge1, ge2, hb1⟩; have hl1 : Later w w1 := hl0.trans hb1; clear hF1 d0 z0; obtain ⟨z0, d0, -⟩ := own_get (hO0.later hb1)))
      | (go_at_call 16; go_must (refine (HFW.out _ hl1).mono ?_; rintro e w2 ⟨rfl, hb2⟩; have hl2 := hl1.trans hb2; clear d0 z0; obtain ⟨z0, d0, -⟩ := own_get (hO0.later (hb1.trans hb2))))
      | (go_at_call 34; go_must (refine (HAW.out _ hl2).mono ?_; rintro e w3 ⟨rfl, hb3⟩)))
    go_ret
    exact ⟨rfl, hl2.trans hb3⟩
structure StsInv (wr : World) (ts : List Nd) (T : Tm) (day tod : Int) (rb sb : Nat) (tvr lr wvr tvs ls wvs : Value) (rs : RunS) (F : List Fl) (av : Value) (p m1 m2 : Nat) (fx : FxL) (ch : ChL) (j M : Nat) : Prop where
  r : RunAt wr rb ts tvr lr wvr rs
  s : RunAt wr sb ts tvs ls wvs (newR T day)
  f : FactsAt wr p m1 m2 fx ch
  i : StopI (envT fx ch) ts T day tod rs F
  a : IsFlows wr av (F.foldl (insL ordF) [])
  ax : ∀ k, av.ownBlock = some k → k ≠ rb ∧ k ≠ sb
  fl : F.length ≤ 64 * j
  rx : ∀ k, RunB rb tvr lr wvr k → ¬ k = sb
  sx : ∀ k, RunB sb tvs ls wvs k → ¬ k = rb
  z : j = M + 1 → ∃ rs0 F0, StopI (envT fx ch) ts T day tod rs0 F0 ∧ (goR (envT fx ch) rs0 tod).1 ≠ 11 ∧ rs = (goR (envT fx ch) rs0 tod).2.2 ∧ F = F0 ++ (goR (envT fx ch) rs0 tod).2.1
set_option maxRecDepth 20000 in
set_option maxHeartbeats 12800000 in
theorem sts_near (ts : List Nd) (l : List Td) (is : List Int) (v u vi : Value) (day tod : Int) (w : World) (hok : ∀ x ∈ ts, x.ok) (lok : ∀ x ∈ l, x.ok) (hS : Shapes w) (hN : IsNodes w v ts) (hT : IsTolds w u l) (hI : IsIntR w vi is) (h1 : ts.length ≤ 100) (h2 : l.length ≤ 60) (h3 : is.length ≤ 20) :
    Calls Tryz.prog 11 #[.agg #[v, .int .i64 day, .int .i64 tod, u], vi] w fun e w' => e = .returned (.bool true) ∧ Later w w' := by
  have HAW := Lib.hid (fun W (hl : Later w W) => sawake_any W (hS.later hl))
  have HM := Lib.hid (fun W (hl : Later w W) => made_any l (by omega) lok u W (hT.later hl))
  have HFW := Lib.hid (fun W (hl : Later w W) => lfew_any ts l v u day tod W (hN.later hl) (hT.later hl))
  rw [decide_eq_true h1, decide_eq_true h2, Bool.true_and] at HFW
  have hfc := fcOk_made l lok
  have HFC : Hid (FcOk (madeFx l, madeCh l) 60) := Lib.hid ⟨hfc.1, hfc.2, hfc.3, hfc.4, Nat.le_trans hfc.5 h2⟩
  have HSH := Lib.hid (fun W (hl : Later w W) => hS.later hl)
  have HOK := Lib.hid hok
  have HI := Lib.hid hI
  have HRN := Lib.hid (fun (h : newE ts day ≠ 0) W (hl : Later w W) => rnew_no ts (by omega) hok v day W (hS.later hl) (hN.later hl) h)
  have HRY := Lib.hid (fun (h : newE ts day = 0) T (hG : Good ts T) (hm : makesI T.root.op = 2) W (hl : Later w W) => rnew_yes ts hok v day W (hS.later hl) (hN.later hl) h hG hm)
  obtain ⟨E1, hE1⟩ : ∃ x, newE ts day = x := ⟨_, rfl⟩
  have HDY := Lib.hid (fun h => newE_zero (ts := ts) (day := day) h)
  rw [hE1] at HRN HRY HDY
  obtain ⟨pv, cv, rfl⟩ := hN.form
  obtain ⟨pu, cu, rfl⟩ := hT.form
  obtain ⟨pi, ci, rfl⟩ := hI.form
  obtain ⟨M, hM⟩ : ∃ x, is.length = x := ⟨_, rfl⟩
  have HML := Lib.hid hM
  rw [hM] at HI h3
  rw [hM]
  have n2 : ¬ (20 : Int) < (M : Int) := by omega
  clear hS hN hT hI hok lok hE1 hM hfc h1 h2
  generalize madeFx l = FX at *
  generalize madeCh l = CH at *
  generalize ts.length = L at *
  generalize l.length = M0 at *
  go_enter Tryz.func11, Tryz.ntmps11
  go_upto_region 1 with (fail)
  refine wp_opaque (fun w0 hb0 => ?_)
  have hO0 := Own.one hb0
  have hl0 := hb0.un1
  obtain ⟨z0, d0, -⟩ := own_get hO0
  clear hb0
  go_upto_region 4 with (first
    | (go_at_call 15; go_must (refine (HM.out _ hl0).mono ?_; rintro e w1 ⟨p, m1, m2, rfl, hF1, ge1, ge2, hb1⟩; have hl1 : Later w w1 := hl0.trans hb1; clear d0 z0; obtain ⟨z0, d0, -⟩ := own_get (hO0.later hb1)))
    | (go_at_call 16; go_must (refine (HFW.out _ hl1).mono ?_; rintro e w2 ⟨rfl, hb2⟩; have hl2 := hl1.trans hb2; clear d0 z0; obtain ⟨z0, d0, -⟩ := own_get (hO0.later (hb1.trans hb2)))))
  have HO2 := Lib.hid (hO0.later (hb1.trans hb2))
  have HF2 := Lib.hid (hF1.later hb2)
  clear hb1 hb2 hF1 hl1 HM HFW ge1 ge2 hO0 hl0
  by_cases k1 : E1 = 0
  · subst k1
    obtain ⟨hct, hd0, hd1⟩ := HDY.out rfl
    obtain ⟨T, hG, hm⟩ := ct_good hct
    have HRY2 := Lib.hid (fun W (hl : Later w W) => HRY.out rfl T hG hm W hl)
    have HGD := Lib.hid (show Good ts T ∧ makesI T.root.op = 2 ∧ 0 ≤ day ∧ day ≤ 73048 from ⟨hG, hm, hd0, hd1⟩)
    clear HRN HRY HDY hG hm hd0 hd1 hct
    go_upto_region 5 with (go_at_call 35; go_must (refine (HRY2.out _ hl2).mono ?_; rintro e w3 ⟨rb, tvr, lr, wvr, rfl, hr3, hz3, hb3⟩; clear d0 z0; obtain ⟨z0, d0, -⟩ := own_get (HO2.out.later hb3)))
    have HR3 := Lib.hid hr3
    have HZ3 := Lib.hid hz3
    have hl3 := hl2.trans hb3
    clear hr3 hz3
    go_upto_region 6 with (go_at_call 35; go_must (refine (HRY2.out _ hl3).mono ?_; rintro e w4 ⟨sb, tvs, ls, wvs, rfl, hs4, hz4, hb4⟩; clear d0 z0; obtain ⟨z0, d0, -⟩ := own_get ((HO2.out.later hb3).later hb4)))
    have hl4 := hl3.trans hb4
    have hrb : w.heap.size ≤ rb := by have := (HZ3.out rb (.inl rfl)).1; have := hl2.size; omega
    have hsb : w.heap.size ≤ sb := by have := (hz4 sb (.inl rfl)).1; have := hl3.size; omega
    have hO4 : Hid (Own w4 [(w.heap.size, #[.slice pv L cv, .int .i64 day, .int .i64 tod, .slice pu M0 cu])] ∧ ¬ w.heap.size = rb ∧ ¬ w.heap.size = sb) := Lib.hid ⟨(HO2.out.later hb3).later hb4, by
      have := (HZ3.out rb (.inl rfl)).1
      have := (own_get HO2.out).1
      omega, by
      have := (hz4 sb (.inl rfl)).1
      have := (own_get (HO2.out.later hb3)).1
      omega⟩
    have HINV : Hid (StsInv w4 ts T day tod rb sb tvr lr wvr tvs ls wvs (newR T day) [] (.slice none 0 0) p m1 m2 FX CH 0 M) := Lib.hid ⟨HR3.out.later hb4, hs4, (HF2.out.later hb3).later hb4, StopI.new HGD.out.1 HGD.out.2.1 HGD.out.2.2.1 HGD.out.2.2.2, .inl ⟨⟨none, rfl⟩, rfl⟩, fun k hk => by simp [Value.ownBlock] at hk, by simp, fun k hk e => by
      have h1 := (HZ3.out k hk).2
      have := (hz4 sb (.inl rfl)).1
      omega, fun k hk e => by
      have h1 := (hz4 k hk).1
      have := HR3.out.own.1.1
      omega, fun h => by omega⟩
    clear HR3 HZ3 hs4 hz4 HO2 HF2 hl3 hb3 hb4 hl2 HRY2 d0 z0
    obtain ⟨B, hB⟩ : ∃ x, w.heap.size = x := ⟨_, rfl⟩
    rw [hB] at hO4 hrb hsb ⊢
    have HB := Lib.hid hB
    clear hB
    go_upto_region 10 with (fail)
    go_loopw [10, 11] (fun s10 s11 wr => ∃ (j : Nat) (av : Value), av = s10 ∧ j ≤ M + 1 ∧ s11 = .int .i64 j ∧ Later w wr ∧ Hid (Own wr [(B, #[.slice pv L cv, .int .i64 day, .int .i64 tod, .slice pu M0 cu])]) ∧ ∃ (lr' wvr' : Value) (rs : RunS) (F : List Fl), Hid (StsInv wr ts T day tod rb sb tvr lr' wvr' tvs ls wvs rs F av p m1 m2 FX CH j M)) (fun _ s11 _ => M + 1 - (intOf s11).toNat)
    case atStart => exact ⟨0, _, rfl, Nat.zero_le _, rfl, hl4, Lib.hid hO4.out.1, _, _, _, _, HINV⟩
    case round =>
      obtain ⟨j, av, rfl, hj, rfl, hlr, HOW, lr', wvr', rs, F, HV⟩ := hrel
      clear HINV hl4
      obtain ⟨z0, d0, -⟩ := own_get HOW.out
      have e2 : wr.cell? ⟨B, 2, none⟩ = some (.int .i64 tod) := d0 2
      clear d0
      by_cases hlt : j ≤ M
      · have hltI : (j : Int) ≤ (M : Int) := by omega
        by_cases hlm : j < M
        · have hlmI : (j : Int) < (M : Int) := by omega
          obtain ⟨ob, oo, oc, hv, hob, g⟩ := (HI.out.later hlr).full (i := j) (by rw [HML.out]; exact hlm)
          rw [HML.out] at hv
          cases hv
          obtain ⟨x, hx⟩ : ∃ x, is[j]'(by rw [HML.out]; exact hlm) = x := ⟨_, rfl⟩
          replace g := g 0 (by decide)
          rw [hx, Nat.mul_one, Nat.add_zero] at g
          unfold intCell at g
          clear hx
          by_cases hto : x ≤ tod
          · have hto2 : ¬ tod < x := by omega
            go_upto_region 16 with (fail)
            have HGR := Lib.hid (fun W (hl : Later wr W) => (rgo_facts HGD.out.1 HOK.out (HSH.out W (hlr.trans hl)) HFC.out (by decide) (HV.out.f.later hl) (HV.out.r.later hl) HV.out.i.fit.ok HV.out.i.fit.sz x).mono (fun e w' h => GoEnd.rows (X := fun k => k = sb) h HV.out.rx (fun k hk => by rw [hk]; exact (HV.out.s.later hl).own.1.1)))
            have HOV := Lib.hid (rover_any HV.out.r)
            obtain ⟨OV, hOV⟩ : ∃ y, decide (rs.L = []) = y := ⟨_, rfl⟩
            rw [hOV] at HOV
            have hov := over_none (envT FX CH) rs x
            have hgo := HV.out.i.go (tod := x) HGD.out.1 HOK.out HFC.out.env (hto)
            have hfe := (goR_few (env := envT FX CH) x HV.out.i.fit.sz HV.out.i.fit.wl).1
            have HLAST : Hid ((goR (envT FX CH) rs x).1 ≠ 11 → True) := Lib.hid (fun _ => trivial)
            obtain ⟨⟨C, A0, rs'⟩, hgr⟩ : ∃ gg, goR (envT FX CH) rs x = gg := ⟨_, rfl⟩
            rw [hgr] at HGR hov hgo hfe HLAST
            simp only at HGR hov hgo hfe HLAST
            obtain ⟨NA, hNA⟩ : ∃ n, A0.length = n := ⟨_, rfl⟩
            have HNA := Lib.hid hNA
            have HGO := Lib.hid hgo
            have hover : OV = true → NA = 0 := fun h => by
              rw [← hOV] at h
              rw [← hNA, hov (of_decide_eq_true h)]
              rfl
            rw [hNA] at hfe
            have HOVER := Lib.hid hover
            clear hov hgo hgr hNA hOV hover
            go_upto_region 17 with (go_at_call 41; go_must (refine HOV.out.mono ?_; rintro e w5 ⟨rfl, hb5⟩; replace e2 := (bcell hb5).1 _ 2 z0 |>.trans e2; have z5 := Nat.lt_of_lt_of_le z0 hb5.size))
            go_upto_region 18 with (go_at_call 38; go_must (refine (HGR.out _ hb5).mono ?_; rintro e w6 ⟨fa, la6, wa6, rfl, hf6, hfz6, hr6, hrx6, hl6⟩; obtain ⟨qa, ca, rfl⟩ := hf6.form; rw [HNA.out] at hf6 hfz6 ⊢))
            have HFA6 := Lib.hid hf6
            have HR6 := Lib.hid hr6
            have HRX6 := Lib.hid hrx6
            have HS6 := Lib.hid ((HV.out.s.later hb5).lat hl6 (fun k hk => HV.out.sx k hk))
            have HF6 := Lib.hid ((HV.out.f.later hb5).lat (HV.out.r.later hb5) hl6)
            have HA6 := Lib.hid (row_lat (HV.out.a.later hb5) hl6 (fun k hk => (HV.out.ax k hk).1))
            have HOW6 : Hid (Own w6 [(B, #[.slice pv L cv, .int .i64 day, .int .i64 tod, .slice pu M0 cu])]) := Lib.hid (by
              obtain ⟨⟨z, c, f⟩, -⟩ := HOW.out.later hb5
              have hne : ¬ B = rb := hO4.out.2.1
              exact Own.cons (Nat.lt_of_lt_of_le z hl6.size) (fun i => (hl6.cell (p := ⟨B, i, none⟩) z hne).trans (c i)) (fun i hi => (hl6.frozen (p := ⟨B, i, none⟩) z hne).trans (f i hi)) trivial)
            have hlw6 : Later w w6 := lat_one (hlr.trans hb5) hl6 (by rw [HB.out]; exact hrb)
            have hrs6 : rb < w6.heap.size ∧ sb < w6.heap.size := ⟨hr6.own.1.1, HS6.out.own.1.1⟩
            have hcond : (OV = false) ∨ (OV = true ∧ NA = 0) := by
              cases OV with
              | false => exact .inl rfl
              | true => exact .inr ⟨rfl, HOVER.out rfl⟩
            clear hf6 hfz6 hr6 hrx6 hl6 HGR HOV e2 z5 hb5 HOVER z0 HOW
            have hstep : ∀ (P : Prop), (OV = false → P) → (OV = true → NA = 0 → P) → P := fun P a b => hcond.elim a (fun h => b h.1 h.2)
            by_cases hC : C = 11
            · subst hC
              rcases hcond with rfl | ⟨rfl, rfl⟩
              all_goals
                go_wp2_with (go_at_call 34; go_must (refine (HAW.out _ hlw6).mono ?_; rintro e w7 ⟨rfl, hb7⟩))
                go_ret
                exact ⟨rfl, hlw6.trans hb7⟩
            · have hc1 : (C == 11) = false := by simpa using hC
              have HST := Lib.hid (HGO.out hC)
              have HZ1 := Lib.hid (HLAST.out hC)
              clear HGO HLAST hC hstep
              obtain ⟨L0, hL0⟩ : ∃ x, F.foldl (insL ordF) [] = x := ⟨_, rfl⟩
              have HL0 := Lib.hid hL0
              rw [hL0] at HA6
              have hL0l : L0.length ≤ 2000 := by rw [← hL0, puts_len]; have := HV.out.fl; omega
              obtain ⟨pa, cpa, hpa⟩ := HA6.out.form
              obtain ⟨NL, hNL⟩ : ∃ x, L0.length = x := ⟨_, rfl⟩
              rw [hNL] at hpa hL0l
              have HNL := Lib.hid hNL
              have HAX := Lib.hid HV.out.ax
              subst hpa
              clear hL0 hNL
              rcases hcond with rfl | ⟨rfl, rfl⟩
              · go_upto_region 23 with (fail)
                go_loopw [10, 16] (fun s10 s16 wx => ∃ (q : Nat) (av2 : Value), av2 = s10 ∧ q ≤ NA ∧ s16 = .int .i64 q ∧ Hid (IsFlows wx av2 ((A0.take q).foldl (insL ordF) L0)) ∧ Hid (∀ k, av2.ownBlock = some k → k ≠ rb ∧ k ≠ sb) ∧ Later w6 wx) (fun _ s16 _ => NA - (intOf s16).toNat)
                case atStart => exact ⟨0, _, rfl, Nat.zero_le _, rfl, HA6, HAX, Later.refl _⟩
                case round =>
                  obtain ⟨q, av2, rfl, hq, rfl, HRW, HAV, hlat⟩ := hrel
                  obtain ⟨wx, hwx⟩ : ∃ x : World, x = wr := ⟨_, rfl⟩
                  subst hwx
                  obtain ⟨L8, hL8⟩ : ∃ X, (A0.take q).foldl (insL ordF) L0 = X := ⟨_, rfl⟩
                  have hlen8 : L8.length ≤ 3000 := by
                    rw [← hL8]
                    have hp : ∀ (a : List Fl) (b : List Fl), (a.foldl (insL ordF) b).length = b.length + a.length := by
                      intro a
                      induction a with
                      | nil => intro b; rfl
                      | cons x a ih => intro b; rw [List.foldl_cons, ih, insF_len]; simp only [List.length_cons]; omega
                    rw [hp, List.length_take, HNL.out]
                    omega
                  rw [hL8] at HRW
                  have HL8 := Lib.hid hL8
                  have HR8 := Lib.hid HRW.out
                  obtain ⟨p8, c8, rfl⟩ := HRW.out.form
                  obtain ⟨n8, hn8⟩ : ∃ n, L8.length = n := ⟨_, rfl⟩
                  rw [hn8] at HR8 HAV hlen8 ⊢
                  have HN8 := Lib.hid hn8
                  clear hL8 hn8 HRW
                  by_cases hlq : q < NA
                  · have hlqI : (q : Int) < NA := by omega
                    have hql : q < A0.length := by rw [HNA.out]; exact hlq
                    obtain ⟨b1, o1, cc1, hv, hb1, g⟩ := (HFA6.out.later hlat).full (i := q) hql
                    rw [HNA.out] at hv
                    cases hv
                    have e0 := g 0 (by decide)
                    have e1 := g 1 (by decide)
                    have e2 := g 2 (by decide)
                    simp only [flF, Nat.add_zero] at e0 e1 e2
                    have HT : Hid ((A0.take (q + 1)).foldl (insL ordF) L0 = insL ordF L8 ⟨(A0[q]).day, (A0[q]).cur, (A0[q]).amt⟩) := Lib.hid (by rw [List.take_succ_eq_append_getElem hql, List.foldl_append, HL8.out]; rfl)
                    generalize (A0[q]).day = x0 at *
                    generalize (A0[q]).cur = x1 at *
                    generalize (A0[q]).amt = x2 at *
                    have HPT := Lib.hid (fun W (hl : Later wx W) => rput_any L8 ⟨x0, x1, x2⟩ _ W (HR8.out.later hl) (by rw [HN8.out]; omega))
                    clear g hql HL8
                    go_upto_region 25 with (fail)
                    go_wp2_with (go_at_call 33; go_must (refine (HPT.out _ (by repeat (first | with_reducible exact Later.refl _ | with_reducible assumption | with_reducible refine Later.ofdrew ?_ | with_reducible refine Later.ofdrewN ?_ | with_reducible refine Later.setCell ?_ ?_ _ | with_reducible refine Later.alloc ?_ _ | with_reducible refine Later.drewN ?_ _ | with_reducible refine Later.drew ?_ | (with_reducible refine Later.trans ?_ (by assumption)) | (simp only [World.size_setCell, World.size_alloc, World.heap_drewN]; omega) | (simp; done) | (simp; omega)))).mono ?_; rintro e wb ⟨v9, rfl, hown, hb9⟩; have hl9 : Later wx wb := by first | exact hb9 | exact ((Later.refl wx).drew).trans hb9))
                    go_roundw
                    case rel => exact ⟨q + 1, _, rfl, by omega, by go_num, Lib.hid (by rw [HT.out]; exact (owns_flows hown).1), Lib.hid (fun k hk => by have h1 := (hown.lt k hk).1; have h2 := hlat.size; omega), hlat.trans hl9⟩
                    case measure => first | (simp [intOf]; omega) | simp [intOf]
                  · have hlt2 : ¬ (q : Int) < NA := by omega
                    have hA8 : L8 = (F ++ A0).foldl (insL ordF) [] := by
                      rw [← HL8.out, List.take_of_length_le (by rw [HNA.out]; omega), List.foldl_append, HL0.out]
                    go_wp2_with fail
                    go_roundw
                    case rel => exact ⟨j + 1, _, rfl, by omega, by go_num, hlw6.trans hlat, Lib.hid (HOW6.out.later hlat), _, _, rs', F ++ A0, Lib.hid ⟨HR6.out.later hlat, HS6.out.later hlat, HF6.out.later hlat, HST.out, by rw [← hA8]; exact HR8.out, HAV.out, by rw [List.length_append, HNA.out]; have := HV.out.fl; omega, HRX6.out, HV.out.sx, fun h => by omega⟩⟩
                    case measure => first | (simp [intOf]; omega) | simp [intOf]
              · go_upto_region 23 with (fail)
                go_loopw [10, 16] (fun s10 s16 wx => ∃ (q : Nat) (av2 : Value), av2 = s10 ∧ q ≤ 0 ∧ s16 = .int .i64 q ∧ Hid (IsFlows wx av2 ((A0.take q).foldl (insL ordF) L0)) ∧ Hid (∀ k, av2.ownBlock = some k → k ≠ rb ∧ k ≠ sb) ∧ Later w6 wx) (fun _ s16 _ => 0 - (intOf s16).toNat)
                case atStart => exact ⟨0, _, rfl, Nat.zero_le _, rfl, HA6, HAX, Later.refl _⟩
                case round =>
                  obtain ⟨q, av2, rfl, hq, rfl, HRW, HAV, hlat⟩ := hrel
                  obtain ⟨wx, hwx⟩ : ∃ x : World, x = wr := ⟨_, rfl⟩
                  subst hwx
                  obtain ⟨L8, hL8⟩ : ∃ X, (A0.take q).foldl (insL ordF) L0 = X := ⟨_, rfl⟩
                  have hlen8 : L8.length ≤ 3000 := by
                    rw [← hL8]
                    have hp : ∀ (a : List Fl) (b : List Fl), (a.foldl (insL ordF) b).length = b.length + a.length := by
                      intro a
                      induction a with
                      | nil => intro b; rfl
                      | cons x a ih => intro b; rw [List.foldl_cons, ih, insF_len]; simp only [List.length_cons]; omega
                    rw [hp, List.length_take, HNL.out]
                    omega
                  rw [hL8] at HRW
                  have HL8 := Lib.hid hL8
                  have HR8 := Lib.hid HRW.out
                  obtain ⟨p8, c8, rfl⟩ := HRW.out.form
                  obtain ⟨n8, hn8⟩ : ∃ n, L8.length = n := ⟨_, rfl⟩
                  rw [hn8] at HR8 HAV hlen8 ⊢
                  have HN8 := Lib.hid hn8
                  clear hL8 hn8 HRW
                  by_cases hlq : q < 0
                  · have hlqI : (q : Int) < 0 := by omega
                    have hql : q < A0.length := by rw [HNA.out]; exact hlq
                    obtain ⟨b1, o1, cc1, hv, hb1, g⟩ := (HFA6.out.later hlat).full (i := q) hql
                    rw [HNA.out] at hv
                    cases hv
                    have e0 := g 0 (by decide)
                    have e1 := g 1 (by decide)
                    have e2 := g 2 (by decide)
                    simp only [flF, Nat.add_zero] at e0 e1 e2
                    have HT : Hid ((A0.take (q + 1)).foldl (insL ordF) L0 = insL ordF L8 ⟨(A0[q]).day, (A0[q]).cur, (A0[q]).amt⟩) := Lib.hid (by rw [List.take_succ_eq_append_getElem hql, List.foldl_append, HL8.out]; rfl)
                    generalize (A0[q]).day = x0 at *
                    generalize (A0[q]).cur = x1 at *
                    generalize (A0[q]).amt = x2 at *
                    have HPT := Lib.hid (fun W (hl : Later wx W) => rput_any L8 ⟨x0, x1, x2⟩ _ W (HR8.out.later hl) (by rw [HN8.out]; omega))
                    clear g hql HL8
                    go_upto_region 25 with (fail)
                    go_wp2_with (go_at_call 33; go_must (refine (HPT.out _ (by repeat (first | with_reducible exact Later.refl _ | with_reducible assumption | with_reducible refine Later.ofdrew ?_ | with_reducible refine Later.ofdrewN ?_ | with_reducible refine Later.setCell ?_ ?_ _ | with_reducible refine Later.alloc ?_ _ | with_reducible refine Later.drewN ?_ _ | with_reducible refine Later.drew ?_ | (with_reducible refine Later.trans ?_ (by assumption)) | (simp only [World.size_setCell, World.size_alloc, World.heap_drewN]; omega) | (simp; done) | (simp; omega)))).mono ?_; rintro e wb ⟨v9, rfl, hown, hb9⟩; have hl9 : Later wx wb := by first | exact hb9 | exact ((Later.refl wx).drew).trans hb9))
                    go_roundw
                    case rel => exact ⟨q + 1, _, rfl, by omega, by go_num, Lib.hid (by rw [HT.out]; exact (owns_flows hown).1), Lib.hid (fun k hk => by have h1 := (hown.lt k hk).1; have h2 := hlat.size; omega), hlat.trans hl9⟩
                    case measure => first | (simp [intOf]; omega) | simp [intOf]
                  · have hlt2 : ¬ (q : Int) < 0 := by omega
                    have hA8 : L8 = (F ++ A0).foldl (insL ordF) [] := by
                      rw [← HL8.out, List.take_of_length_le (by rw [HNA.out]; omega), List.foldl_append, HL0.out]
                    go_wp2_with fail
                    go_roundw
                    case rel => exact ⟨j + 1, _, rfl, by omega, by go_num, hlw6.trans hlat, Lib.hid (HOW6.out.later hlat), _, _, rs', F ++ A0, Lib.hid ⟨HR6.out.later hlat, HS6.out.later hlat, HF6.out.later hlat, HST.out, by rw [← hA8]; exact HR8.out, HAV.out, by rw [List.length_append, HNA.out]; have := HV.out.fl; omega, HRX6.out, HV.out.sx, fun h => by omega⟩⟩
                    case measure => first | (simp [intOf]; omega) | simp [intOf]
          · have hto2 : tod < x := by omega
            go_wp2_with fail
            go_roundw
            case rel => exact ⟨j + 1, _, rfl, by omega, by go_num, hlr, HOW, _, _, rs, F, Lib.hid ⟨HV.out.r, HV.out.s, HV.out.f, HV.out.i, HV.out.a, HV.out.ax, by have := HV.out.fl; omega, HV.out.rx, HV.out.sx, fun h => by omega⟩⟩
            case measure => first | (simp [intOf]; omega) | simp [intOf]
        · have hlmI : ¬ (j : Int) < (M : Int) := by omega
          obtain rfl : j = M := by omega
          go_upto_region 16 with (fail)
          have HGR := Lib.hid (fun W (hl : Later wr W) => (rgo_facts HGD.out.1 HOK.out (HSH.out W (hlr.trans hl)) HFC.out (by decide) (HV.out.f.later hl) (HV.out.r.later hl) HV.out.i.fit.ok HV.out.i.fit.sz tod).mono (fun e w' h => GoEnd.rows (X := fun k => k = sb) h HV.out.rx (fun k hk => by rw [hk]; exact (HV.out.s.later hl).own.1.1)))
          have HOV := Lib.hid (rover_any HV.out.r)
          obtain ⟨OV, hOV⟩ : ∃ y, decide (rs.L = []) = y := ⟨_, rfl⟩
          rw [hOV] at HOV
          have hov := over_none (envT FX CH) rs tod
          have hgo := HV.out.i.go (tod := tod) HGD.out.1 HOK.out HFC.out.env (Int.le_refl _)
          have hfe := (goR_few (env := envT FX CH) tod HV.out.i.fit.sz HV.out.i.fit.wl).1
          have HLAST : Hid ((goR (envT FX CH) rs tod).1 ≠ 11 → ∃ rs0 F0, StopI (envT FX CH) ts T day tod rs0 F0 ∧ (goR (envT FX CH) rs0 tod).1 ≠ 11 ∧ (goR (envT FX CH) rs tod).2.2 = (goR (envT FX CH) rs0 tod).2.2 ∧ F ++ (goR (envT FX CH) rs tod).2.1 = F0 ++ (goR (envT FX CH) rs0 tod).2.1) := Lib.hid (fun h => ⟨rs, F, HV.out.i, h, rfl, rfl⟩)
          obtain ⟨⟨C, A0, rs'⟩, hgr⟩ : ∃ gg, goR (envT FX CH) rs tod = gg := ⟨_, rfl⟩
          rw [hgr] at HGR hov hgo hfe HLAST
          simp only at HGR hov hgo hfe HLAST
          obtain ⟨NA, hNA⟩ : ∃ n, A0.length = n := ⟨_, rfl⟩
          have HNA := Lib.hid hNA
          have HGO := Lib.hid hgo
          have hover : OV = true → NA = 0 := fun h => by
            rw [← hOV] at h
            rw [← hNA, hov (of_decide_eq_true h)]
            rfl
          rw [hNA] at hfe
          have HOVER := Lib.hid hover
          clear hov hgo hgr hNA hOV hover
          go_upto_region 17 with (go_at_call 41; go_must (refine HOV.out.mono ?_; rintro e w5 ⟨rfl, hb5⟩; replace e2 := (bcell hb5).1 _ 2 z0 |>.trans e2; have z5 := Nat.lt_of_lt_of_le z0 hb5.size))
          go_upto_region 18 with (go_at_call 38; go_must (refine (HGR.out _ hb5).mono ?_; rintro e w6 ⟨fa, la6, wa6, rfl, hf6, hfz6, hr6, hrx6, hl6⟩; obtain ⟨qa, ca, rfl⟩ := hf6.form; rw [HNA.out] at hf6 hfz6 ⊢))
          have HFA6 := Lib.hid hf6
          have HR6 := Lib.hid hr6
          have HRX6 := Lib.hid hrx6
          have HS6 := Lib.hid ((HV.out.s.later hb5).lat hl6 (fun k hk => HV.out.sx k hk))
          have HF6 := Lib.hid ((HV.out.f.later hb5).lat (HV.out.r.later hb5) hl6)
          have HA6 := Lib.hid (row_lat (HV.out.a.later hb5) hl6 (fun k hk => (HV.out.ax k hk).1))
          have HOW6 : Hid (Own w6 [(B, #[.slice pv L cv, .int .i64 day, .int .i64 tod, .slice pu M0 cu])]) := Lib.hid (by
            obtain ⟨⟨z, c, f⟩, -⟩ := HOW.out.later hb5
            have hne : ¬ B = rb := hO4.out.2.1
            exact Own.cons (Nat.lt_of_lt_of_le z hl6.size) (fun i => (hl6.cell (p := ⟨B, i, none⟩) z hne).trans (c i)) (fun i hi => (hl6.frozen (p := ⟨B, i, none⟩) z hne).trans (f i hi)) trivial)
          have hlw6 : Later w w6 := lat_one (hlr.trans hb5) hl6 (by rw [HB.out]; exact hrb)
          have hrs6 : rb < w6.heap.size ∧ sb < w6.heap.size := ⟨hr6.own.1.1, HS6.out.own.1.1⟩
          have hcond : (OV = false) ∨ (OV = true ∧ NA = 0) := by
            cases OV with
            | false => exact .inl rfl
            | true => exact .inr ⟨rfl, HOVER.out rfl⟩
          clear hf6 hfz6 hr6 hrx6 hl6 HGR HOV e2 z5 hb5 HOVER z0 HOW
          have hstep : ∀ (P : Prop), (OV = false → P) → (OV = true → NA = 0 → P) → P := fun P a b => hcond.elim a (fun h => b h.1 h.2)
          by_cases hC : C = 11
          · subst hC
            rcases hcond with rfl | ⟨rfl, rfl⟩
            all_goals
              go_wp2_with (go_at_call 34; go_must (refine (HAW.out _ hlw6).mono ?_; rintro e w7 ⟨rfl, hb7⟩))
              go_ret
              exact ⟨rfl, hlw6.trans hb7⟩
          · have hc1 : (C == 11) = false := by simpa using hC
            have HST := Lib.hid (HGO.out hC)
            have HZ1 := Lib.hid (HLAST.out hC)
            clear HGO HLAST hC hstep
            obtain ⟨L0, hL0⟩ : ∃ x, F.foldl (insL ordF) [] = x := ⟨_, rfl⟩
            have HL0 := Lib.hid hL0
            rw [hL0] at HA6
            have hL0l : L0.length ≤ 2000 := by rw [← hL0, puts_len]; have := HV.out.fl; omega
            obtain ⟨pa, cpa, hpa⟩ := HA6.out.form
            obtain ⟨NL, hNL⟩ : ∃ x, L0.length = x := ⟨_, rfl⟩
            rw [hNL] at hpa hL0l
            have HNL := Lib.hid hNL
            have HAX := Lib.hid HV.out.ax
            subst hpa
            clear hL0 hNL
            rcases hcond with rfl | ⟨rfl, rfl⟩
            · go_upto_region 23 with (fail)
              go_loopw [10, 16] (fun s10 s16 wx => ∃ (q : Nat) (av2 : Value), av2 = s10 ∧ q ≤ NA ∧ s16 = .int .i64 q ∧ Hid (IsFlows wx av2 ((A0.take q).foldl (insL ordF) L0)) ∧ Hid (∀ k, av2.ownBlock = some k → k ≠ rb ∧ k ≠ sb) ∧ Later w6 wx) (fun _ s16 _ => NA - (intOf s16).toNat)
              case atStart => exact ⟨0, _, rfl, Nat.zero_le _, rfl, HA6, HAX, Later.refl _⟩
              case round =>
                obtain ⟨q, av2, rfl, hq, rfl, HRW, HAV, hlat⟩ := hrel
                obtain ⟨wx, hwx⟩ : ∃ x : World, x = wr := ⟨_, rfl⟩
                subst hwx
                obtain ⟨L8, hL8⟩ : ∃ X, (A0.take q).foldl (insL ordF) L0 = X := ⟨_, rfl⟩
                have hlen8 : L8.length ≤ 3000 := by
                  rw [← hL8]
                  have hp : ∀ (a : List Fl) (b : List Fl), (a.foldl (insL ordF) b).length = b.length + a.length := by
                    intro a
                    induction a with
                    | nil => intro b; rfl
                    | cons x a ih => intro b; rw [List.foldl_cons, ih, insF_len]; simp only [List.length_cons]; omega
                  rw [hp, List.length_take, HNL.out]
                  omega
                rw [hL8] at HRW
                have HL8 := Lib.hid hL8
                have HR8 := Lib.hid HRW.out
                obtain ⟨p8, c8, rfl⟩ := HRW.out.form
                obtain ⟨n8, hn8⟩ : ∃ n, L8.length = n := ⟨_, rfl⟩
                rw [hn8] at HR8 HAV hlen8 ⊢
                have HN8 := Lib.hid hn8
                clear hL8 hn8 HRW
                by_cases hlq : q < NA
                · have hlqI : (q : Int) < NA := by omega
                  have hql : q < A0.length := by rw [HNA.out]; exact hlq
                  obtain ⟨b1, o1, cc1, hv, hb1, g⟩ := (HFA6.out.later hlat).full (i := q) hql
                  rw [HNA.out] at hv
                  cases hv
                  have e0 := g 0 (by decide)
                  have e1 := g 1 (by decide)
                  have e2 := g 2 (by decide)
                  simp only [flF, Nat.add_zero] at e0 e1 e2
                  have HT : Hid ((A0.take (q + 1)).foldl (insL ordF) L0 = insL ordF L8 ⟨(A0[q]).day, (A0[q]).cur, (A0[q]).amt⟩) := Lib.hid (by rw [List.take_succ_eq_append_getElem hql, List.foldl_append, HL8.out]; rfl)
                  generalize (A0[q]).day = x0 at *
                  generalize (A0[q]).cur = x1 at *
                  generalize (A0[q]).amt = x2 at *
                  have HPT := Lib.hid (fun W (hl : Later wx W) => rput_any L8 ⟨x0, x1, x2⟩ _ W (HR8.out.later hl) (by rw [HN8.out]; omega))
                  clear g hql HL8
                  go_upto_region 25 with (fail)
                  go_wp2_with (go_at_call 33; go_must (refine (HPT.out _ (by repeat (first | with_reducible exact Later.refl _ | with_reducible assumption | with_reducible refine Later.ofdrew ?_ | with_reducible refine Later.ofdrewN ?_ | with_reducible refine Later.setCell ?_ ?_ _ | with_reducible refine Later.alloc ?_ _ | with_reducible refine Later.drewN ?_ _ | with_reducible refine Later.drew ?_ | (with_reducible refine Later.trans ?_ (by assumption)) | (simp only [World.size_setCell, World.size_alloc, World.heap_drewN]; omega) | (simp; done) | (simp; omega)))).mono ?_; rintro e wb ⟨v9, rfl, hown, hb9⟩; have hl9 : Later wx wb := by first | exact hb9 | exact ((Later.refl wx).drew).trans hb9))
                  go_roundw
                  case rel => exact ⟨q + 1, _, rfl, by omega, by go_num, Lib.hid (by rw [HT.out]; exact (owns_flows hown).1), Lib.hid (fun k hk => by have h1 := (hown.lt k hk).1; have h2 := hlat.size; omega), hlat.trans hl9⟩
                  case measure => first | (simp [intOf]; omega) | simp [intOf]
                · have hlt2 : ¬ (q : Int) < NA := by omega
                  have hA8 : L8 = (F ++ A0).foldl (insL ordF) [] := by
                    rw [← HL8.out, List.take_of_length_le (by rw [HNA.out]; omega), List.foldl_append, HL0.out]
                  go_wp2_with fail
                  go_roundw
                  case rel => exact ⟨j + 1, _, rfl, by omega, by go_num, hlw6.trans hlat, Lib.hid (HOW6.out.later hlat), _, _, rs', F ++ A0, Lib.hid ⟨HR6.out.later hlat, HS6.out.later hlat, HF6.out.later hlat, HST.out, by rw [← hA8]; exact HR8.out, HAV.out, by rw [List.length_append, HNA.out]; have := HV.out.fl; omega, HRX6.out, HV.out.sx, fun h => by exact HZ1.out⟩⟩
                  case measure => first | (simp [intOf]; omega) | simp [intOf]
            · go_upto_region 23 with (fail)
              go_loopw [10, 16] (fun s10 s16 wx => ∃ (q : Nat) (av2 : Value), av2 = s10 ∧ q ≤ 0 ∧ s16 = .int .i64 q ∧ Hid (IsFlows wx av2 ((A0.take q).foldl (insL ordF) L0)) ∧ Hid (∀ k, av2.ownBlock = some k → k ≠ rb ∧ k ≠ sb) ∧ Later w6 wx) (fun _ s16 _ => 0 - (intOf s16).toNat)
              case atStart => exact ⟨0, _, rfl, Nat.zero_le _, rfl, HA6, HAX, Later.refl _⟩
              case round =>
                obtain ⟨q, av2, rfl, hq, rfl, HRW, HAV, hlat⟩ := hrel
                obtain ⟨wx, hwx⟩ : ∃ x : World, x = wr := ⟨_, rfl⟩
                subst hwx
                obtain ⟨L8, hL8⟩ : ∃ X, (A0.take q).foldl (insL ordF) L0 = X := ⟨_, rfl⟩
                have hlen8 : L8.length ≤ 3000 := by
                  rw [← hL8]
                  have hp : ∀ (a : List Fl) (b : List Fl), (a.foldl (insL ordF) b).length = b.length + a.length := by
                    intro a
                    induction a with
                    | nil => intro b; rfl
                    | cons x a ih => intro b; rw [List.foldl_cons, ih, insF_len]; simp only [List.length_cons]; omega
                  rw [hp, List.length_take, HNL.out]
                  omega
                rw [hL8] at HRW
                have HL8 := Lib.hid hL8
                have HR8 := Lib.hid HRW.out
                obtain ⟨p8, c8, rfl⟩ := HRW.out.form
                obtain ⟨n8, hn8⟩ : ∃ n, L8.length = n := ⟨_, rfl⟩
                rw [hn8] at HR8 HAV hlen8 ⊢
                have HN8 := Lib.hid hn8
                clear hL8 hn8 HRW
                by_cases hlq : q < 0
                · have hlqI : (q : Int) < 0 := by omega
                  have hql : q < A0.length := by rw [HNA.out]; exact hlq
                  obtain ⟨b1, o1, cc1, hv, hb1, g⟩ := (HFA6.out.later hlat).full (i := q) hql
                  rw [HNA.out] at hv
                  cases hv
                  have e0 := g 0 (by decide)
                  have e1 := g 1 (by decide)
                  have e2 := g 2 (by decide)
                  simp only [flF, Nat.add_zero] at e0 e1 e2
                  have HT : Hid ((A0.take (q + 1)).foldl (insL ordF) L0 = insL ordF L8 ⟨(A0[q]).day, (A0[q]).cur, (A0[q]).amt⟩) := Lib.hid (by rw [List.take_succ_eq_append_getElem hql, List.foldl_append, HL8.out]; rfl)
                  generalize (A0[q]).day = x0 at *
                  generalize (A0[q]).cur = x1 at *
                  generalize (A0[q]).amt = x2 at *
                  have HPT := Lib.hid (fun W (hl : Later wx W) => rput_any L8 ⟨x0, x1, x2⟩ _ W (HR8.out.later hl) (by rw [HN8.out]; omega))
                  clear g hql HL8
                  go_upto_region 25 with (fail)
                  go_wp2_with (go_at_call 33; go_must (refine (HPT.out _ (by repeat (first | with_reducible exact Later.refl _ | with_reducible assumption | with_reducible refine Later.ofdrew ?_ | with_reducible refine Later.ofdrewN ?_ | with_reducible refine Later.setCell ?_ ?_ _ | with_reducible refine Later.alloc ?_ _ | with_reducible refine Later.drewN ?_ _ | with_reducible refine Later.drew ?_ | (with_reducible refine Later.trans ?_ (by assumption)) | (simp only [World.size_setCell, World.size_alloc, World.heap_drewN]; omega) | (simp; done) | (simp; omega)))).mono ?_; rintro e wb ⟨v9, rfl, hown, hb9⟩; have hl9 : Later wx wb := by first | exact hb9 | exact ((Later.refl wx).drew).trans hb9))
                  go_roundw
                  case rel => exact ⟨q + 1, _, rfl, by omega, by go_num, Lib.hid (by rw [HT.out]; exact (owns_flows hown).1), Lib.hid (fun k hk => by have h1 := (hown.lt k hk).1; have h2 := hlat.size; omega), hlat.trans hl9⟩
                  case measure => first | (simp [intOf]; omega) | simp [intOf]
                · have hlt2 : ¬ (q : Int) < 0 := by omega
                  have hA8 : L8 = (F ++ A0).foldl (insL ordF) [] := by
                    rw [← HL8.out, List.take_of_length_le (by rw [HNA.out]; omega), List.foldl_append, HL0.out]
                  go_wp2_with fail
                  go_roundw
                  case rel => exact ⟨j + 1, _, rfl, by omega, by go_num, hlw6.trans hlat, Lib.hid (HOW6.out.later hlat), _, _, rs', F ++ A0, Lib.hid ⟨HR6.out.later hlat, HS6.out.later hlat, HF6.out.later hlat, HST.out, by rw [← hA8]; exact HR8.out, HAV.out, by rw [List.length_append, HNA.out]; have := HV.out.fl; omega, HRX6.out, HV.out.sx, fun h => by exact HZ1.out⟩⟩
                  case measure => first | (simp [intOf]; omega) | simp [intOf]
      · have hge : ¬ ((j : Int) ≤ (M : Int)) := by omega
        obtain ⟨rs0, F0, hI0, hc0, hrs, hF0⟩ := HV.out.z (by omega)
        have HEND := Lib.hid (stop_end HGD.out.1 HGD.out.2.1 HOK.out HFC.out.env HGD.out.2.2.1 HGD.out.2.2.2 hI0 hc0)
        rw [← hrs, ← hF0] at HEND
        have hfitS := (RunFit.new HGD.out.1 HGD.out.2.1 HGD.out.2.2.1 HGD.out.2.2.2 : RunFit ts (newR T day))
        have HGS := Lib.hid ((rgo_facts HGD.out.1 HOK.out (HSH.out wr hlr) HFC.out (by decide) HV.out.f HV.out.s hfitS.ok hfitS.sz tod).mono (fun e w' h => GoEnd.rows (X := fun k => k = rb) h HV.out.sx (fun k hk => by rw [hk]; exact HV.out.r.own.1.1)))
        have hfe := (goR_few (env := envT FX CH) tod hfitS.sz hfitS.wl)
        have HPN := Lib.hid (puts_nil F)
        clear hI0 hc0 hrs hF0 rs0 F0
        obtain ⟨⟨C, A1, ss'⟩, hgs⟩ : ∃ x, goR (envT FX CH) (newR T day) tod = x := ⟨_, rfl⟩
        rw [hgs] at HEND HGS hfe
        simp only at HEND HGS hfe
        clear hgs hfitS
        obtain ⟨NA, hNA⟩ : ∃ n, A1.length = n := ⟨_, rfl⟩
        have HNA := Lib.hid hNA
        rw [hNA] at hfe
        clear hNA
        obtain ⟨pa, cpa, hpa⟩ := HV.out.a.form
        obtain ⟨NL, hNL⟩ : ∃ x, (F.foldl (insL ordF) []).length = x := ⟨_, rfl⟩
        rw [hNL] at hpa
        have HNL := Lib.hid hNL
        have hav := HV.out.ax
        have HAV := Lib.hid (show IsFlows wr av (F.foldl (insL ordF) []) from HV.out.a)
        have HVV := Lib.hid (show RunAt wr rb ts tvr lr' wvr' rs ∧ (∀ k, RunB rb tvr lr' wvr' k → ¬ k = sb) ∧ StopI (envT FX CH) ts T day tod rs F ∧ F.length ≤ 64 * j from ⟨HV.out.r, HV.out.rx, HV.out.i, HV.out.fl⟩)
        have HAXX := Lib.hid hav
        clear HV hav hNL
        subst hpa
        rcases HEND.out with rfl | ⟨rfl, q1, q2, q3, q4⟩
        · go_wp2_with (first
            | (go_at_call 38; go_must (refine HGS.out.mono ?_; rintro e w5 ⟨fa, la5, wa5, rfl, hf5, hfz5, hr5, hrx5, hl5⟩; obtain ⟨qa, ca, rfl⟩ := hf5.form; have hlw5 : Later w w5 := lat_one hlr hl5 (by rw [HB.out]; exact hsb)))
            | (go_at_call 34; go_must (refine (HAW.out _ hlw5).mono ?_; rintro e w7 ⟨rfl, hb7⟩)))
          go_ret
          exact ⟨rfl, hlw5.trans hb7⟩
        · go_upto_region 27 with (go_at_call 38; go_must (refine HGS.out.mono ?_; rintro e w5 ⟨fa, la5, wa5, rfl, hf5, hfz5, hr5, hrx5, hl5⟩; obtain ⟨qa, ca, rfl⟩ := hf5.form; rw [HNA.out] at hf5 hfz5 ⊢))
          have hlw5 : Later w w5 := lat_one hlr hl5 (by rw [HB.out]; exact hsb)
          have HFA := Lib.hid (show IsFlows w5 (.slice qa NA ca) A1 from hf5)
          have HAV5 := Lib.hid (row_lat HAV.out hl5 (fun k hk => (HAXX.out k hk).2))
          rw [HPN.out, q2] at HAV5
          have HRX := Lib.hid (HVV.out.1.lat hl5 (fun k hk => HVV.out.2.1 k hk))
          have HSX := Lib.hid hr5
          have HFL := Lib.hid (fun W (hl : Later w5 W) => lflows_any A1 A1 _ _ W (HAV5.out.later hl) (HFA.out.later hl) (by rw [HNA.out]; omega))
          rw [show decide (A1 = A1) = true by simp] at HFL
          have hw1 := Lib.hid (fun W (hl : Later w5 W) => rwaits_any (HRX.out.later hl) (by have := HVV.out.2.2.1.fit.wl; omega))
          have hw2 := Lib.hid (fun W (hl : Later w5 W) => rwaits_any (HSX.out.later hl) (by omega))
          obtain ⟨YW, hYW⟩ : ∃ y, ss'.W = y := ⟨_, rfl⟩
          rw [q3, hYW] at hw1
          rw [hYW] at hw2 hfe
          obtain ⟨NY, hNY⟩ : ∃ n, YW.length = n := ⟨_, rfl⟩
          have HNY := Lib.hid hNY
          rw [hNY] at hfe
          have HWW := Lib.hid (fun W va vb (ha : IsWaits W va YW) (hb : IsWaits W vb YW) => lwaits_any YW YW va vb W ha hb (by rw [HNY.out]; omega))
          rw [show decide (YW = YW) = true by simp] at HWW
          have ho1 := Lib.hid (fun W (hl : Later w5 W) => rover_any (HRX.out.later hl))
          have ho2 := Lib.hid (fun W (hl : Later w5 W) => rover_any (HSX.out.later hl))
          rw [← q4] at ho2
          obtain ⟨OV, hOV⟩ : ∃ y, decide (rs.L = []) = y := ⟨_, rfl⟩
          rw [hOV] at ho1 ho2
          have hd1' := Lib.hid (fun W (hl : Later w5 W) => rday_any (HRX.out.later hl))
          have hd2' := Lib.hid (fun W (hl : Later w5 W) => rday_any (HSX.out.later hl))
          rw [← q1] at hd2'
          obtain ⟨DY, hDY⟩ : ∃ y, rs.day = y := ⟨_, rfl⟩
          rw [hDY] at hd1' hd2'
          clear q1 q2 q3 q4 hYW hNY hOV hDY HRX HSX HFA HAV5 HAV HVV HAXX hf5 hfz5 hr5 hrx5 hl5 HGS HEND
          go_wp2_with (first
            | (go_at_call 40; go_must (first | (refine (hd1'.out _ (Later.refl _)).mono ?_; clear hd1'; rintro e wa ⟨rfl, hba⟩) | (refine (hd2'.out _ hba).mono ?_; clear hd2'; rintro e wb ⟨rfl, hbb⟩; have hlb := hba.trans hbb)))
            | (go_at_call 23; go_must (refine (HFL.out _ hlb).mono ?_; rintro e wd ⟨rfl, hbd⟩; have hld := hlb.trans hbd))
            | (go_at_call 43; go_must (first | (refine (hw1.out _ hld).mono ?_; clear hw1; rintro e we ⟨vwe, rfl, hwe, hbe⟩; obtain ⟨pwe, cwe, rfl⟩ := hwe.form; rw [HNY.out] at hwe ⊢) | (refine (hw2.out _ (hld.trans hbe)).mono ?_; clear hw2; rintro e wf ⟨vwf, rfl, hwf, hbf⟩; obtain ⟨pwf, cwf, rfl⟩ := hwf.form; rw [HNY.out] at hwf ⊢)))
            | (go_at_call 29; go_must (refine (HWW.out _ _ _ (hwe.later hbf) hwf).mono ?_; rintro e wg ⟨rfl, hbg⟩; have hlg := ((hld.trans hbe).trans hbf).trans hbg))
            | (go_at_call 41; go_must (first | (refine (ho1.out _ hlg).mono ?_; clear ho1; rintro e wh ⟨rfl, hbh⟩) | (refine (ho2.out _ (hlg.trans hbh)).mono ?_; clear ho2; rintro e wi ⟨rfl, hbi⟩; have hli := (hlg.trans hbh).trans hbi)))
            | (go_at_call 34; go_must (refine (HAW.out _ (hlw5.trans hli)).mono ?_; rintro e wj ⟨rfl, hbj⟩)))
          go_ret
          exact ⟨rfl, (hlw5.trans hli).trans hbj⟩
  · have he1 : (E1 == 0) = false := by simpa using k1
    have he2 : (E1 != 0) = true := by simpa using k1
    have HRN2 := Lib.hid (fun W (hl : Later w W) => HRN.out k1 W hl)
    have hr1 := Lib.hid (fun W (hl : Later w W) => HRN2.out W hl)
    have hr2 := Lib.hid (fun W (hl : Later w W) => HRN2.out W hl)
    clear HRN HRY HDY k1 HRN2 HF2
    go_wp2_with (first
      | (go_at_call 35; go_must (first | (refine (hr1.out _ hl2).mono ?_; clear hr1; rintro e w3 ⟨rfl, hb3⟩; clear d0 z0; obtain ⟨z0, d0, -⟩ := own_get (HO2.out.later hb3)) | (refine (hr2.out _ (hl2.trans hb3)).mono ?_; clear hr2; rintro e w4 ⟨rfl, hb4⟩; have hl4 := (hl2.trans hb3).trans hb4)))
      | (go_at_call 34; go_must (refine (HAW.out _ hl4).mono ?_; rintro e w5 ⟨rfl, hb5⟩)))
    go_ret
    exact ⟨rfl, hl4.trans hb5⟩
theorem sts_any (ts : List Nd) (l : List Td) (is : List Int) (v u vi : Value) (day tod : Int) (w : World) (hok : ∀ x ∈ ts, x.ok) (lok : ∀ x ∈ l, x.ok) (hS : Shapes w) (hN : IsNodes w v ts) (hT : IsTolds w u l) (hI : IsIntR w vi is) :
    Calls Tryz.prog 11 #[.agg #[v, .int .i64 day, .int .i64 tod, u], vi] w fun e w' => e = .returned (.bool true) ∧ Later w w' := by
  by_cases h : ts.length ≤ 100 ∧ l.length ≤ 60 ∧ is.length ≤ 20
  · exact sts_near ts l is v u vi day tod w hok lok hS hN hT hI h.1 h.2.1 h.2.2
  · exact sts_far ts l is v u vi day tod w lok hS hN hT hI h
end Go.Proofs.YtkjabiabeemfhaaGreatDoor
end
