/- the table of shapes out of what the rows list -/
import Derived.Test.YtkjabiabeemfhaaGreatDoorZ40
import Derived.Test.YtkjabiabeemfhaaGreatDoorZ39
import Derived.Test.YtkjabiabeemfhaaGreatDoorZ31
import Derived.Test.YtkjabiabeemfhaaGreatDoorZ16
import Derived.Test.YtkjabiabeemfhaaGreatDoorZ11
import Derived.Shelf.Spec.SlicesGrow
import Derived.Ground.Names8Prog
import Derived.Test.YtkjabiabeemfhaaGreatDoorProg
import Derived.Test.YtkjabiabeemfhaaGreatDoorZ9
import Derived.Test.YtkjabiabeemfhaaGreatDoorZ10
import Derived.Test.YtkjabiabeemfhaaGreatDoorZ17
import Derived.Test.YtkjabiabeemfhaaGreatDoorZ14
import Derived.Test.YtkjabiabeemfhaaGreatDoorZ2
import Derived.Below
import Derived.ChangeSame
import Derived.ProofKit
import Derived.Carry
import Derived.ReadAgain
import Derived.Deep.Slices
import Derived.OpenShut
import Derived.LaidMore
import Derived.Test.YtkjabiabeemfhaaGreatDoorZ4
import Derived.LaidByTextLater
import Derived.Deep.Strs
set_option linter.all false
set_option linter.all false
section
namespace Go.Proofs.YtkjabiabeemfhaaGreatDoor
open Go.RowKit Go.Sort
set_option maxRecDepth 20000 in
set_option maxHeartbeats 1600000 in
theorem sdn_far (ts : List Nd) (l : List Ops) (v u : Value) (day : Int) (w : World) (hS : Shapes w) (hN : IsNodes w v ts) (hO : IsOps w u l) (h : ¬ (ts.length ≤ 100 ∧ l.length ≤ 60)) :
  Calls Tryz.prog 14 #[v, .int .i64 day, u] w fun e w' => e = .returned (.bool true) ∧ Later w w' := by
 have HAW := Lib.hid (fun W (hl : Later w W) => sawake_any W (hS.later hl))
 obtain ⟨p, c, rfl⟩ := hN.form
 obtain ⟨q, d, rfl⟩ := hO.form
 have hc : (100 : Int) < (ts.length : Int) ∨ (¬ (100 : Int) < (ts.length : Int) ∧ (60 : Int) < (l.length : Int)) := by omega
 clear h hS hN hO
 generalize ts.length = L at *
 generalize l.length = M at *
 rcases hc with h1 | ⟨h1, h2⟩
 all_goals
  go_enter Tryz.func14, Tryz.ntmps14
  go_wp2_with (go_at_call 34; go_must (refine (HAW.out _ (by repeat (first | with_reducible (first | exact zq1 _ | assumption | refine zq2 ?_ | refine zq4 ?_ ?_ _ | refine zq5 ?_ _ | refine zq6 ?_ _ | refine zq7 ?_ | refine zq8 ?_ (by assumption)) | (simp only [zq10]; omega) | (simp; done) | (simp; omega)))).mono ?_; rintro e w1 ⟨rfl, hb1⟩))
  go_ret
  exact ⟨rfl, hb1⟩
structure SdnInv (wr : World) (ts : List Nd) (T : Tm) (day : Int) (rb : Nat) (tvr lr wvr : Value) (rs : RunS) (F : List Fl) (av : Value) (p m1 m2 : Nat) (fx : FxL) (ch : ChL) (j : Nat) : Prop where
 r : RunAt wr rb ts tvr lr wvr rs
 f : FactsAt wr p m1 m2 fx ch
 fc : FcOk (fx, ch) j
 fit : RunFit ts rs
 c : Comes ts (envT fx ch) ⟨T, 0, day, 1, 1⟩ F rs
 a : IsFlows wr av (F.foldl (insL ordF) [])
 ax : ∀ k, av.ownBlock = some k → k ≠ rb
 fl : F.length ≤ 64 * j
set_option maxRecDepth 20000 in
set_option maxHeartbeats 12800000 in
theorem sdn_near (ts : List Nd) (l : List Ops) (v u : Value) (day : Int) (w : World) (hok : ∀ x ∈ ts, x.ok) (ook : ∀ x ∈ l, x.ok) (hS : Shapes w) (hN : IsNodes w v ts) (hO : IsOps w u l) (h1 : ts.length ≤ 100) (h2 : l.length ≤ 60) :
  Calls Tryz.prog 14 #[v, .int .i64 day, u] w fun e w' => e = .returned (.bool true) ∧ Later w w' := by
 have HAW := Lib.hid (fun W (hl : Later w W) => sawake_any W (hS.later hl))
 have HSH := Lib.hid (fun W (hl : Later w W) => hS.later hl)
 have HNEW := Lib.hid fnew_any
 have HOK := Lib.hid hok
 have HN := Lib.hid hN
 have HO := Lib.hid hO
 have HOO := Lib.hid ook
 have HRN := Lib.hid (fun (h : newE ts day ≠ 0) W (hl : Later w W) => rnew_no ts (by omega) hok v day W (hS.later hl) (hN.later hl) h)
 have HRY := Lib.hid (fun (h : newE ts day = 0) T (hG : Good ts T) (hm : makesI T.root.op = 2) W (hl : Later w W) => rnew_yes ts hok v day W (hS.later hl) (hN.later hl) h hG hm)
 have HFRS := Lib.hid (fun (x : Td) (hx : x.ok) (dy : Int) p m1 m2 fx ch W (hl : Later w W) (hF : FactsAt W p m1 m2 fx ch) => fresh_any ts (by omega) x hx dy p m1 m2 fx ch v W (hN.later hl) hF)
 have HPRE := Lib.hid (fun fx ch j (hj : j ≤ 1000) (hfc : FcOk (fx, ch) j) W (hl : Later w W) p m1 m2 (hF : FactsAt W p m1 m2 fx ch) => (⟨by omega, hok, hS.later hl, hN.later hl, hF, hfc.fo, hfc.co, hfc.cn, Nat.le_trans hfc.cl (by omega)⟩ : PreAt W ts v fx ch p m1 m2))
 obtain ⟨E1, hE1⟩ : ∃ x, newE ts day = x := ⟨_, rfl⟩
 have HDY := Lib.hid (fun h => newE_zero (ts := ts) (day := day) h)
 rw [hE1] at HRN HRY HDY
 obtain ⟨pv, cv, rfl⟩ := hN.form
 obtain ⟨q, d, rfl⟩ := hO.form
 obtain ⟨L, hL⟩ : ∃ x, ts.length = x := ⟨_, rfl⟩
 obtain ⟨M, hM⟩ : ∃ x, l.length = x := ⟨_, rfl⟩
 have HLM := Lib.hid (show ts.length = L ∧ l.length = M from ⟨hL, hM⟩)
 rw [hL] at HN HRN HRY HFRS HPRE h1
 rw [hM] at HO h2
 rw [hL, hM]
 have n1 : ¬ (100 : Int) < (L : Int) := by omega
 have n2 : ¬ (60 : Int) < (M : Int) := by omega
 clear hS hN hO hok ook hE1 hL hM
 go_enter Tryz.func14, Tryz.ntmps14
 go_upto_region 3 with (fail)
 by_cases k1 : E1 = 0
 ·subst k1
  obtain ⟨hct, hd0, hd1⟩ := HDY.out rfl
  obtain ⟨T, hG, hm⟩ := ct_good hct
  have HRY2 := Lib.hid (fun W (hl : Later w W) => HRY.out rfl T hG hm W hl)
  have HGD := Lib.hid (show Good ts T ∧ makesI T.root.op = 2 ∧ 0 ≤ day ∧ day ≤ 73048 from ⟨hG, hm, hd0, hd1⟩)
  clear HRN HRY HDY hG hm hd0 hd1 hct
  go_upto_region 4 with (go_at_call 35; go_must (refine (HRY2.out _ (by repeat (first | with_reducible (first | exact zq1 _ | assumption | refine zq2 ?_ | refine zq4 ?_ ?_ _ | refine zq5 ?_ _ | refine zq6 ?_ _ | refine zq7 ?_ | refine zq8 ?_ (by assumption)) | (simp only [zq10]; omega) | (simp; done) | (simp; omega)))).mono ?_; rintro e w1 ⟨rb, tvr, lr, wvr, rfl, hr1, hz1, hl1⟩))
  have HR1 := Lib.hid hr1
  have hrb : w.heap.size ≤ rb := (hz1 rb (.inl rfl)).1
  clear hr1 hz1 HRY2
  go_upto_region 5 with (go_at_call 36; go_must (refine (HNEW.out _).mono ?_; rintro e w4 ⟨pf, m1, m2, rfl, hF4, ge1, ge2, hb4⟩))
  have hl4 := hl1.trans hb4
  have HGM := Lib.hid (show w.heap.size ≤ m1 ∧ w.heap.size ≤ m2 from ⟨Nat.le_trans hl1.size ge1, Nat.le_trans hl1.size ge2⟩)
  have HINV : Hid (SdnInv w4 ts T day rb tvr lr wvr (newR T day) [] (.slice none 0 0) pf m1 m2 [] [] 0) := Lib.hid ⟨HR1.out.later hb4, hF4, fcOk_nil, RunFit.new HGD.out.1 HGD.out.2.1 HGD.out.2.2.1 HGD.out.2.2.2, comes_new _ _ _ _, .inl ⟨⟨none, rfl⟩, rfl⟩, fun k hk => by simp [Value.ownBlock] at hk, by simp⟩
  clear HR1 hF4 ge1 ge2 hl1 hb4
  go_upto_region 9 with (fail)
  go_loopw [10, 11] (fun s10 s11 wr => ∃ (j : Nat) (av : Value), av = s10 ∧ j ≤ M ∧ s11 = .int .i64 j ∧ Later w wr ∧ ∃ (lr' wvr' : Value) (rs : RunS) (F : List Fl) (fx : FxL) (ch : ChL), Hid (SdnInv wr ts T day rb tvr lr' wvr' rs F av pf m1 m2 fx ch j)) (fun _ s11 _ => M - (intOf s11).toNat)
  case atStart => exact ⟨0, _, rfl, Nat.zero_le _, rfl, hl4, _, _, _, _, _, _, HINV⟩
  case round =>
   obtain ⟨j, av, rfl, hj, rfl, hlr, lr', wvr', rs, F, fx, ch, HI⟩ := hrel
   clear HINV hl4
   by_cases hlt : j < M
   ·have hltI : (j : Int) < M := by omega
    have hjl : j < l.length := by rw [HLM.out.2]; exact hlt
    obtain ⟨ob, oo, oc, hv, hob, g⟩ := (HO.out.later hlr).full (i := j) hjl
    rw [HLM.out.2] at hv
    cases hv
    have HOB : Hid (¬ ob = rb) := Lib.hid (by
     have hob0 : ob < w.heap.size := by
      obtain ⟨ob', oo', oc', hv', hob', -⟩ := HO.out.full (i := j) hjl
      rw [HLM.out.2] at hv'
      cases hv'
      exact hob'
     omega)
    have HXO := Lib.hid (HOO.out _ (List.getElem_mem hjl))
    have g0 := g 0 (by decide)
    have g1 := g 1 (by decide)
    have g2 := g 2 (by decide)
    have g3 := g 3 (by decide)
    have g4 := g 4 (by decide)
    have g5 := g 5 (by decide)
    have g6 := g 6 (by decide)
    have g7 := g 7 (by decide)
    obtain ⟨x, hx⟩ : ∃ x, l[j] = x := ⟨_, rfl⟩
    rw [hx] at g0 g1 g2 g3 g4 g5 g6 g7 HXO
    clear hx hjl g
    obtain ⟨xg, xt, ⟨fc, fk, fd, fn, fm, fp⟩⟩ := x
    simp only [Ops.cell, Td.cell, Nat.add_zero] at g0 g1 g2 g3 g4 g5 g6 g7
    have hj60 : j ≤ 1000 := by omega
    obtain ⟨pa0, ca0, hpa⟩ := HI.out.a.form
    obtain ⟨NL0, hNL0⟩ : ∃ x, (F.foldl (insL ordF) []).length = x := ⟨_, rfl⟩
    rw [hNL0] at hpa
    have HNL0 := Lib.hid hNL0
    subst hpa
    clear hNL0
    cases xg
    ·have HD := Lib.hid (fun W (hl : Later wr W) => rday_any (HI.out.r.later hl))
     have HFR := Lib.hid (fun W (hl : Later wr W) => HFRS.out ⟨fc, fk, fd, fn, fm, fp⟩ HXO.out.2 rs.day pf m1 m2 fx ch W (hlr.trans hl) (HI.out.f.later hl))
     have HT := Lib.hid (fun W (hl : Later wr W) => tell_any pf m1 m2 fx ch ⟨fc, fk, fd, fn, fm, fp⟩ W (HI.out.f.later hl) HXO.out.2)
     have HE := Lib.hid (fun h => fresh_env (ts := ts) (s := (fx, ch)) (x := ⟨fc, fk, fd, fn, fm, fp⟩) (day := rs.day) HI.out.fc h)
     unfold Td.val at HT HFR
     obtain ⟨B, hB⟩ : ∃ b, freshB ts (fx, ch) ⟨fc, fk, fd, fn, fm, fp⟩ rs.day = b := ⟨_, rfl⟩
     rw [hB] at HFR HE
     obtain ⟨RD, hRD⟩ : ∃ b, rs.day = b := ⟨_, rfl⟩
     rw [hRD] at HD HFR
     have HRD := Lib.hid hRD
     simp only at HT HFR
     clear g1 hB hRD
     go_upto_region 12 with (fail)
     refine wp_region_plan 10 (.one [0, 1, 2, 3, 4, 5, 6, 7] 8 (.one [] 9 (.done []))) (by kernel_rfl) (by kernel_rfl) (fun _ _ d _ _ h => by cases d <;> exact h) ?_
     repeat' (first
      | ((first | refine plan_done (fun K hK => ?_) | refine plan_one (by rfl) (fun K hK => ?_)); (first | (simp only [zq9]; repeat (go_big_quiet_step (fail))) | simp only [pick_nil]); refine wpQuiet_nil (hK _ ?_); clear hK K)
      | ((with_reducible refine at_list ?_); go_wp2_with (first | (go_at_call 40; go_must (refine (HD.out _ (by repeat (first | with_reducible (first | exact zq1 _ | assumption | refine zq2 ?_ | refine zq4 ?_ ?_ _ | refine zq5 ?_ _ | refine zq6 ?_ _ | refine zq7 ?_ | refine zq8 ?_ (by assumption)) | (simp only [zq10]; omega) | (simp; done) | (simp; omega)))).mono ?_; rintro e w5 ⟨rfl, hb5⟩; have hl5 : Later wr w5 := (by first | exact hb5 | exact hb5.undrew'); have hob5 := Nat.lt_of_lt_of_le hob hl5.size)) | (go_at_call 46; go_must (refine (HFR.out _ hl5).mono ?_; rintro e w6 ⟨rfl, hb6⟩; have hl6 := hl5.trans hb6; replace g2 := ((bcell hl6).1 _ _ hob).trans g2; replace g3 := ((bcell hl6).1 _ _ hob).trans g3; replace g4 := ((bcell hl6).1 _ _ hob).trans g4; replace g5 := ((bcell hl6).1 _ _ hob).trans g5; replace g6 := ((bcell hl6).1 _ _ hob).trans g6; replace g7 := ((bcell hl6).1 _ _ hob).trans g7))); first | refine behind_store (t := 10) (by decide) ?_ | refine behind (by with_reducible repeat (first | exact zq1 _ | assumption | refine zq2 ?_ | refine zq5 ?_ _ | refine zq6 ?_ _ | refine zq7 ?_ | refine zq8 ?_ (by assumption))) ?_))
     have hob6 := Nat.lt_of_lt_of_le hob hl6.size
     cases B
     ·go_wp2_with fail
      go_roundw
      case rel => exact ⟨j + 1, _, rfl, by omega, by go_num, hlr.trans hl6, _, _, rs, F, _, _, Lib.hid ⟨HI.out.r.later hl6, HI.out.f.later hl6, HI.out.fc.more, HI.out.fit, HI.out.c, HI.out.a.later hl6, HI.out.ax, by have := HI.out.fl; omega⟩⟩
      case measure => first | (simp [intOf]; omega) | simp [intOf]
     ·go_wp2_with (go_at_call 26; go_must (refine (HT.out _ hl6).mono ?_; rintro e w7 ⟨rfl, hF7, mm, hmm, hg7⟩))
      go_roundw
      case rel => exact ⟨j + 1, _, rfl, by omega, by go_num, tell_grown (hlr.trans hl6) (HI.out.f.later hl6) HGM.out.1 HGM.out.2 hmm hg7, _, _, rs, F, _, _, Lib.hid ⟨(HI.out.r.later hl6).grown hg7 ((HI.out.f.later hl6).map1 hmm), hF7, HI.out.fc.tell HXO.out.2, HI.out.fit, HI.out.c.tell (HE.out (by trivial)), row_grown (HI.out.a.later hl6) hg7 ((HI.out.f.later hl6).map1 hmm), HI.out.ax, by have := HI.out.fl; omega⟩⟩
      case measure => first | (simp [intOf]; omega) | simp [intOf]
    ·clear g2 g3 g4 g5 g6 g7 HXO
     have HGR := Lib.hid ((rgo_facts HGD.out.1 HOK.out (HSH.out wr hlr) HI.out.fc hj60 HI.out.f HI.out.r HI.out.fit.ok HI.out.fit.sz xt).mono (fun e w' h => GoEnd.rows (X := fun _ => False) h (fun k _ h => h) (fun k h => h.elim)))
     have HPAY := Lib.hid (fun h => go_pays (tod := xt) HGD.out.1 HGD.out.2.1 HOK.out HI.out.fc.env HGD.out.2.2.1 HGD.out.2.2.2 HI.out.fit HI.out.c h)
     have HNOT := Lib.hid (fun h => go_not (env := envT fx ch) (r := rs) (tod := xt) h)
     have HFIT := Lib.hid (HI.out.fit.go HGD.out.1 HOK.out HI.out.fc.env xt)
     have hfe := (goR_few (env := envT fx ch) xt HI.out.fit.sz HI.out.fit.wl)
     obtain ⟨⟨C, A0, rs'⟩, hgr⟩ : ∃ gg, goR (envT fx ch) rs xt = gg := ⟨_, rfl⟩
     rw [hgr] at HGR HPAY HNOT HFIT hfe
     simp only at HGR HPAY HNOT HFIT hfe
     obtain ⟨NA, hNA⟩ : ∃ n, A0.length = n := ⟨_, rfl⟩
     have HNA := Lib.hid hNA
     rw [hNA] at hfe
     clear hgr hNA
     go_upto_region 15 with (go_at_call 38; go_must (refine HGR.out.mono ?_; rintro e w5 ⟨fa, la5, wa5, rfl, hf5, hfz5, hr5, -, hl5⟩; obtain ⟨qa, ca, rfl⟩ := hf5.form; rw [HNA.out] at hf5 hfz5 ⊢; replace g1 := (hl5.cell (p := ⟨ob, _, none⟩) hob HOB.out).trans g1; have hob5 := Nat.lt_of_lt_of_le hob hl5.size))
     have HFA5 := Lib.hid hf5
     have HR5 := Lib.hid hr5
     have HF5 := Lib.hid (HI.out.f.lat HI.out.r hl5)
     have HA5 := Lib.hid (row_lat HI.out.a hl5 (fun k hk => HI.out.ax k hk))
     have hlw5 := lat_one hlr hl5 hrb
     have hrb5 : rb < w5.heap.size := hr5.own.1.1
     clear hf5 hfz5 hr5 hl5 HGR g0
     by_cases hC : C = 0
     ·subst hC
      obtain ⟨y1, y2, y3, y4, y5⟩ := HPAY.out rfl
      have HPRE5 := Lib.hid (fun W (hl : Later w5 W) => HPRE.out fx ch j hj60 HI.out.fc W (hlw5.trans hl) pf m1 m2 (HF5.out.later hl))
      have HFL := Lib.hid (fun W (hl : Later w5 W) => flows_any (HPRE5.out W hl) day xt)
      have HWT := Lib.hid (fun W (hl : Later w5 W) => waits_any (HPRE5.out W hl) day xt)
      have hsl := puts_nil (F ++ A0)
      rw [y1, y2] at HFL
      rw [y1, y3] at HWT
      have HC5 := Lib.hid y5
      have HY4 := Lib.hid y4
      clear y1 y2 y3 y4 y5 HPAY HNOT HPRE5
      obtain ⟨L0, hL0⟩ : ∃ x, F.foldl (insL ordF) [] = x := ⟨_, rfl⟩
      have HL0 := Lib.hid hL0
      rw [hL0] at HA5 HNL0
      have hL0l : NL0 ≤ 6000 := by rw [← HNL0.out, ← hL0, puts_len]; have := HI.out.fl; omega
      have HAX := Lib.hid HI.out.ax
      have hfl := HI.out.fl
      have HSL := Lib.hid hsl
      clear hL0 hsl
      go_upto_region 17 with (fail)
      go_loopw [10, 14] (fun s10 s14 wx => ∃ (q : Nat) (av2 : Value), av2 = s10 ∧ q ≤ NA ∧ s14 = .int .i64 q ∧ Hid (IsFlows wx av2 ((A0.take q).foldl (insL ordF) L0)) ∧ Hid (∀ k, av2.ownBlock = some k → k ≠ rb) ∧ Later w5 wx) (fun _ s14 _ => NA - (intOf s14).toNat)
      case atStart => exact ⟨0, _, rfl, Nat.zero_le _, rfl, HA5, HAX, Later.refl _⟩
      case round =>
       obtain ⟨q, av2, rfl, hq, rfl, HRW, HAV, hlat⟩ := hrel
       obtain ⟨wx, hwx⟩ : ∃ x : World, x = wr := ⟨_, rfl⟩
       subst hwx
       obtain ⟨L8, hL8⟩ : ∃ X, (A0.take q).foldl (insL ordF) L0 = X := ⟨_, rfl⟩
       have hlen8 : L8.length ≤ 7000 := by
        rw [← hL8]
        have hp : ∀ (a : List Fl) (b : List Fl), (a.foldl (insL ordF) b).length = b.length + a.length := by
         intro a
         induction a with
         | nil => intro b; rfl
         | cons x a ih => intro b; rw [List.foldl_cons, ih, insF_len]; simp only [List.length_cons]; omega
        rw [hp, List.length_take, HNL0.out]
        omega
       rw [hL8] at HRW
       have HL8 := Lib.hid hL8
       have HR8 := Lib.hid HRW.out
       obtain ⟨p8, c8, rfl⟩ := HRW.out.form
       obtain ⟨n8, hn8⟩ : ∃ n, L8.length = n := ⟨_, rfl⟩
       rw [hn8] at HR8 HAV hlen8 ⊢
       have HN8 := Lib.hid hn8
       clear hL8 hn8 HRW
       by_cases hlq : q < NA
       ·have hlqI : (q : Int) < NA := by omega
        have hql : q < A0.length := by rw [HNA.out]; exact hlq
        obtain ⟨b1, o1, cc1, hv, hb1, g⟩ := (HFA5.out.later hlat).full (i := q) hql
        rw [HNA.out] at hv
        cases hv
        have e0 := g 0 (by decide)
        have e1 := g 1 (by decide)
        have e2 := g 2 (by decide)
        simp only [flF, Nat.add_zero] at e0 e1 e2
        have HT : Hid ((A0.take (q + 1)).foldl (insL ordF) L0 = insL ordF L8 ⟨(A0[q]).day, (A0[q]).cur, (A0[q]).amt⟩) := Lib.hid (by rw [List.take_succ_eq_append_getElem hql, List.foldl_append, HL8.out]; rfl)
        generalize (A0[q]).day = x0 at *
        generalize (A0[q]).cur = x1 at *
        generalize (A0[q]).amt = x2 at *
        have HPT := Lib.hid (fun W (hl : Later wx W) => rput_any L8 ⟨x0, x1, x2⟩ _ W (HR8.out.later hl) (by rw [HN8.out]; omega))
        clear g hql HL8
        go_upto_region 19 with (fail)
        go_wp2_with (go_at_call 33; go_must (refine (HPT.out _ (by repeat (first | with_reducible (first | exact zq1 _ | assumption | refine zq2 ?_ | refine zq4 ?_ ?_ _ | refine zq5 ?_ _ | refine zq6 ?_ _ | refine zq7 ?_ | refine zq8 ?_ (by assumption)) | (simp only [zq10]; omega) | (simp; done) | (simp; omega)))).mono ?_; rintro e wb ⟨v9, rfl, hown, hb9⟩; have hl9 : Later wx wb := by first | exact hb9 | exact ((Later.refl wx).drew).trans hb9))
        go_roundw
        case rel => exact ⟨q + 1, _, rfl, by omega, by go_num, Lib.hid (by rw [HT.out]; exact (owns_flows hown).1), Lib.hid (fun k hk => by have h1 := (hown.lt k hk).1; have h2 := hlat.size; omega), hlat.trans hl9⟩
        case measure => simp [intOf]; omega
       ·have hlt2 : ¬ (q : Int) < NA := by omega
        have hA8 : L8 = (F ++ A0).foldl (insL ordF) [] := by
         rw [← HL8.out, List.take_of_length_le (by rw [HNA.out]; omega), List.foldl_append, HL0.out]
        have HA8 := Lib.hid hA8
        replace g1 := ((bcell hlat).1 _ _ hob5).trans g1
        have hobx := Nat.lt_of_lt_of_le hob5 hlat.size
        obtain ⟨SF, hSF⟩ : ∃ x, sortL ordF (F ++ A0) = x := ⟨_, rfl⟩
        rw [hSF] at HFL HSL
        have HS8 := Lib.hid (show L8 = SF by rw [HA8.out, HSL.out])
        obtain ⟨YW, hYW⟩ : ∃ x, rs'.W = x := ⟨_, rfl⟩
        rw [hYW] at HWT
        have hyl : YW.length ≤ 8192 := by rw [← hYW]; exact HFIT.out.wl
        obtain ⟨NY, hNY⟩ : ∃ n, YW.length = n := ⟨_, rfl⟩
        have HNY := Lib.hid (show YW.length = NY ∧ rs'.W = YW ∧ NY ≤ 8192 from ⟨hNY, hYW, by omega⟩)
        have hSFl : SF.length = n8 := by rw [← HS8.out, HN8.out]
        have HSFL := Lib.hid hSFl
        clear hA8 hSF hYW hNY hyl hSFl HL8
        go_upto_region 21 with (go_at_call 18; go_must (refine (HFL.out _ hlat).mono ?_; rintro e wa ⟨va, rfl, hfa, hba⟩; obtain ⟨qa2, ca2, rfl⟩ := hfa.form; rw [HSFL.out] at hfa ⊢; replace g1 := ((bcell hba).1 _ _ hobx).trans g1; have hoba := Nat.lt_of_lt_of_le hobx hba.size))
        have HFa := Lib.hid hfa
        go_upto_region 22 with (go_at_call 19; go_must (refine (HWT.out _ (hlat.trans hba)).mono ?_; rintro e wb ⟨vb, rfl, hfb, hbb⟩; obtain ⟨qb2, cb2, rfl⟩ := hfb.form; rw [HNY.out.1] at hfb ⊢; replace g1 := ((bcell hbb).1 _ _ hoba).trans g1; have hobb := Nat.lt_of_lt_of_le hoba hbb.size))
        have HFb := Lib.hid hfb
        have hxb := hba.trans hbb
        have h5b := hlat.trans hxb
        have HCF := Lib.hid (fun W (hl : Later wb W) => lflows_any L8 SF _ _ W ((HR8.out.later hxb).later hl) ((HFa.out.later hbb).later hl) (by rw [HN8.out]; omega))
        rw [HS8.out, show decide (SF = SF) = true by simp] at HCF
        have hw1 := Lib.hid (fun W (hl : Later wb W) => rwaits_any (HR5.out.later (h5b.trans hl)) (by rw [HNY.out.2.1, HNY.out.1]; have := HNY.out.2.2; omega))
        rw [HNY.out.2.1] at hw1
        have HWW := Lib.hid (fun W va (ha : IsWaits W va YW) (hl : Later wb W) => lwaits_any YW YW va _ W ha (HFb.out.later hl) (by rw [HNY.out.1]; have := HNY.out.2.2; omega))
        rw [show decide (YW = YW) = true by simp] at HWW
        have hd1' := Lib.hid (fun W (hl : Later wb W) => rday_any (HR5.out.later (h5b.trans hl)))
        rw [HY4.out] at hd1'
        clear hfa hfb HFL HWT HNEW
        refine wp_region_plan 29 (.one [0, 1, 2, 3, 4, 5, 6, 7, 8] 9 (.one [10, 11, 12, 13, 15] 14 (.one [] 16 (.one [17, 18, 19, 20, 22, 23, 24, 25, 26] 21 (.done [27, 28]))))) (by kernel_rfl) (by kernel_rfl) (fun _ _ d _ _ h => by cases d <;> exact h) ?_
        repeat' (first
         | ((first | refine plan_done (fun K hK => ?_) | refine plan_one (by rfl) (fun K hK => ?_)); (first | (simp only [zq9]; repeat (go_big_quiet_step (fail))) | simp only [pick_nil]); refine wpQuiet_nil (hK _ ?_); clear hK K)
         | ((with_reducible refine at_list ?_); go_wp2_with (first | (go_at_call 23; go_must (refine (HCF.out _ (by repeat (first | with_reducible (first | exact zq1 _ | assumption | refine zq2 ?_ | refine zq4 ?_ ?_ _ | refine zq5 ?_ _ | refine zq6 ?_ _ | refine zq7 ?_ | refine zq8 ?_ (by assumption)) | (simp only [zq10]; omega) | (simp; done) | (simp; omega)))).mono ?_; rintro e wc ⟨rfl, hbc⟩; have hlc : Later wb wc := (by first | exact hbc | exact hbc.undrew'))) | (go_at_call 43; go_must (refine (hw1.out _ hlc).mono ?_; rintro e wd ⟨vd, rfl, hwd, hbd⟩; obtain ⟨pd, cd, rfl⟩ := hwd.form; rw [HNY.out.1] at hwd ⊢; have hld := hlc.trans hbd)) | (go_at_call 29; go_must (refine (HWW.out _ _ hwd hld).mono ?_; rintro e we ⟨rfl, hbe⟩; have hle := hld.trans hbe; have ge1 := ((bcell hle).1 _ _ hobb).trans g1; have hobe := Nat.lt_of_lt_of_le hobb hle.size)) | (go_at_call 40; go_must (refine (hd1'.out _ hle).mono ?_; rintro e wf ⟨rfl, hbf⟩; have hlf := hle.trans hbf; have gf1 := ((bcell hlf).1 _ _ hobb).trans g1; have hobf := Nat.lt_of_lt_of_le hobb hlf.size))); first | refine behind_store (t := 29) (by decide) ?_ | refine behind (by with_reducible repeat (first | exact zq1 _ | assumption | refine zq2 ?_ | refine zq5 ?_ _ | refine zq6 ?_ _ | refine zq7 ?_ | refine zq8 ?_ (by assumption))) ?_))
        have h5f := h5b.trans hlf
        go_wp2_with fail
        go_roundw
        case rel => exact ⟨j + 1, _, rfl, by omega, by go_num, hlw5.trans h5f, _, _, rs', F ++ A0, _, _, Lib.hid ⟨HR5.out.later h5f, HF5.out.later h5f, HI.out.fc.more, HFIT.out, HC5.out, by rw [← HA8.out]; exact (HR8.out.later hxb).later hlf, HAV.out, by rw [List.length_append, HNA.out]; omega⟩⟩
        case measure => first | (simp [intOf]; omega) | simp [intOf]
     ·have hc1 : (C == 0) = false := by simpa using hC
      have hc2 : (C != 0) = true := by simpa using hC
      obtain ⟨y1, y2⟩ := HNOT.out hC
      subst y1
      have HFI9 := HI
      clear hC HPAY HNOT HFIT y2
      go_wp2_with fail
      go_roundw
      case rel => exact ⟨j + 1, _, rfl, by omega, by go_num, hlw5, _, _, rs', F, _, _, Lib.hid ⟨HR5.out, HF5.out, HFI9.out.fc.more, HFI9.out.fit, HFI9.out.c, HA5.out, HFI9.out.ax, by have := HFI9.out.fl; omega⟩⟩
      case measure => first | (simp [intOf]; omega) | simp [intOf]
   ·have hge : ¬ ((j : Int) < M) := by omega
    go_wp2_with (go_at_call 34; go_must (refine (HAW.out _ hlr).mono ?_; rintro e w5 ⟨rfl, hb5⟩))
    go_ret
    exact ⟨rfl, hlr.trans hb5⟩
 ·have he1 : (E1 == 0) = false := by simpa using k1
  have he2 : (E1 != 0) = true := by simpa using k1
  have HRN2 := Lib.hid (fun W (hl : Later w W) => HRN.out k1 W hl)
  clear HRN HRY HDY k1
  go_wp2_with (first
   | (go_at_call 35; go_must (refine (HRN2.out _ (by repeat (first | with_reducible (first | exact zq1 _ | assumption | refine zq2 ?_ | refine zq4 ?_ ?_ _ | refine zq5 ?_ _ | refine zq6 ?_ _ | refine zq7 ?_ | refine zq8 ?_ (by assumption)) | (simp only [zq10]; omega) | (simp; done) | (simp; omega)))).mono ?_; rintro e w1 ⟨rfl, hl1⟩))
   | (go_at_call 36; go_must (refine (HNEW.out _).mono ?_; rintro e w4 ⟨pf, m1, m2, rfl, -, -, -, hb4⟩))
   | (go_at_call 34; go_must (refine (HAW.out _ (hl1.trans hb4)).mono ?_; rintro e w5 ⟨rfl, hb5⟩)))
  go_ret
  exact ⟨rfl, (hl1.trans hb4).trans hb5⟩
theorem sdn_any (ts : List Nd) (l : List Ops) (v u : Value) (day : Int) (w : World) (hok : ∀ x ∈ ts, x.ok) (ook : ∀ x ∈ l, x.ok) (hS : Shapes w) (hN : IsNodes w v ts) (hO : IsOps w u l) :
  Calls Tryz.prog 14 #[v, .int .i64 day, u] w fun e w' => e = .returned (.bool true) ∧ Later w w' := by
 by_cases h : ts.length ≤ 100 ∧ l.length ≤ 60
 ·exact sdn_near ts l v u day w hok ook hS hN hO h.1 h.2
 ·exact sdn_far ts l v u day w hS hN hO h
end Go.Proofs.YtkjabiabeemfhaaGreatDoor
end
section
namespace Go.Proofs.YtkjabiabeemfhaaGreatDoor
open Go.RowKit Go.WideShapes Go.ChangeShapes
section
variable {H : Type} {enc : TypeId × Value → H} {P : Program}
theorem post_of_later {f : Func} {s : ChangeSpec} {apart fresh handsOn again : Bool} {W W' : World} {args : Array Value} {v : Value} {ds gs : List (DataW H)} {before pa pv : List MemPlace}
  (hW : DataW.Whole enc P f.params.toList s.vars apart W args.toList ds gs before)
  (hres : ∀ (b : Nat) (sp : Nat → Bool) (hd : Bool), DataW.TrodAll enc P W' b sp hd f.resultTypes.toList (v.resultList f.resultTypes.size) (s.fn H (ds ++ gs)).results [])
  (hargs : ∀ sp : Nat → Bool, (∀ p ∈ before, sp p.block = true) → DataW.TrodAll enc P W' 0 sp true f.params.toList args.toList (s.fn H (ds ++ gs)).args pa)
  (hvars : ∀ sp : Nat → Bool, (∀ p ∈ before, sp p.block = true) → DataW.TrodVars enc P W' sp s.vars (s.fn H (ds ++ gs)).vars pv)
  (hps : before = pa ++ pv) (hb : Later W W')
  (hok : ∀ (j : Nat) (t : TypeId) (r : Value), f.resultTypes[j]? = some t → (v.resultList f.resultTypes.size)[j]? = some r → Value.okWide P W' .any 0 t r) :
  s.post enc P f apart fresh handsOn again W args v W' := by
 have lt : ∀ p ∈ before, p.block < W.heap.size := fun p hp => hW.lt p hp
 have old : ∀ p ∈ before, (fun b => decide (b < W.heap.size)) p.block = true := fun p hp => by simpa using lt p hp
 have kept := Below.frame hb (· ∈ before)
 refine ⟨ds, gs, before, [], pa, pv, hW, hres _ _ _, hargs _ old, hvars _ old, World.keptBut_mono (fun p hp => ⟨hp, ?_⟩) kept, fun _ => ?_⟩
 ·rw [hps, List.mem_append] at hp
  exact .inr hp
 ·obtain ⟨_, _, _, _, _, hz, hn⟩ := hW
  refine ⟨hok, _, _, ([] ++ pa) ++ pv, ⟨[] ++ pa, pv, trodAll_append (hargs _ (fun _ _ => rfl)) (hres _ _ _), hvars _ (fun _ _ => rfl), rfl, ?_, ?_⟩, ?_⟩
  ·intro b off hp
   have mem : MemPlace.cell b off ∈ before := by rw [hps]; simpa using hp
   rw [Below.frozen hb (lt _ mem)]
   exact hz b off mem
  ·intro ha
   have := hn ha
   rw [hps] at this
   simpa using this
  ·intro p hp _
   rw [hps]
   simpa using hp
end
theorem wf_i64 {x : Int} (h : (Lit.int .i64 x).wf = true) : -9223372036854775808 ≤ x ∧ x ≤ 9223372036854775807 := by
 simp [Lit.wf, IntKind.min, IntKind.max, IntKind.signed, IntKind.bits] at h
 omega
end Go.Proofs.YtkjabiabeemfhaaGreatDoor
end
section
namespace Go.Proofs.YtkjabiabeemfhaaGreatDoor
open Go.ChangeShapes Go.WideShapes Go.ChangeAt Go.RowKit
set_option maxRecDepth 100000
section
variable {H : Type} {enc : TypeId × Value → H} {W : World} {r : Reach} {base : Nat} {sp : Nat → Bool} {held : Bool}
theorem int_of_trod {t : TypeId} {n : Nat} {cs : List Value} {y : DataW H × List MemPlace} (ht : Tryz.prog.underlying t = some (.int .i64)) (h : DataW.trod enc Tryz.prog W 0 sp held n t cs = some y) : ∃ a, cs = [.int .i64 a] ∧ I64 a := by
 obtain ⟨a, h1, _, h2⟩ := DataW.trod_int ht h
 exact ⟨a, h1, wf_i64 h2⟩
theorem len2 {α : Type} {l : List α} (h : l.length = 2) : ∃ a b, l = [a, b] := by match l, h with | [a, b], _ => exact ⟨a, b, rfl⟩
theorem len5 {α : Type} {l : List α} (h : l.length = 5) : ∃ a b c d e, l = [a, b, c, d, e] := by match l, h with | [a, b, c, d, e], _ => exact ⟨a, b, c, d, e, rfl⟩
theorem len6 {α : Type} {l : List α} (h : l.length = 6) : ∃ a b c d e g, l = [a, b, c, d, e, g] := by match l, h with | [a, b, c, d, e, g], _ => exact ⟨a, b, c, d, e, g, rfl⟩
theorem some_of_lt {α : Type} {xs : List α} {i : Nat} (h : i < xs.length) : ∃ y, xs[i]? = some y := ⟨_, List.getElem?_eq_getElem h⟩
theorem ratio_of_trod {n : Nat} {cs : List Value} {y : DataW H × List MemPlace} (h : DataW.trod enc Tryz.prog W 0 sp held n 53 cs = some y) : ∃ a b, cs = [.int .i64 a, .int .i64 b] ∧ I64 a ∧ I64 b := by
 obtain ⟨xs, m, _, _, hl, hlen, hf⟩ := DataW.trod_struct Tryz.underlying53 h
 have c0 : Tryz.prog.cellsOf 53 = 2 := by kernel_rfl
 have c1 : Tryz.prog.cellsOf 3 = 1 := by kernel_rfl
 have hlen : xs.length = 2 := hlen
 have f0 : DataW.trod enc Tryz.prog W 0 sp held m 3 ((cs.drop 0).take (Tryz.prog.cellsOf 3)) = xs[0]? := hf 0 _ rfl
 have f1 : DataW.trod enc Tryz.prog W 0 sp held m 3 ((cs.drop 1).take (Tryz.prog.cellsOf 3)) = xs[1]? := hf 1 _ rfl
 obtain ⟨y0, e0⟩ := some_of_lt (xs := xs) (i := 0) (by omega)
 obtain ⟨y1, e1⟩ := some_of_lt (xs := xs) (i := 1) (by omega)
 rw [c1, e0] at f0
 rw [c1, e1] at f1
 rw [c0] at hl
 obtain ⟨a, b, rfl⟩ := len2 hl
 clear hf hl h
 ·skip
  obtain ⟨p, hp, ip⟩ := int_of_trod Tryz.underlying3 f0
  obtain ⟨q, hq, iq⟩ := int_of_trod Tryz.underlying3 f1
  simp at hp hq
  subst hp hq
  exact ⟨p, q, rfl, ip, iq⟩
theorem node_of_trod {n : Nat} {cs : List Value} {y : DataW H × List MemPlace} (h : DataW.trod enc Tryz.prog W 0 sp held n 61 cs = some y) : ∃ x : Nd, x.ok ∧ ∀ j, j < 5 → cs[j]? = some (.int .i64 (x.cell j)) := by
 obtain ⟨xs, m, _, _, hl, hlen, hf⟩ := DataW.trod_struct Tryz.underlying61 h
 have c0 : Tryz.prog.cellsOf 61 = 5 := by kernel_rfl
 have c1 : Tryz.prog.cellsOf 3 = 1 := by kernel_rfl
 have c2 : Tryz.prog.cellsOf 53 = 2 := by kernel_rfl
 have hlen : xs.length = 4 := hlen
 have f0 : DataW.trod enc Tryz.prog W 0 sp held m 3 ((cs.drop 0).take (Tryz.prog.cellsOf 3)) = xs[0]? := hf 0 _ rfl
 have f1 : DataW.trod enc Tryz.prog W 0 sp held m 3 ((cs.drop 1).take (Tryz.prog.cellsOf 3)) = xs[1]? := hf 1 _ rfl
 have f2 : DataW.trod enc Tryz.prog W 0 sp held m 3 ((cs.drop 2).take (Tryz.prog.cellsOf 3)) = xs[2]? := hf 2 _ rfl
 have f3 : DataW.trod enc Tryz.prog W 0 sp held m 53 ((cs.drop 3).take (Tryz.prog.cellsOf 53)) = xs[3]? := hf 3 _ rfl
 obtain ⟨y0, e0⟩ := some_of_lt (xs := xs) (i := 0) (by omega)
 obtain ⟨y1, e1⟩ := some_of_lt (xs := xs) (i := 1) (by omega)
 obtain ⟨y2, e2⟩ := some_of_lt (xs := xs) (i := 2) (by omega)
 obtain ⟨y3, e3⟩ := some_of_lt (xs := xs) (i := 3) (by omega)
 rw [c1, e0] at f0
 rw [c1, e1] at f1
 rw [c1, e2] at f2
 rw [c2, e3] at f3
 rw [c0] at hl
 obtain ⟨a, b, c, d, e, rfl⟩ := len5 hl
 clear hf hl h
 ·skip
  obtain ⟨p, hp, ip⟩ := int_of_trod Tryz.underlying3 f0
  obtain ⟨q, hq, iq⟩ := int_of_trod Tryz.underlying3 f1
  obtain ⟨r, hr, ir⟩ := int_of_trod Tryz.underlying3 f2
  obtain ⟨s, t, hs, is, it⟩ := ratio_of_trod f3
  simp at hp hq hr hs
  obtain ⟨hs, ht⟩ := hs
  subst hp hq hr hs ht
  refine ⟨⟨p, q, r, s, t⟩, ⟨ip, iq, ir, is, it⟩, fun j hj => ?_⟩
  rcases j with _ | _ | _ | _ | _ | j
  all_goals first | rfl | omega
theorem told_of_trod {n : Nat} {cs : List Value} {y : DataW H × List MemPlace} (h : DataW.trod enc Tryz.prog W 0 sp held n 55 cs = some y) : ∃ x : Td, x.ok ∧ ∀ j, j < 6 → cs[j]? = some (x.cell j) := by
 obtain ⟨xs, m, _, _, hl, hlen, hf⟩ := DataW.trod_struct Tryz.underlying55 h
 have c0 : Tryz.prog.cellsOf 55 = 6 := by kernel_rfl
 have c1 : Tryz.prog.cellsOf 3 = 1 := by kernel_rfl
 have c2 : Tryz.prog.cellsOf 53 = 2 := by kernel_rfl
 have c4 : Tryz.prog.cellsOf 4 = 1 := by kernel_rfl
 have hlen : xs.length = 5 := hlen
 have f0 : DataW.trod enc Tryz.prog W 0 sp held m 4 ((cs.drop 0).take (Tryz.prog.cellsOf 4)) = xs[0]? := hf 0 _ rfl
 have f1 : DataW.trod enc Tryz.prog W 0 sp held m 3 ((cs.drop 1).take (Tryz.prog.cellsOf 3)) = xs[1]? := hf 1 _ rfl
 have f2 : DataW.trod enc Tryz.prog W 0 sp held m 3 ((cs.drop 2).take (Tryz.prog.cellsOf 3)) = xs[2]? := hf 2 _ rfl
 have f3 : DataW.trod enc Tryz.prog W 0 sp held m 53 ((cs.drop 3).take (Tryz.prog.cellsOf 53)) = xs[3]? := hf 3 _ rfl
 have f4 : DataW.trod enc Tryz.prog W 0 sp held m 3 ((cs.drop 5).take (Tryz.prog.cellsOf 3)) = xs[4]? := hf 4 _ rfl
 obtain ⟨y0, e0⟩ := some_of_lt (xs := xs) (i := 0) (by omega)
 obtain ⟨y1, e1⟩ := some_of_lt (xs := xs) (i := 1) (by omega)
 obtain ⟨y2, e2⟩ := some_of_lt (xs := xs) (i := 2) (by omega)
 obtain ⟨y3, e3⟩ := some_of_lt (xs := xs) (i := 3) (by omega)
 obtain ⟨y4, e4⟩ := some_of_lt (xs := xs) (i := 4) (by omega)
 rw [c4, e0] at f0
 rw [c1, e1] at f1
 rw [c1, e2] at f2
 rw [c2, e3] at f3
 rw [c1, e4] at f4
 rw [c0] at hl
 obtain ⟨a, b, c, d, e, g, rfl⟩ := len6 hl
 clear hf hl h
 ·skip
  obtain ⟨p, hp, _⟩ := DataW.trod_bool Tryz.underlying4 f0
  obtain ⟨q, hq, iq⟩ := int_of_trod Tryz.underlying3 f1
  obtain ⟨r, hr, ir⟩ := int_of_trod Tryz.underlying3 f2
  obtain ⟨s, t, hs, is, it⟩ := ratio_of_trod f3
  obtain ⟨u, hu, iu⟩ := int_of_trod Tryz.underlying3 f4
  simp at hp hq hr hs hu
  obtain ⟨hs, ht⟩ := hs
  subst hp hq hr hs ht hu
  refine ⟨⟨p, q, r, s, t, u⟩, ⟨iq, ir, is, it, iu⟩, fun j hj => ?_⟩
  rcases j with _ | _ | _ | _ | _ | _ | j
  all_goals first | rfl | omega
theorem kidsAll : Kids Tryz.prog (· < Tryz.prog.types.size) := kids_rows (by kernel_rfl) (by kernel_rfl)
theorem slicesFull : ∀ t e, t < Tryz.prog.types.size → Tryz.prog.underlying t = some (.slice e) → 0 < Tryz.prog.cellsOf e := slices_full_of Tryz.prog (by kernel_rfl)
theorem same_later {W W' : World} (hb : Later W W') {p : MemPlace} (h : p.block < W.heap.size) : W.sameAt W' p := by
 cases p with
 | cell b o => exact (bcell hb).1 b o h
 | map b => exact hb.block b h
theorem carryAll {P : Program} {W W' : World} : ∀ {ts : List TypeId} {vs : List Value} {ds : List (DataW H)} {ps : List MemPlace}, DataW.TrodAll enc P W base sp held ts vs ds ps → (∀ p ∈ ps, W.sameAt W' p) → DataW.TrodAll enc P W' base sp held ts vs ds ps
 | [], [], [], _, h, _ => h
 | _ :: _, _ :: _, _ :: _, _, ⟨p, q, ⟨n, h1⟩, h2, e⟩, hs => ⟨p, q, ⟨n, DataW.trod_carry _ _ _ _ h1 (fun x hx => hs x (by rw [e]; exact List.mem_append_left _ hx))⟩, carryAll h2 (fun x hx => hs x (by rw [e]; exact List.mem_append_right _ hx)), e⟩
theorem args_stay {W W' : World} {ts : List TypeId} {vs : List Value} {ds : List (DataW H)} {ps : List MemPlace} {sp : Nat → Bool} (ht : ∀ t ∈ ts, t < Tryz.prog.types.size) (h : DataW.TrodAll enc Tryz.prog W 0 (fun _ => true) true ts vs ds ps)
  (lt : ∀ p ∈ ps, p.block < W.heap.size) (hb : Later W W') (hs : ∀ p ∈ ps, sp p.block = true) : DataW.TrodAll enc Tryz.prog W' 0 sp true ts vs ds ps :=
 (carryAll h (fun p hp => same_later hb (lt p hp))).respare kidsAll slicesFull ht hs
end
end Go.Proofs.YtkjabiabeemfhaaGreatDoor
end
section
namespace Go.Proofs.YtkjabiabeemfhaaGreatDoor
open Go.ChangeShapes Go.WideShapes Go.ChangeAt Go.RowKit
abbrev laidT : List (String × DataW Unit) := Rows.denoteUpToRow.laid
def nameT : String := ((Rows.denoteUpToRow.laid.head?).map (·.1)).getD ""
def shpD (op : Int) : DataW Unit := .agg [.lit (.int .i64 (shp op 0)), .lit (.int .i64 (shp op 1)), .agg [.lit (.int .i64 (shp op 2)), .lit (.int .i64 (shp op 3)), .lit (.int .i64 (shp op 4)), .lit (.int .i64 (shp op 5))]]
theorem laid_shapes : Rows.laid_chattel_term_shapes (H := Unit) = .agg ((List.range 18).map fun i => shpD (i : Nat)) := by rfl
set_option maxRecDepth 100000
section
variable {enc : TypeId × Value → Unit} {W : World} {sp : Nat → Bool} {held : Bool}
theorem len4 {α : Type} {l : List α} (h : l.length = 4) : ∃ a b c d, l = [a, b, c, d] := by match l, h with | [a, b, c, d], _ => exact ⟨a, b, c, d, rfl⟩
theorem four_of_trod {n : Nat} {cs : List Value} {y : DataW Unit × List MemPlace} {p q r s : Int} (h : DataW.trod enc Tryz.prog W 0 sp held n 212 cs = some y) (hy : y.1 = .agg [.lit (.int .i64 p), .lit (.int .i64 q), .lit (.int .i64 r), .lit (.int .i64 s)]) :
  cs = [.int .i64 p, .int .i64 q, .int .i64 r, .int .i64 s] := by
 obtain ⟨xs, m, _, hx, hl, hlen, hf⟩ := DataW.trod_array Tryz.underlying212 h
 have c0 : Tryz.prog.cellsOf 212 = 4 := by kernel_rfl
 have c1 : Tryz.prog.cellsOf 3 = 1 := by kernel_rfl
 have f0 : DataW.trod enc Tryz.prog W 0 sp held m 3 ((cs.drop (0 * Tryz.prog.cellsOf 3)).take (Tryz.prog.cellsOf 3)) = xs[0]? := hf 0 (by omega)
 have f1 : DataW.trod enc Tryz.prog W 0 sp held m 3 ((cs.drop (1 * Tryz.prog.cellsOf 3)).take (Tryz.prog.cellsOf 3)) = xs[1]? := hf 1 (by omega)
 have f2 : DataW.trod enc Tryz.prog W 0 sp held m 3 ((cs.drop (2 * Tryz.prog.cellsOf 3)).take (Tryz.prog.cellsOf 3)) = xs[2]? := hf 2 (by omega)
 have f3 : DataW.trod enc Tryz.prog W 0 sp held m 3 ((cs.drop (3 * Tryz.prog.cellsOf 3)).take (Tryz.prog.cellsOf 3)) = xs[3]? := hf 3 (by omega)
 clear hf h
 rw [c1] at f0 f1 f2 f3
 rw [c0] at hl
 obtain ⟨a, b, c, d, rfl⟩ := len4 hl
 obtain ⟨y0, y1, y2, y3, rfl⟩ := len4 hlen
 subst hx
 simp only [List.map_cons, List.map_nil, DataW.agg.injEq, List.cons.injEq, and_true] at hy
 obtain ⟨h0, h1, h2, h3⟩ := hy
 obtain ⟨z0, a0, b0, _⟩ := DataW.trod_int Tryz.underlying3 (x := y0) f0
 obtain ⟨z1, a1, b1, _⟩ := DataW.trod_int Tryz.underlying3 (x := y1) f1
 obtain ⟨z2, a2, b2, _⟩ := DataW.trod_int Tryz.underlying3 (x := y2) f2
 obtain ⟨z3, a3, b3, _⟩ := DataW.trod_int Tryz.underlying3 (x := y3) f3
 subst b0 b1 b2 b3
 simp at a0 a1 a2 a3 h0 h1 h2 h3
 subst a0 a1 a2 a3 h0 h1 h2 h3
 rfl
theorem shape_of_trod {n : Nat} {cs : List Value} {y : DataW Unit × List MemPlace} {op : Int} (h : DataW.trod enc Tryz.prog W 0 sp held n 214 cs = some y) (hy : y.1 = shpD op) (j : Nat) (hj : j < 6) :
  cs[j]? = some (.int .i64 (shp op j)) := by
 obtain ⟨xs, m, _, hx, hl, hlen, hf⟩ := DataW.trod_struct Tryz.underlying214 h
 have c0 : Tryz.prog.cellsOf 214 = 6 := by kernel_rfl
 have c1 : Tryz.prog.cellsOf 3 = 1 := by kernel_rfl
 have c4 : Tryz.prog.cellsOf 212 = 4 := by kernel_rfl
 have hlen : xs.length = 3 := hlen
 have f0 : DataW.trod enc Tryz.prog W 0 sp held m 3 ((cs.drop 0).take (Tryz.prog.cellsOf 3)) = xs[0]? := hf 0 _ rfl
 have f1 : DataW.trod enc Tryz.prog W 0 sp held m 3 ((cs.drop 1).take (Tryz.prog.cellsOf 3)) = xs[1]? := hf 1 _ rfl
 have f2 : DataW.trod enc Tryz.prog W 0 sp held m 212 ((cs.drop 2).take (Tryz.prog.cellsOf 212)) = xs[2]? := hf 2 _ rfl
 clear hf h
 rw [c1] at f0 f1
 rw [c4] at f2
 rw [c0] at hl
 obtain ⟨a, b, c, d, e, g, rfl⟩ := len6 hl
 obtain ⟨y0, y1, y2, rfl⟩ : ∃ a b c, xs = [a, b, c] := by match xs, hlen with | [a, b, c], _ => exact ⟨a, b, c, rfl⟩
 subst hx
 unfold shpD at hy
 simp only [List.map_cons, List.map_nil, DataW.agg.injEq, List.cons.injEq, and_true] at hy
 obtain ⟨h0, h1, h2⟩ := hy
 obtain ⟨z0, a0, b0, _⟩ := DataW.trod_int Tryz.underlying3 (x := y0) f0
 obtain ⟨z1, a1, b1, _⟩ := DataW.trod_int Tryz.underlying3 (x := y1) f1
 have h4 := four_of_trod (y := y2) f2 h2
 subst b0 b1
 simp at a0 a1 h0 h1 h4
 obtain ⟨e1, e2, e3, e4⟩ := h4
 subst a0 a1 h0 h1 e1 e2 e3 e4
 rcases j with _ | _ | _ | _ | _ | _ | j
 all_goals first | rfl | omega
end
theorem shapes_of_laid {W : World} (h : laidMetH Tryz.prog laidT W) : Shapes W := by
 rw [MakeChecks.laidMetH_plain _ _ _ (by kernel_rfl)] at h
 obtain ⟨ps, ⟨g, t, cs, fuel, p, q, hg, ht, hv, hd, _, _⟩, _, _⟩ := h
 obtain rfl := Option.some.inj ((show Tryz.prog.globalNamed nameT = some 0 by kernel_rfl).symm.trans hg)
 obtain rfl := Option.some.inj ((show (Tryz.prog.globals[0]?).map (·.type) = some 255 by kernel_rfl).symm.trans ht)
 have c1 : Tryz.prog.cellsOf 214 = 6 := by kernel_rfl
 obtain ⟨xs, m, _, ex, hlen, hl, hel⟩ := DataW.trod_array Tryz.underlying255 hd
 rw [laid_shapes] at ex
 have e1 : (List.range 18).map (fun i => shpD (i : Nat)) = xs.map (·.1) := DataW.agg.inj (Prod.mk.inj ex).1
 have key : ∀ op : Nat, op < 18 → ∀ j, j < 6 → W.cell? ⟨0, op * 6 + j, none⟩ = some (.int .i64 (shp op j)) := by
  intro op ho j hj
  rw [World.var?_cell hg hv]
  obtain ⟨y, hy⟩ := some_of_lt (xs := xs) (i := op) (by omega)
  have h1 := hel op ho
  rw [hy, c1] at h1
  have h2 : y.1 = shpD (op : Nat) := by
   have := congrArg (fun l => l[op]?) e1
   simp only [List.getElem?_map, hy, Option.map_some] at this
   rw [List.getElem?_range ho] at this
   simpa using this.symm
  have h3 := shape_of_trod h1 h2 j hj
  rw [List.getElem?_take_of_lt hj, List.getElem?_drop] at h3
  rw [← Array.getElem?_toList]
  exact h3
 exact ⟨by have := World.block_lt_of_cell? _ _ (key 0 (by omega) 0 (by omega)); omega, key⟩
end Go.Proofs.YtkjabiabeemfhaaGreatDoor
end
