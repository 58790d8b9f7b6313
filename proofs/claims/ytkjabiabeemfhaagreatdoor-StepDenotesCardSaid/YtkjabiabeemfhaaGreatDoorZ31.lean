/- facts that are told more only (plain) -/
import Derived.Test.YtkjabiabeemfhaaGreatDoorZ28
import Derived.Test.YtkjabiabeemfhaaGreatDoorZ29
import Derived.Test.YtkjabiabeemfhaaGreatDoorZ30
import Derived.Deep.LoopGhost
import Derived.Test.YtkjabiabeemfhaaGreatDoorZ10
import Derived.Test.YtkjabiabeemfhaaGreatDoorZ20
import Derived.Test.YtkjabiabeemfhaaGreatDoorZ17
import Derived.Test.YtkjabiabeemfhaaGreatDoorZ13
set_option linter.all false
set_option linter.all false
section
namespace Go.Proofs.YtkjabiabeemfhaaGreatDoor
open Go.RowKit
set_option maxRecDepth 100000
theorem held_cut (q : Option Addr) (n c : Nat) (hn : 1 ≤ n) (hc : n ≤ c) (W : World) : (Instr.slice 168 (.slice q n c) (some (.int .i64 1)) none none).run Tryz.prog W = .ok (sliced q 1 n c 4) W := by
 rw [run_slice_l _ _ _ _ _ (by kernel_rfl) _ _ (by omega) (by omega)]
 have e : (sizeOf (Tryz.prog.elem 168)).run Tryz.prog W = .ok 4 W := by kernel_rfl
 rw [e]; rfl
theorem TurnAt.cut {lo : Nat} {w : World} {b : Nat} {tv : Value} {tod : Int} {fp kv fv wv : Value} {K : List Hd} {F : List Fl} {W : List Wt} {p : Addr} {n cap : Nat} {h : Hd} {r : List Hd} {w1 : World} (hst : TurnAt lo w b tv tod fp (.slice (some p) n cap) kv fv wv (h :: r) K F W) (hn : n = r.length + 1) (hl : Later w w1) :
  TurnAt lo (w1.setCell ⟨b, 0, none⟩ (sliced (some p) 1 n cap 4)) b tv tod fp (sliced (some p) 1 n cap 4) kv fv wv r K F W ∧ S.LatB (fun k => k = b) w (w1.setCell ⟨b, 0, none⟩ (sliced (some p) 1 n cap 4)) := by
 have hq := hst.next
 rw [show (h :: r).length = n from by rw [hn]; rfl] at hq
 obtain ⟨-, -, h3, h4⟩ := que_pop hq hn
 have hb : (Value.slice (some p) n cap).ownBlock = some p.block := rfl
 have hnb : (sliced (some p) 1 n cap 4).ownBlock ≠ some b := by rw [h4, ← hb]; exact hst.nvb
 have hs := hst.later hl
 have hap : ∀ {u : Value}, B.Apart (.slice (some p) n cap) u → B.Apart (sliced (some p) 1 n cap 4) u := fun ha k hk => ha k (by rw [hb, ← h4]; exact hk)
 exact ⟨⟨B.own_at hs.own (by simp) _, hst.lob, (h3.later hl).set hnb _, hs.kept.set hst.kvb _, hs.flows.set hst.fvb _, hs.waits.set hst.wvb _, hnb, hst.kvb, hst.fvb, hst.wvb, hap hst.nk, hap hst.nf, hap hst.nw, hst.kf, hst.kw, hst.fw⟩, S.LatB.setCell (S := fun k => k = b) (S.LatB.of hl) (.inl rfl) _⟩
def GoEnd (g : Int × List Fl × RunS) (w : World) (rb : Nat) (ts : List Nd) (tv lv wv : Value) (e : Ending) (w' : World) : Prop :=
 ∃ fv lv' wv', e = .returned (.tuple #[fv, .int .i64 g.1]) ∧ IsFlows w' fv g.2.1 ∧ (∀ k, fv.ownBlock = some k → w.heap.size ≤ k) ∧ RunAt w' rb ts tv lv' wv' g.2.2 ∧ ((lv' = lv ∧ wv' = wv) ∨ ∀ k, lv'.ownBlock = some k ∨ wv'.ownBlock = some k → w.heap.size ≤ k) ∧ S.LatB (fun k => k = rb) w w'
set_option maxHeartbeats 1600000 in
theorem rgo_day {w : World} {rb : Nat} {ts : List Nd} {tv lv wv : Value} {s : RunS} (h : RunAt w rb ts tv lv wv s) (tod : Int) (fp : Value) (hd : tod < s.day ∨ 73048 < tod) :
  Calls Tryz.prog 38 #[.pointer (some ⟨rb, 0, none⟩), .int .i64 tod, fp] w fun e w' => e = .returned (.tuple #[.slice none 0 0, .int .i64 18]) ∧ Later w w' := by
 obtain ⟨d, hdd⟩ : ∃ d, s.day = d := ⟨_, rfl⟩
 obtain ⟨⟨z, c, -⟩, -⟩ := id h.own
 rw [hdd] at c hd
 have c2 : w.cell? ⟨rb, 2, none⟩ = some (.int .i64 d) := c 2
 clear h c hdd
 by_cases h1 : tod < d
 ·clear hd
  go_enter Tryz.func38, Tryz.ntmps38
  go_wp2
  go_step3
  go_wp2
  rw [Exit.noGoto_ret]
  go_ret2
  exact ⟨rfl, by repeat (first | with_reducible (first | exact zq1 _ | assumption | refine zq2 ?_ | refine zq4 ?_ ?_ _ | refine zq5 ?_ _ | refine zq6 ?_ _ | refine zq7 ?_ | refine zq8 ?_ (by assumption)) | (simp only [zq10]; omega) | (simp; done) | (simp; omega))⟩
 ·have h2 : 73048 < tod := by omega
  clear hd
  go_enter Tryz.func38, Tryz.ntmps38
  go_wp2
  go_step3
  go_wp2
  rw [Exit.noGoto_ret]
  go_ret2
  exact ⟨rfl, by repeat (first | with_reducible (first | exact zq1 _ | assumption | refine zq2 ?_ | refine zq4 ?_ ?_ _ | refine zq5 ?_ _ | refine zq6 ?_ _ | refine zq7 ?_ | refine zq8 ?_ (by assumption)) | (simp only [zq10]; omega) | (simp; done) | (simp; omega))⟩
set_option maxHeartbeats 8000000 in
theorem rgo_run {w0 : World} {ts : List Nd} {T : Tm} {tv : Value} {fx : FxL} {ch : ChL} {p m1 m2 : Nat} (hJ : JobAt w0 ts T tv fx ch p m1 m2) {rb : Nat} {lv wv : Value} {s : RunS} (h : RunAt w0 rb ts tv lv wv s) (hok : ∀ h ∈ s.L, HdOk ts h) (hsz : sizesH s.L ≤ 64) (hday : -1 ≤ s.day) (tod : Int) (hd : ¬ (tod < s.day ∨ 73048 < tod)) :
  Calls Tryz.prog 38 #[.pointer (some ⟨rb, 0, none⟩), .int .i64 tod, .pointer (some ⟨p, 0, none⟩)] w0 (GoEnd (goR (envT fx ch) s tod) w0 rb ts tv lv wv) := by
 obtain ⟨R, hR⟩ : ∃ R, runQ (envT fx ch) tod (sizesH s.L) s.L = R := ⟨_, rfl⟩
 obtain ⟨KT, hKT⟩ : ∃ K, keptQ (envT fx ch) tod (sizesH s.L) s.L = K := ⟨_, rfl⟩
 have HLF : Hid (LeftG (envT fx ch) tod R KT [] [] [] s.L) := Lib.hid (by rw [← hR, ← hKT]; exact leftg_first _ _ _)
 have HGO : Hid ((R.1 ≠ 0 → goR (envT fx ch) s tod = (R.1, [], s)) ∧ (R.1 = 0 → goR (envT fx ch) s tod = (0, sortL ordF R.2.1, ⟨KT, tod, waitL R.2.2⟩))) := Lib.hid ⟨fun h0 => by rw [goR_over hd (by rw [hR]; exact h0), hR], fun h0 => by rw [goR_done hd (by rw [hR]; exact h0), hR, hKT]⟩
 obtain ⟨P, hP⟩ : ∃ P, GoEnd (goR (envT fx ch) s tod) w0 rb ts tv lv wv = P := ⟨_, rfl⟩
 rw [hP]
 have HP := Lib.hid hP
 have HLEN := Lib.hid (sizesH_len s.L)
 have HCL := Lib.hid (fun W (hl : Later w0 W) => clone_held s.L (by have := sizesH_len s.L; omega) lv W ((h.later hl).held))
 have HOK := Lib.hid (show (∀ h ∈ s.L, HdOk ts h) ∧ sizesH s.L ≤ 64 from ⟨hok, hsz⟩)
 obtain ⟨tb, tq, tc, htv, -, -, -⟩ := hJ.nodes.full (i := 0) (by rw [← hJ.good.at.2]; exact T.size_pos)
 subst htv
 have HJ := Lib.hid hJ
 have HRUN := Lib.hid h
 obtain ⟨d, hdd⟩ : ∃ d, s.day = d := ⟨_, rfl⟩
 obtain ⟨⟨z, c, f⟩, -⟩ := id h.own
 obtain ⟨lp, lc, rfl⟩ := h.held.form
 obtain ⟨N, hN⟩ : ∃ n, s.L.length = n := ⟨_, rfl⟩
 rw [hdd, hN] at c
 rw [hN] at HCL
 have c0 : w0.cell? ⟨rb, 0, none⟩ = some (.slice (some ⟨tb, tq, none⟩) ts.length tc) := c 0
 have c1 : w0.cell? ⟨rb, 1, none⟩ = some (.slice lp N lc) := c 1
 have c2 : w0.cell? ⟨rb, 2, none⟩ = some (.int .i64 d) := c 2
 rw [hdd] at hd hday
 have n1 : ¬ tod < d := by omega
 have n2 : ¬ 73048 < tod := by omega
 have HNN := Lib.hid hN
 clear h c f hdd hR hKT hP hok hsz hJ hN
 go_enter Tryz.func38, Tryz.ntmps38
 go_wp2
 go_step3
 go_upto_region 5 with (fail)
 go_cut [8] (fun s8 wx => ∃ C nv, s8 = .pointer (some ⟨C, 0, none⟩) ∧ Hid (TurnAt w0.heap.size wx C (.slice (some ⟨tb, tq, none⟩) ts.length tc) tod (.pointer (some ⟨p, 0, none⟩)) nv (.slice none 0 0) (.slice none 0 0) (.slice none 0 0) s.L [] [] []) ∧ Later w0 wx)
 case first =>
  refine wp_region_plan 15 (.two [0, 6, 10, 11] 1 (.two [2, 3] 4 (.one [5] 7 (.one [8, 9, 12] 13 (.done [14]))) 7 (.one [8, 9] 4 (.one [5, 12] 13 (.done [14])))) 7 (.one [8, 9] 1 (.one [2, 3] 4 (.one [5, 12] 13 (.done [14]))))) (by kernel_rfl) (by kernel_rfl) (fun _ _ d _ _ h => by cases d <;> exact h) ?_
  repeat' (first
   | ((first | refine plan_done (fun K hK => ?_) | refine plan_one (by rfl) (fun K hK => ?_)); (first | (simp only [zq9]; repeat (go_big_quiet_step (fail))) | simp only [pick_nil]); refine wpQuiet_nil (hK _ ?_); clear hK K)
   | (refine plan_two (by rfl) (by rfl) (fun K hK => ?_); (first | (simp only [zq9]; repeat (go_big_quiet_step (fail))) | simp only [pick_nil]); refine wpQuiet_nil (hK _ ?_); clear hK K; refine ⟨?_, ?_⟩)
   | ((with_reducible refine at_list ?_); go_wp2_with ((go_at_call 82; go_must (refine (HCL.out _ (by repeat (first | with_reducible (first | exact zq1 _ | assumption | refine zq2 ?_ | refine zq4 ?_ ?_ _ | refine zq5 ?_ _ | refine zq6 ?_ _ | refine zq7 ?_ | refine zq8 ?_ (by assumption)) | (simp only [zq10]; omega) | (simp; done) | (simp; omega)))).mono ?_; rintro e ua ⟨v9, rfl, -, hq9, hua⟩; (try simp only [World.size_alloc, World.size_drew] at hq9); obtain ⟨p9, c9, rfl⟩ := hq9.form; have hz9 := hua.size; (try simp only [World.size_alloc, World.size_drew] at hz9); have e0 : ua.cell? ⟨rb, 0, none⟩ = some (.slice (some ⟨tb, tq, none⟩) ts.length tc) := ((bcell hua.undrew').1 _ 0 z).trans c0; have ez : rb < ua.heap.size := Nat.lt_of_lt_of_le z hua.undrew'.size))); first | refine behind_store (t := 15) (by decide) ?_ | refine behind (by with_reducible repeat (first | exact zq1 _ | assumption | refine zq2 ?_ | refine zq5 ?_ _ | refine zq6 ?_ _ | refine zq7 ?_ | refine zq8 ?_ (by assumption))) ?_))
  all_goals
   go_wp2_with fail
   go_meet
   have hown : Own (ua.alloc (.cells #[.slice p9 N c9, .slice none 0 0, .slice none 0 0, .slice none 0 0, .slice (some ⟨tb, tq, none⟩) ts.length tc, .int .i64 tod, .pointer (some ⟨p, 0, none⟩)] 178)) [(ua.heap.size, #[.slice p9 N c9, .slice none 0 0, .slice none 0 0, .slice none 0 0, .slice (some ⟨tb, tq, none⟩) ts.length tc, .int .i64 tod, .pointer (some ⟨p, 0, none⟩)])] := own_alloc _ _ _
   refine ⟨_, _, rfl, Lib.hid ⟨hown, hz9, by rw [HNN.out]; exact hq9.later ((Later.refl _).alloc _), B.Que.nil _ _ _, B.Que.nil _ _ _, B.Que.nil _ _ _, fun e => by have := (hq9.lo _ e).2; omega, by simp [Value.ownBlock], by simp [Value.ownBlock], by simp [Value.ownBlock], B.Apart.none _, B.Apart.none _, B.Apart.none _, B.Apart.none _, B.Apart.none _, B.Apart.none _⟩, by repeat (first | with_reducible (first | exact zq1 _ | assumption | refine zq2 ?_ | refine zq4 ?_ ?_ _ | refine zq5 ?_ _ | refine zq6 ?_ _ | refine zq7 ?_ | refine zq8 ?_ (by assumption)) | (simp only [zq10]; omega) | (simp; done) | (simp; omega))⟩
 case rest =>
  obtain ⟨b, nv0, rfl, HT0, hl0⟩ := hcut
  obtain ⟨w3, rfl⟩ : ∃ x, x = wc := ⟨_, rfl⟩
  clear c0 c1 c2 n1 HCL HNN
  have hbr : rb < w0.heap.size := z
  have hlob : w0.heap.size ≤ b := HT0.out.lob
  go_wp2
  go_step3
  go_wp2
  go_loopg [9] (sizesH s.L) (fun g s9 wr => s9 = .int .i64 0 ∧ Later w0 wr ∧ ∃ (nv kv fv vv : Value) (H K : List Hd) (F : List Fl) (W : List Wt), Hid (TurnAt w0.heap.size wr b (.slice (some ⟨tb, tq, none⟩) ts.length tc) tod (.pointer (some ⟨p, 0, none⟩)) nv kv fv vv H K F W) ∧ Hid ((∀ h ∈ H, HdOk ts h) ∧ LeftG (envT fx ch) tod R KT F W K H ∧ sizesH H = g ∧ F.length + g ≤ 64 ∧ sizesH K + g ≤ 64 ∧ W.length + 128 * g ≤ 8192))
  case atStart => exact ⟨rfl, hl0, _, _, _, _, _, _, _, _, HT0, Lib.hid ⟨HOK.out.1, HLF.out, rfl, by have := HOK.out.2; simp; omega, by have := HOK.out.2; simp [sizesH] at this ⊢; omega, by have := HOK.out.2; simp; omega⟩⟩
  case round =>
   obtain ⟨rfl, hlr, nv, kv, fv, vv, H, K, F, W, HS, HX⟩ := hrel
   obtain ⟨⟨zb, cb, fb⟩, -⟩ := id HS.out.own
   have c0 : wr.cell? ⟨b, 0, none⟩ = some nv := cb 0
   have f0 : wr.frozen? ⟨b, 0, none⟩ = false := fb 0 (by simp)
   clear cb fb hl0 HT0
   cases H with
   | nil =>
    obtain ⟨rp, rc, rfl⟩ := HS.out.next.form
    have HR := Lib.hid (leftg_nil HX.out.2.1)
    simp only [List.length_nil] at c0 HS
    obtain ⟨⟨zb', cb, fb⟩, -⟩ := id HS.out.own
    obtain ⟨vp, vc, rfl⟩ := HS.out.waits.form
    obtain ⟨fp, fc, rfl⟩ := HS.out.flows.form
    obtain ⟨kp, kc, rfl⟩ := HS.out.kept.form
    have c1 : wr.cell? ⟨b, 1, none⟩ = some (.slice kp K.length kc) := cb 1
    have c2 : wr.cell? ⟨b, 2, none⟩ = some (.slice fp F.length fc) := cb 2
    have c3 : wr.cell? ⟨b, 3, none⟩ = some (.slice vp W.length vc) := cb 3
    clear cb fb zb'
    have HSW := Lib.hid (fun hw => sort_swaits W hw w0.heap.size _ wr HS.out.waits)
    have HSF := Lib.hid (fun W1 (hl : S.LatB (fun k => (Value.slice vp W.length vc).ownBlock = some k) wr W1) hf => sort_sflows F hf w0.heap.size _ W1 (HS.out.flows.carry hl.size (fun k hk => hl.block k (HS.out.flows.lo k hk).2 (fun e => HS.out.fw k hk e))))
    have hFW : F.length ≤ 64 ∧ W.length ≤ 8192 ∧ K.length ≤ 64 := by
     obtain ⟨-, -, -, h1, h2, h3⟩ := HX.out
     have := sizesH_len K
     omega
    have HFW := Lib.hid hFW
    obtain ⟨NW, hNW⟩ : ∃ n, W.length = n := ⟨_, rfl⟩
    obtain ⟨NF, hNF⟩ : ∃ n, F.length = n := ⟨_, rfl⟩
    obtain ⟨NK, hNK⟩ : ∃ n, K.length = n := ⟨_, rfl⟩
    have HNW := Lib.hid (show W.length = NW ∧ F.length = NF ∧ K.length = NK from ⟨hNW, hNF, hNK⟩)
    have HSW2 := Lib.hid (HSW.out (by omega))
    have HSF2 := Lib.hid (fun W1 hl => HSF.out W1 hl (by omega))
    rw [hNW, hNF, hNK] at HS
    rw [hNW] at c3 HSW2 HSF2
    rw [hNF] at c2 HSF2
    rw [hNK] at c1
    clear HSW HSF hFW hNW hNF hNK
    have hnv : ¬ (Value.slice vp NW vc).ownBlock = some b := HS.out.wvb
    have hnf : ¬ (Value.slice fp NF fc).ownBlock = some b := HS.out.fvb
    go_upto_region 15 with (go_at_call 50; go_must (refine HSW2.out.mono ?_; rintro e w1 ⟨rfl, hq1, hl1⟩))
    have HQ1 := Lib.hid hq1
    replace c1 := (hl1.cell zb hnv).trans c1
    replace c2 := (hl1.cell (p := ⟨b, 2, none⟩) zb hnv).trans c2
    replace c3 := (hl1.cell (p := ⟨b, 3, none⟩) zb hnv).trans c3
    have zb1 := Nat.lt_of_lt_of_le zb hl1.size
    clear hq1 HSW2
    go_upto_region 16 with (go_at_call 48; go_must (refine (HSF2.out _ hl1).mono ?_; rintro e w2 ⟨rfl, hq2, hl2⟩))
    have HQ2 := Lib.hid hq2
    replace c1 := (hl2.cell zb1 hnf).trans c1
    replace c2 := (hl2.cell (p := ⟨b, 2, none⟩) zb1 hnf).trans c2
    replace c3 := (hl2.cell (p := ⟨b, 3, none⟩) zb1 hnf).trans c3
    have zb2 := Nat.lt_of_lt_of_le zb1 hl2.size
    have hl12 : Later w0 w2 := lat_base hl2 (lat_base hl1 hlr (fun k hk => (HS.out.waits.lo k hk).1)) (fun k hk => (HS.out.flows.lo k hk).1)
    have HCQ : Hid (∀ W1, Later w2 W1 → Calls Tryz.prog 55 #[.slice vp NW vc] W1 fun e w' => ∃ v', e = .returned v' ∧ B.Que w0.heap.size 3 w' v' (waitL W).length ((waitL W).flatMap wtCs) ∧ S.LatB (fun k => (Value.slice vp NW vc).ownBlock = some k) W1 w') := Lib.hid (fun W1 hl => by
     have hlen : (sortL ordW W).length = W.length := (sortL_perm ordW W).length_eq
     have := compact_any (sortL ordW W) (by rw [hlen]; have := HFW.out; omega) w0.heap.size (.slice vp NW vc) W1 (by
      rw [hlen, HNW.out.1]
      exact (HQ1.out.carry hl2.size (fun k hk => hl2.block k (HQ1.out.lo k hk).2 (fun e => HS.out.fw k e hk))).later hl)
     exact this)
    obtain ⟨⟨zr, cr, fr⟩, -⟩ := id (HRUN.out.own.later hl12)
    have r1 : w2.cell? ⟨rb, 1, none⟩ = some (.slice lp s.L.length lc) := cr 1
    have r2 : w2.cell? ⟨rb, 2, none⟩ = some (.int .i64 s.day) := cr 2
    have r3 : w2.cell? ⟨rb, 3, none⟩ = some wv := cr 3
    have q1 : w2.frozen? ⟨rb, 1, none⟩ = false := fr 1 (by simp)
    have q2 : w2.frozen? ⟨rb, 2, none⟩ = false := fr 2 (by simp)
    have q3 : w2.frozen? ⟨rb, 3, none⟩ = false := fr 3 (by simp)
    have hrv : ¬ (Value.slice vp NW vc).ownBlock = some rb := fun e => by have := (HS.out.waits.lo rb e).1; omega
    have hbrb : ¬ b = rb := by omega
    have HL1 := Lib.hid hl1
    have HL2 := Lib.hid hl2
    clear cr fr hq2 HSF2 hl2 hl1 zb zb1 hnf c0 f0
    refine S.wp_region_plan (S := (fun k => k = rb ∨ (Value.slice vp NW vc).ownBlock = some k)) 23 (.two [0, 1, 2, 3, 8, 9] 4 (.one [5, 6, 7] 10 (.one [11, 12, 13] 14 (.one [] 15 (.one [16] 17 (.one [] 18 (.one [19] 20 (.one [] 21 (.one [22] 23 (.done []))))))))) 10 (.two [11, 12, 13] 4 (.one [5, 6, 7] 14 (.one [] 15 (.one [16] 17 (.one [] 18 (.one [19] 20 (.one [] 21 (.one [22] 23 (.done [])))))))) 14 (.one [] 4 (.one [5, 6, 7] 15 (.one [16] 17 (.one [] 18 (.one [19] 20 (.one [] 21 (.one [22] 23 (.done [])))))))))) (by kernel_rfl) (by kernel_rfl) (fun _ _ d _ _ h => by cases d <;> exact h) ?_
    repeat' (first
     | ((first | refine S.plan_done (fun K hK => ?_) | refine S.plan_one (by rfl) (fun K hK => ?_)); (first | (simp only [zq9]; repeat (go_big_quiet_step (fail))) | simp only [pick_nil]); refine wpQuiet_nil (hK _ ?_); clear hK K)
     | (refine S.plan_two (by rfl) (by rfl) (fun K hK => ?_); (first | (simp only [zq9]; repeat (go_big_quiet_step (fail))) | simp only [pick_nil]); refine wpQuiet_nil (hK _ ?_); clear hK K; refine ⟨?_, ?_⟩)
     | ((with_reducible refine at_list ?_); (try simp only [List.getElem_toArray, List.getElem_cons_succ, List.getElem_cons_zero]); go_wp2_with ((go_at_call 55; go_must (refine Calls.mono (HCQ.out _ ((Later.refl _).drew)) ?_; rintro e w3 ⟨v3, rfl, hq3, hl3⟩; obtain ⟨p3, c3', rfl⟩ := hq3.form; have hm3 : S.LatB (fun k => k = rb ∨ (Value.slice vp NW vc).ownBlock = some k) w2.drew w3 := hl3.mono (fun k hk => .inr hk); have hd1 := (hl3.cell (p := ⟨b, 1, none⟩) zb2 hnv).trans c1; have hr1 := (hl3.cell (p := ⟨rb, 1, none⟩) zr hrv).trans r1; have hr2 := (hl3.cell (p := ⟨rb, 2, none⟩) zr hrv).trans r2; have hr3 := (hl3.cell (p := ⟨rb, 3, none⟩) zr hrv).trans r3; have hf1 := (hl3.frozen (p := ⟨rb, 1, none⟩) zr hrv).trans q1; have hf2 := (hl3.frozen (p := ⟨rb, 2, none⟩) zr hrv).trans q2; have hf3 := (hl3.frozen (p := ⟨rb, 3, none⟩) zr hrv).trans q3; have zr3 := Nat.lt_of_lt_of_le zr hl3.size; have zb3 := Nat.lt_of_lt_of_le zb2 hl3.size; have hd2 := (hl3.cell (p := ⟨b, 2, none⟩) zb2 hnv).trans c2))); first | refine S.behind_store (t := 23) (by decide) ?_ | refine S.behind (by repeat (first | with_reducible exact S.LatB.refl _ | with_reducible assumption | exact S.LatB.setCell (S.LatB.refl _) (.inl (.inl rfl)) _ | with_reducible refine S.LatB.ofdrew ?_ | with_reducible refine S.LatB.drew ?_ | with_reducible refine S.LatB.alloc ?_ _)) ?_))
    all_goals
     have hl3' : S.LatB (fun k => (Value.slice vp NW vc).ownBlock = some k) w2 w3 := hl3.undrew
     have hl03 : Later w0 w3 := lat_base hl3' hl12 (fun k hk => (HS.out.waits.lo k hk).1)
     have hO := B.own_at (B.own_at (B.own_at (HRUN.out.own.later hl03) (k := 1) (by simp) (.slice kp NK kc)) (k := 2) (by simp) (.int .i64 tod)) (k := 3) (by simp) (.slice p3 (waitL W).length c3')
     have hLF3 : S.LatB (fun k => k = rb) w3 (((w3.setCell ⟨rb, 1, none⟩ (.slice kp NK kc)).setCell ⟨rb, 2, none⟩ (.int .i64 tod)).setCell ⟨rb, 3, none⟩ (.slice p3 (waitL W).length c3')) := S.LatB.setCell (S := fun k => k = rb) (S.LatB.setCell (S := fun k => k = rb) (S.LatB.setCell (S := fun k => k = rb) (S.LatB.refl _) (.inl rfl) _) (.inl rfl) _) (.inl rfl) _
     obtain ⟨wF, hwF⟩ : ∃ x, ((w3.setCell ⟨rb, 1, none⟩ (.slice kp NK kc)).setCell ⟨rb, 2, none⟩ (.int .i64 tod)).setCell ⟨rb, 3, none⟩ (.slice p3 (waitL W).length c3') = x := ⟨_, rfl⟩
     rw [hwF] at hO hLF3 ⊢
     have hd2F := (hLF3.cell (p := ⟨b, 2, none⟩) zb3 hbrb).trans hd2
     have zbF := Nat.lt_of_lt_of_le zb3 hLF3.size
     have HO := Lib.hid hO
     have HQ3 := Lib.hid hq3
     clear hO hwF hd1 hr1 hr2 hr3 hf1 hf2 hf3 r1 r2 r3 q1 q2 q3 c1 c2 c3 hq3 hm3 hd2
     go_wp2_with fail
     show P (.returned (.tuple #[.slice fp NF fc, .int .i64 0])) wF
     rw [← HP.out]
     have hrk : ∀ k, w0.heap.size ≤ k → k ≠ rb := fun k hk e => by omega
     have hLF : S.LatB (fun k => k = rb) w0 wF := (S.LatB.of hl03).trans hLF3
     have hZ2 : S.LatB (fun k => (Value.slice vp NW vc).ownBlock = some k ∨ (Value.slice fp NF fc).ownBlock = some k ∨ k = rb) w2 wF := (hl3'.mono (fun k hk => .inl hk)).trans (hLF3.mono (fun k hk => .inr (.inr hk)))
     have hZ : S.LatB (fun k => (Value.slice vp NW vc).ownBlock = some k ∨ (Value.slice fp NF fc).ownBlock = some k ∨ k = rb) wr wF := ((HL1.out.mono (fun k hk => .inl hk)).trans (HL2.out.mono (fun k hk => .inr (.inl hk)))).trans hZ2
     have hkept := HS.out.kept.carry hZ.size (fun k hk => hZ.block k (HS.out.kept.lo k hk).2 (fun e => e.elim (fun e => HS.out.kw k hk e) (fun e => e.elim (fun e => HS.out.kf k hk e) (fun e => hrk k (HS.out.kept.lo k hk).1 e))))
     have hZ2' : S.LatB (fun k => (Value.slice vp NW vc).ownBlock = some k ∨ k = rb) w2 wF := (hl3'.mono (fun k hk => .inl hk)).trans (hLF3.mono (fun k hk => .inr hk))
     have hflow := HQ2.out.carry hZ2'.size (fun k hk => hZ2'.block k (HQ2.out.lo k hk).2 (fun e => e.elim (fun e => HS.out.fw k hk e) (fun e => hrk k (HQ2.out.lo k hk).1 e)))
     have hwait := HQ3.out.carry hLF3.size (fun k hk => hLF3.block k (HQ3.out.lo k hk).2 (fun e => hrk k (HQ3.out.lo k hk).1 e))
     obtain ⟨hR1, hK1⟩ := HR.out
     rw [HGO.out.2 (by rw [hR1]), hR1, hK1]
     refine ⟨_, _, _, rfl, (hflow.row flCs flCs_len flCs_get (by decide)).1, fun k hk => (HQ2.out.lo k hk).1, ⟨HO.out, nodes_lat HRUN.out.nodes hLF (fun k hk e => HRUN.out.tb (by rw [hk, e])), ?_, (hwait.row wtCs wtCs_len wtCs_get (by decide)).1, HRUN.out.tb, fun e => hrk rb (HS.out.kept.lo rb e).1 rfl, fun e => hrk rb (HQ3.out.lo rb e).1 rfl⟩, .inr (fun k hk => hk.elim (fun e => (HS.out.kept.lo k e).1) (fun e => (HQ3.out.lo k e).1)), hLF⟩
     exact (hkept.row hdCs hdCs_len hdCs_get (by decide)).1
   | cons h r =>
    obtain ⟨hH, hL, hsz, hfl, hkl, hwl⟩ := HX.out
    obtain ⟨N, hN⟩ : ∃ N, r.length + 1 = N := ⟨_, rfl⟩
    have HQ := HS.out.next
    rw [List.length_cons, hN] at HQ
    obtain ⟨g, o, rc, hrv, hg1, hg2, hcap⟩ : ∃ g o rc, nv = .slice (some ⟨g, o, none⟩) N rc ∧ g < wr.heap.size ∧ N ≤ rc ∧ ∀ j, j < 4 → wr.cell? ⟨g, o + j, none⟩ = (hdCs h)[j]? := by
     rcases HQ.2 with ⟨_, h2⟩ | ⟨g, o, rc, h1, _, h3, h4, _, h6, _⟩
     ·omega
     ·refine ⟨g, o, rc, h1, h3, h4, fun j hj => ?_⟩
      rw [h6 j (by omega), List.flatMap_cons, List.getElem?_append_left (by rw [hdCs_len]; exact hj)]
    subst hrv
    have q0 := hcap 0 (by decide)
    have q1 := hcap 1 (by decide)
    have q2 := hcap 2 (by decide)
    have q3 := hcap 3 (by decide)
    simp only [hdCs, List.getElem?_cons_zero, List.getElem?_cons_succ, Nat.add_zero] at q0 q1 q2 q3
    have hsl := fun W => held_cut (some ⟨g, o, none⟩) N rc (by omega) hg2 W
    have HC9 := Lib.hid (fun w1 (hl : Later wr w1) => TurnAt.cut HS.out hN.symm hl)
    have HQ9 := Lib.hid (que_pop HQ hN.symm)
    obtain ⟨M9, hM9⟩ : ∃ m, N - 1 = m := ⟨_, rfl⟩
    obtain ⟨q9, c9, hV9⟩ : ∃ q c, sliced (some ⟨g, o, none⟩) 1 N rc 4 = .slice q M9 c := ⟨_, _, by unfold sliced; rw [hM9]⟩
    rw [hV9] at HC9 HQ9
    simp only [hV9] at hsl
    have hgt : 0 < (N : Int) := by omega
    have hmem : Hid (HdOk ts h ∧ (∀ x ∈ r, HdOk ts x) ∧ r.length ≤ 64 ∧ K.length ≤ 64) := Lib.hid ⟨hH h List.mem_cons_self, fun x hx => hH x (List.mem_cons_of_mem _ hx), by
     have := sizesH_len (h :: r)
     simp only [List.length_cons] at this
     omega, by have := sizesH_len K; omega⟩
    have HLFT := Lib.hid hL
    have HNN := Lib.hid (show sizesH (h :: r) = gk ∧ F.length + gk ≤ 64 ∧ sizesH K + gk ≤ 64 ∧ W.length + 128 * gk ≤ 8192 from ⟨hsz, hfl, hkl, hwl⟩)
    clear hcap HQ hV9 hM9 hH hL hsz hfl hkl hwl HX hN
    obtain ⟨hday', hhd⟩ : ∃ x, h.day = x := ⟨_, rfl⟩
    obtain ⟨hpl, hhp⟩ : ∃ x : Int, (h.pl : Int) = x := ⟨_, rfl⟩
    obtain ⟨hn, hhn⟩ : ∃ x, h.n = x := ⟨_, rfl⟩
    obtain ⟨hdn, hhe⟩ : ∃ x, h.d = x := ⟨_, rfl⟩
    rw [hhp] at q0
    rw [hhd] at q1
    rw [hhn] at q2
    rw [hhe] at q3
    have HEQ := Lib.hid (show h.day = hday' ∧ (h.pl : Int) = hpl ∧ h.n = hn ∧ h.d = hdn from ⟨hhd, hhp, hhn, hhe⟩)
    clear hhd hhp hhn hhe
    go_upto_region 9 with (fail)
    refine wp_opaque (fun wa hba => ?_)
    have hOa := Own.one hba
    have hla := hba.un1
    obtain ⟨A, hA⟩ : ∃ A, wr.heap.size = A := ⟨_, rfl⟩
    rw [hA] at hOa ⊢
    have c0a := ((bcell hla).1 _ 0 zb).trans c0
    have f0a := ((bcell hla).2 _ 0 zb).trans f0
    have zba := Nat.lt_of_lt_of_le zb hla.size
    clear hba c0 f0 q0 q1 q2 q3
    go_upto_region 10 with (fail)
    obtain ⟨hs9, hl9⟩ := HC9.out wa hla
    have hOb := B.own_far hOa (b := b) (k := 0) (fun z hz e => by
     simp only [List.mem_cons, List.not_mem_nil, or_false] at hz
     subst hz
     simp only at e
     omega) (.slice q9 M9 c9)
    obtain ⟨wb, hwb⟩ : ∃ x, wa.setCell ⟨b, 0, none⟩ (.slice q9 M9 c9) = x := ⟨_, rfl⟩
    rw [hwb] at hs9 hl9 hOb ⊢
    have hlb : Later w0 wb := lat_base hl9 hlr (fun k hk => by rw [hk]; exact hlob)
    have HSB := Lib.hid hs9
    obtain ⟨⟨zA, cA, -⟩, -⟩ := hOb
    have a0 := cA 0
    have a1 := cA 1
    have a2 := cA 2
    have a3 := cA 3
    simp only [List.getElem?_toArray, List.getElem?_cons_zero, List.getElem?_cons_succ] at a0 a1 a2 a3
    clear hs9 hl9 hwb c0a f0a cA HC9 hOa hsl HS
    have HONE := Lib.hid (tdo_any HJ.out wb hlb b tod (by omega) (by omega) (.slice q9 M9 c9) kv fv vv r K F W HSB.out (by have := hmem.out.2.2; omega) (by have := hmem.out.2.2; omega) (by have := HNN.out; omega) (by have := HNN.out; omega) h hmem.out.1)
    rw [HEQ.out.1, HEQ.out.2.1, HEQ.out.2.2.1, HEQ.out.2.2.2] at HONE
    unfold TurnEnd at HONE
    obtain ⟨O, hO⟩ : ∃ O, oneH (envT fx ch) tod h = O := ⟨_, rfl⟩
    rw [hO] at HONE
    have HO := Lib.hid hO
    clear hO
    by_cases h0 : O.1 = 0
    ·rw [h0] at HONE
     go_wp2_with (go_at_call 83; go_must (refine HONE.out.mono ?_; rintro e w5 ⟨rfl, nv5, kv5, fv5, wv5, hs5, hl5⟩))
     have hlt := one_lt (envT fx ch) tod h
     have hkz := kept_size (envT fx ch) tod h
     have hfw := one_few (envT fx ch) tod h
     rw [HO.out] at hlt hfw hkz
     have hok5 := one_ok HJ.out.good HJ.out.ok (envT_ok HJ.out.fo HJ.out.co) (tod := tod) hmem.out.1
     have hst := leftg_step HLFT.out (by rw [HO.out]; exact h0)
     rw [HO.out] at hok5 hst
     go_roundg (sizesH (r ++ O.2.1))
     case measure => obtain ⟨e1, -, -⟩ := HNN.out; simp only [sizesH, List.map_cons, List.sum_cons, List.map_append, List.sum_append] at e1 hlt ⊢; omega
     case rel => exact ⟨rfl, hl5, _, _, _, _, _, _, _, _, Lib.hid hs5, Lib.hid ⟨fun x hx => (List.mem_append.1 hx).elim (hmem.out.2.1 x) (hok5 x), hst, rfl, by obtain ⟨e1, e2, e3, e4⟩ := HNN.out; simp only [sizesH, List.map_cons, List.sum_cons, List.map_append, List.sum_append, List.length_append] at e1 hlt ⊢; omega, by obtain ⟨e1, e2, e3, e4⟩ := HNN.out; simp only [sizesH, List.map_cons, List.sum_cons, List.map_append, List.sum_append, List.length_append] at e1 e3 hkz ⊢; omega, by obtain ⟨e1, e2, e3, e4⟩ := HNN.out; simp only [sizesH, List.map_cons, List.sum_cons, List.map_append, List.sum_append, List.length_append] at e1 hlt ⊢; omega⟩⟩
    ·have hR := leftg_err HLFT.out (by rw [HO.out]; exact h0)
     rw [HO.out] at hR
     have HR := Lib.hid hR
     obtain ⟨E, hE⟩ : ∃ E, O.1 = E := ⟨_, rfl⟩
     rw [hE] at HONE HR h0
     have he1 : (E == 0) = false := by simpa using h0
     have he2 : (E != 0) = true := by simpa using h0
     clear hR h0 hE
     go_wp2_with (go_at_call 83; go_must (refine HONE.out.mono ?_; rintro e w5 ⟨rfl, nv5, kv5, fv5, wv5, hs5, hl5⟩))
     show P (.returned (.tuple #[.slice none 0 0, .int .i64 E])) w5
     rw [← HP.out]
     have hE0 : E ≠ 0 := by simpa using he2
     rw [HGO.out.1 (by rw [HR.out]; exact hE0), HR.out]
     exact ⟨_, _, _, rfl, .inl ⟨⟨none, rfl⟩, rfl⟩, fun k hk => by simp [Value.ownBlock] at hk, HRUN.out.later hl5, .inl ⟨rfl, rfl⟩, S.LatB.of hl5⟩
theorem rgo_any {w0 : World} {ts : List Nd} {T : Tm} {tv : Value} {fx : FxL} {ch : ChL} {p m1 m2 : Nat} (hJ : JobAt w0 ts T tv fx ch p m1 m2) {rb : Nat} {lv wv : Value} {s : RunS} (h : RunAt w0 rb ts tv lv wv s) (hs : RunOk ts s) (hsz : sizesH s.L ≤ 64) (tod : Int) :
  Calls Tryz.prog 38 #[.pointer (some ⟨rb, 0, none⟩), .int .i64 tod, .pointer (some ⟨p, 0, none⟩)] w0 (GoEnd (goR (envT fx ch) s tod) w0 rb ts tv lv wv) := by
 by_cases hd : tod < s.day ∨ 73048 < tod
 ·refine (rgo_day h tod _ hd).mono fun e w' ⟨he, hl⟩ => ?_
  rw [goR_early hd]
  exact ⟨_, _, _, he, .inl ⟨⟨none, rfl⟩, rfl⟩, fun k hk => by simp [Value.ownBlock] at hk, h.later hl, .inl ⟨rfl, rfl⟩, S.LatB.of hl⟩
 ·exact rgo_run hJ h hs.held hsz hs.d0 tod hd
theorem row_grown {α : Type} {sz : Nat} {f : α → Nat → Value} {w w' : World} {v : Value} {xs : List α} {m : Nat} (h : IsRow sz f w v xs) (hg : w.grownBy w' (some m)) (hm : ∃ o : Obj, w.heap[m]? = some o ∧ o.isCells = false) : IsRow sz f w' v xs := by
 obtain ⟨ob, h1, h2⟩ := hm
 rcases h with h | ⟨b, o, cap, e1, e2, e3, e4, e5⟩
 ·exact .inl h
 ·refine .inr ⟨b, o, cap, e1, Nat.lt_of_lt_of_le e2 hg.size, e3, e4, fun i hi j hj => ?_⟩
  have hc := e5 i hi j hj
  have hbm : b ≠ m := by
   intro e
   subst e
   unfold World.cell? at hc
   rw [h1] at hc
   cases ob <;> simp_all [Obj.isCells]
  rw [World.cell?_of_block (w := w) (hg.block b e2 (fun e => hbm (Option.some.inj e)))]
  exact hc
theorem FactsAt.map1 {w : World} {p m1 m2 : Nat} {fx : List ((Int × Int) × (Int × Int))} {ch : List ((Int × Int) × Int)} (h : FactsAt w p m1 m2 fx ch) {mm : Nat} (hm : mm = m1 ∨ mm = m2) : ∃ o : Obj, w.heap[mm]? = some o ∧ o.isCells = false := by
 rcases hm with rfl | rfl
 ·exact MapL.obj h.x1 _ rfl
 ·exact MapL.obj h.x2 _ rfl
end Go.Proofs.YtkjabiabeemfhaaGreatDoor
end
section
namespace Go.Proofs.YtkjabiabeemfhaaGreatDoor
open Go.RowKit Go.Sort
structure FcOk (s : FxL × ChL) (n : Nat) : Prop where
 fn : (s.1.map (·.1)).Nodup
 fo : FxOk s.1
 cn : (s.2.map (·.1)).Nodup
 co : ChOk s.2
 cl : s.2.length ≤ n
theorem FcOk.env {s : FxL × ChL} {n : Nat} (h : FcOk s n) : EnvOk (envT s.1 s.2) := envT_ok h.fo h.co
theorem putA_len {κ β : Type} [DecidableEq κ] (l : List (κ × β)) (k : κ) (v : β) : (putA l k v).length ≤ l.length + 1 := by
 unfold putA
 split
 ·simp
 ·simp
def tellS (s : FxL × ChL) (x : Td) : FxL × ChL := (tellFx s.1 x, tellCh s.2 x)
theorem FcOk.tell {s : FxL × ChL} {n : Nat} {x : Td} (h : FcOk s n) (hx : x.ok) : FcOk (tellS s x) (n + 1) := by
 refine ⟨tellFx_nodup h.fn, fxOk_step h.fn hx h.fo, tellCh_nodup h.cn, chOk_step h.cn h.co, ?_⟩
 show (tellCh s.2 x).length ≤ n + 1
 have := h.cl
 unfold tellCh chooseL
 split
 ·split
  ·have := putA_len s.2 (x.k, x.d) x.p; omega
  ·omega
 ·omega
theorem fcOk_nil : FcOk ([], []) 0 := ⟨List.nodup_nil, fun _ _ h => (by cases h), List.nodup_nil, fun _ _ h => (by cases h), Nat.le_refl _⟩
section
variable {s : FxL × ChL} {n : Nat} {x : Td}
theorem tell_get (h : FcOk s n) (hno : x.c = false → getA s.1 (x.k, x.d) = none) : ∀ day k v, getF s.1 day k = some v → getF (tellFx s.1 x) day k = some v := by
 intro day k v hv
 unfold getF at hv ⊢
 unfold tellFx
 split
 ·exact hv
 ·rename_i hc
  unfold fixL
  split
  ·rw [putA_get _ _ _ _ h.fn, if_neg ?_]
   ·exact hv
   ·intro e
    have := hno (by simpa using hc)
    rw [← e, hv] at this
    cases this
  ·exact hv
theorem tell_other (h : FcOk s n) (k d : Int) : getC (tellCh s.2 x) k d = getC s.2 k d ∨ (x.c = true ∧ k = x.k ∧ d = x.d ∧ getC (tellCh s.2 x) k d = some x.p) := by
 unfold getC tellCh
 split
 ·rename_i hc
  unfold chooseL
  split
  ·rw [putA_get _ _ _ _ h.cn]
   split
   ·rename_i e
    cases e
    exact .inr ⟨hc, rfl, rfl, rfl⟩
   ·exact .inl rfl
  ·exact .inl rfl
 ·exact .inl rfl
theorem tell_cho (h : FcOk s n) (hno : x.c = true → getA s.2 (x.k, x.d) = none) : ∀ k d p, getC s.2 k d = some p → getC (tellCh s.2 x) k d = some p := by
 intro k d p hp
 rcases tell_other (x := x) h k d with e | ⟨hc, rfl, rfl, -⟩
 ·rw [e]; exact hp
 ·have := hno hc
  unfold getC at hp
  rw [hp] at this
  cases this
end
end Go.Proofs.YtkjabiabeemfhaaGreatDoor
end
