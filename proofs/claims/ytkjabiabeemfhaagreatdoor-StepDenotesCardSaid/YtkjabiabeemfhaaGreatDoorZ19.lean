/- step: the fixings that numbers ask for -/
import Derived.Test.YtkjabiabeemfhaaGreatDoorZ17
import Derived.Test.YtkjabiabeemfhaaGreatDoorZ18
set_option linter.all false
set_option linter.all false
section
namespace Go.Proofs.YtkjabiabeemfhaaGreatDoor
open Go.RowKit
set_option maxRecDepth 100000
set_option maxHeartbeats 4000000 in
theorem svalues_any {w0 : World} {ts : List Nd} {T : Tm} {tv : Value} {fx : FxL} {ch : ChL} {p m1 m2 : Nat} (hJ : JobAt w0 ts T tv fx ch p m1 m2) (w : World) (hw0 : Later w0 w) (b : Nat) (tod : Int) (rv fv wv : Value) (H : List Hd) (F : List Fl) (W : List Wt)
  (hst : StudyAt w0.heap.size w b tv tod (.pointer (some ⟨p, 0, none⟩)) rv fv wv H F W) (hWl : W.length ≤ 100000) (day : Int) (hd0 : 0 ≤ day) (hd1 : day ≤ 73048) (l : List (Nat × Tm)) (hl4 : l.length ≤ 4) (hnum : NumsAt ts l) (pv : Value) (hp : IsInts w pv (l.map (fun x => (x.1 : Int)))) (hpz : ∀ k, pv.ownBlock = some k → k ≠ b ∧ wv.ownBlock ≠ some k) :
  Calls Tryz.prog 135 #[.pointer (some ⟨b, 0, none⟩), .int .i64 day, pv] w fun e w' =>
   ValEnd (envT fx ch) w0.heap.size w b tv tod (.pointer (some ⟨p, 0, none⟩)) rv fv wv H F W day l e w' := by
 obtain ⟨R, hR⟩ : ∃ R, resL (getF fx day) l = R := ⟨_, rfl⟩
 obtain ⟨Post, hPost⟩ : ∃ P : Ending → World → Prop, P = fun e w' => ValEnd (envT fx ch) w0.heap.size w b tv tod (.pointer (some ⟨p, 0, none⟩)) rv fv wv H F W day l e w' := ⟨_, rfl⟩
 rw [← hPost]
 have hRl : R.length = l.length := by rw [← hR]; simp [resL]
 have hRi : ∀ (i : Nat) (hi : i < l.length), R[i]'(by rw [hRl]; exact hi) = valT (getF fx day) (l[i]).2 := fun i hi => by subst hR; simp [resL]
 obtain ⟨L, hL⟩ : ∃ L, l.length = L := ⟨_, rfl⟩
 obtain ⟨pp, cp, rfl⟩ := hp.form
 rw [List.length_map, hL] at hp hpz ⊢
 rw [hL] at hl4
 have HP := Lib.hid hp
 have HPZ := Lib.hid hpz
 clear hpz
 have HA : Hid (∀ (i : Nat) (hi : i < l.length) (hr : i < R.length) (W : World), Later w0 W → Calls Tryz.prog 169 #[tv, .int .i64 ((l[i]).1 : Nat), .int .i64 day, .pointer (some ⟨p, 0, none⟩)] W fun e w' => e = .returned (.tuple #[valR R[i], .int .i64 (R[i]).1]) ∧ Later W w') := Lib.hid (fun i hi hr W hW => by
  obtain ⟨n1, n2, n3⟩ := hnum _ (List.getElem_mem hi)
  have := vat_any ts fx ch p m1 m2 ((l[i]).1 : Nat) day tv W hJ.len hJ.ok ⟨by omega, by omega⟩ (getOk_of hJ.fo day) (hJ.sh.later hW) (hJ.nodes.later hW) (hJ.facts.later hW)
  rw [vat_place n1 n3 hd0 hd1, ← hRi i hi] at this
  exact this)
 have HST := Lib.hid hst
 have HEND : Hid (∀ e w', ValEnd (envT fx ch) w0.heap.size w b tv tod (.pointer (some ⟨p, 0, none⟩)) rv fv wv H F W day l e w' → Post e w') := Lib.hid (fun e w' h => by rw [hPost]; exact h)
 have HW0 := Lib.hid hw0
 have HJ := Lib.hid hJ
 have HLL := Lib.hid hL
 have HRL := Lib.hid hRl
 have HR := Lib.hid hR
 have HNUM := Lib.hid hnum
 have hb := hst.own.1.1
 clear hst hp hnum hJ hw0 hPost hRi hR hRl hL
 go_enter Tryz.func135, Tryz.ntmps135
 go_upto_region 4 with (fail)
 go_loopw [9, 10, 25] (fun s9 s10 s25 wr => ∃ j : Nat, j ≤ L ∧ s25 = .int .i64 j ∧ s10 = .bool (allL (R.take j)) ∧ Later w wr ∧ Hid (wr.ownsRow w.heap.size 53 2 s9 (outL (R.take j)).length ((outL (R.take j)).flatMap ratCs)) ∧ Hid (∀ q (hq : q < R.length), q < j → (R[q]).1 = 0)) (fun _ _ s25 _ => L - (intOf s25).toNat)
 case atStart => exact ⟨0, Nat.zero_le _, rfl, rfl, Later.refl _, Lib.hid (World.ownsRow_nil _ _ _ _), Lib.hid (fun q _ h => by omega)⟩
 case round =>
  obtain ⟨j, hj, rfl, rfl, hlr, HO, H0⟩ := hrel
  obtain ⟨wa, hwa⟩ : ∃ wa : World, wa = wr := ⟨_, rfl⟩
  subst hwa
  by_cases hlt : j < L
  ·have hltI : (j : Int) < L := by omega
   have hjl : j < l.length := by rw [HLL.out]; exact hlt
   have hjr : j < R.length := by rw [HRL.out, HLL.out]; exact hlt
   obtain ⟨pb, po, cp', hv, hpb, g⟩ := (HP.out.later hlr).full (j := j) (by rw [List.length_map]; exact hjl)
   rw [List.length_map, HLL.out] at hv
   rw [List.getElem_map] at g
   cases hv
   obtain ⟨⟨zb, cb, fb⟩, -⟩ := (HST.out.later hlr).own
   have c0 : wa.cell? ⟨b, 0, none⟩ = some tv := cb 0
   have c2 : wa.cell? ⟨b, 2, none⟩ = some (.pointer (some ⟨p, 0, none⟩)) := cb 2
   have HAJ := Lib.hid (fun W hW => HA.out j hjl hjr W hW)
   have HX : Hid ((R[j]).1 ≠ 0 → errL R = (R[j]).1) := Lib.hid (fun h => errL_at hjr H0.out h)
   have HY : Hid ((R[j]).1 = 0 → ∀ q (hq : q < R.length), q < j + 1 → (R[q]).1 = 0) := Lib.hid (fun h q hq h1 => by
    by_cases e : q = j
    ·subst e; exact h
    ·exact H0.out q hq (by omega))
   have HT := Lib.hid (allL_take hjr)
   have HU := Lib.hid (outL_take hjr)
   clear cb fb H0 HA
   obtain ⟨r, hr⟩ : ∃ r, R[j] = r := ⟨_, rfl⟩
   obtain ⟨at', hat⟩ : ∃ a : Int, ((l[j]).1 : Int) = a := ⟨_, rfl⟩
   rw [hr] at HAJ HX HY HT HU
   rw [hat] at HAJ g
   clear hr hat hjl hjr
   obtain ⟨re, ro⟩ := r
   obtain ⟨rb, hrb⟩ : ∃ x, ro.isSome = x := ⟨_, rfl⟩
   obtain ⟨rn, hrn⟩ : ∃ x, outN (re, ro) = x := ⟨_, rfl⟩
   obtain ⟨rd, hrd⟩ : ∃ x, outD (re, ro) = x := ⟨_, rfl⟩
   unfold valR at HAJ
   simp only at HAJ HX HY HT HU
   rw [hrb, hrn, hrd] at HAJ
   rw [hrb] at HT
   rw [hrn, hrd] at HU
   clear hrb hrn hrd ro
   go_upto_region 6 with (fail)
   go_cut [13, 14] (fun s13 s14 wx => ∃ bb, s13 = .pointer (some ⟨bb, 0, none⟩) ∧ s14 = .int .i64 re ∧ Own wx [(bb, #[.bool rb, .int .i64 rn, .int .i64 rd])] ∧ Later wa wx)
   case first =>
    clear HT HU HX HY HO HP
    refine U.wp_region_plan 15 (.three [0, 4, 5, 6] 1 (.two [2, 3] 7 (.two [8, 9] 10 (.one [11, 12, 13] 14 (.one [] 15 (.done [16]))) 14 (.one [] 10 (.one [11, 12, 13] 15 (.done [16])))) 14 (.one [] 7 (.one [8, 9] 10 (.one [11, 12, 13] 15 (.done [16]))))) 7 (.two [8, 9] 1 (.two [2, 3] 10 (.one [11, 12, 13] 14 (.one [] 15 (.done [16]))) 14 (.one [] 10 (.one [11, 12, 13] 15 (.done [16])))) 14 (.one [] 1 (.one [2, 3] 10 (.one [11, 12, 13] 15 (.done [16]))))) 14 (.two [] 1 (.one [2, 3] 7 (.one [8, 9] 10 (.one [11, 12, 13] 15 (.done [16])))) 7 (.one [8, 9] 1 (.one [2, 3] 10 (.one [11, 12, 13] 15 (.done [16])))))) (by kernel_rfl) (by kernel_rfl) (fun _ _ d _ _ h => by cases d <;> exact h) ?_
    repeat' (first
     | ((first | refine plan_done (fun K hK => ?_) | refine plan_one (by rfl) (fun K hK => ?_)); (first | (simp only [zq9]; repeat (go_big_quiet_step (fail))) | simp only [pick_nil]); refine wpQuiet_nil (hK _ ?_); clear hK K)
     | (refine plan_two (by rfl) (by rfl) (fun K hK => ?_); (first | (simp only [zq9]; repeat (go_big_quiet_step (fail))) | simp only [pick_nil]); refine wpQuiet_nil (hK _ ?_); clear hK K; refine ⟨?_, ?_⟩)
     | (refine plan_three (by rfl) (by rfl) (by rfl) (fun K hK => ?_); (first | (simp only [zq9]; repeat (go_big_quiet_step (fail))) | simp only [pick_nil]); refine wpQuiet_nil (hK _ ?_); clear hK K; refine ⟨?_, ?_, ?_⟩)
     | ((with_reducible refine at_list ?_); go_wp2_with ((go_at_call 169; go_must (refine (HAJ.out _ ((HW0.out.trans hlr).trans (by repeat (first | with_reducible (first | exact zq1 _ | assumption | refine zq2 ?_ | refine zq4 ?_ ?_ _ | refine zq5 ?_ _ | refine zq6 ?_ _ | refine zq7 ?_ | refine zq8 ?_ (by assumption)) | (simp only [zq10]; omega) | (simp; done) | (simp; omega))))).mono ?_; rintro e ua ⟨rfl, hua⟩; (first | (with_reducible have hx5 := Own.one hua) | (with_reducible have hx5 := own_one_d hua) | skip); (first | have hy5 := own_get hx5 | skip); (first | have cx5 := hy5.2.1 | skip); (first | have fx5 := hy5.2.2 | skip); have hzhua := Later.size hua; (try simp only [World.size_alloc, World.size_drew] at hzhua)))); first | refine behind_store (t := 15) (by decide) ?_ | refine behind (by with_reducible repeat (first | exact zq1 _ | assumption | refine zq2 ?_ | refine zq5 ?_ _ | refine zq6 ?_ _ | refine zq7 ?_ | refine zq8 ?_ (by assumption))) ?_))
    all_goals
     go_wp2_with fail
     go_meet
     first
      | exact ⟨_, rfl, rfl, own_alloc _ _ _, by repeat (first | with_reducible (first | exact zq1 _ | assumption | refine zq2 ?_ | refine zq4 ?_ ?_ _ | refine zq5 ?_ _ | refine zq6 ?_ _ | refine zq7 ?_ | refine zq8 ?_ (by assumption)) | (simp only [zq10]; omega) | (simp; done) | (simp; omega))⟩
      | exact ⟨_, rfl, rfl, own_set3 hx5, by repeat (first | with_reducible (first | exact zq1 _ | assumption | refine zq2 ?_ | refine zq4 ?_ ?_ _ | refine zq5 ?_ _ | refine zq6 ?_ _ | refine zq7 ?_ | refine zq8 ?_ (by assumption)) | (simp only [zq10]; omega) | (simp; done) | (simp; omega))⟩
   case rest =>
    obtain ⟨bb, rfl, rfl, hob, hlx⟩ := hcut
    obtain ⟨wb, rfl⟩ : ∃ x, x = wc := ⟨_, rfl⟩
    obtain ⟨zb1, cb1, fb1⟩ := own_get hob
    have d0 : wb.cell? ⟨bb, 0, none⟩ = some (.bool rb) := cb1 0
    have d1 : wb.cell? ⟨bb, 1, none⟩ = some (.int .i64 rn) := cb1 1
    have d2 : wb.cell? ⟨bb, 2, none⟩ = some (.int .i64 rd) := cb1 2
    have hl1 := hlr.trans hlx
    have HO1 := Lib.hid (B.owns_later HO.out hlx)
    clear HAJ HO c0 c2 g cb1 fb1 hob hlr hlx
    by_cases hre : re = 0
    ·subst hre
     have H1 := Lib.hid (HY.out rfl)
     have HOL := Lib.hid (show (outL (R.take j)).length ≤ 4 by have := HLL.out; have := HRL.out; simp [outL]; omega)
     obtain ⟨AA, hAA⟩ : ∃ a, allL (R.take j) = a := ⟨_, rfl⟩
     rw [hAA] at HT ⊢
     clear hAA HX HY
     cases AA
     all_goals
      go_upto_region 10 with (fail)
      go_wp2_with (at_builtin; go_must (refine B.wpList_push sliceRat HO1.out hl1.size rfl _ _ rfl rfl 1 _ rfl rfl rfl (by simp [Value.oneCell']) (by have := HOL.out; omega) (by have := HOL.out; unfold maxLen; omega) ?_; intro v9 w9 h1 h2 h3; obtain ⟨p9, c9, rfl⟩ := B.owns_form h1; have hl9 : Later w w9 := B.grown_lat (hl1.alloc _) h2 (fun k hk => (HO1.out.lt k hk).1)))
      go_roundw
      case rel => exact ⟨j + 1, by omega, by go_num, by rw [HT.out]; rfl, hl9, Lib.hid (by rw [HU.out, List.length_append, List.flatMap_append]; exact h1), H1⟩
      case measure => simp [intOf]; omega
    ·have hb1 : (re == 0) = false := by simpa using hre
     have hb2 : (re != 0) = true := by simpa using hre
     have HXE := Lib.hid (HX.out hre)
     clear HT HU HX HY HO1 HP d0 d1 d2
     go_wp2_with fail
     go_ret3
     refine HEND.out _ _ ⟨wv, ?_, S.LatB.of hl1, .inl rfl, .slice none 0 0, false, ?_, fun h0 => ?_⟩
     ·have : askW (envT fx ch) day l = [] := by
       unfold askW
       rw [if_neg (fun h => hre (by have := h.1; rw [show resL ((envT fx ch).get day) l = R from HR.out, HXE.out] at this; exact this))]
      rw [this, List.append_nil]
      exact HST.out.later hl1
     ·rw [show resL ((envT fx ch).get day) l = R from HR.out, HXE.out]; rfl
     ·rw [show resL ((envT fx ch).get day) l = R from HR.out, HXE.out] at h0
      exact absurd h0 hre
  ·have hge : ¬ ((j : Int) < L) := by omega
   obtain rfl : j = L := by omega
   have hRL : R.length = j := by rw [HRL.out, HLL.out]
   rw [List.take_of_length_le (by omega)] at HO ⊢
   have HERR := Lib.hid (errL_none (rs := R) (fun r hr => by
    obtain ⟨q, hq, rfl⟩ := List.getElem_of_mem hr
    exact H0.out q hq (by omega)))
   have HNE := Lib.hid (fun (i : Nat) (hi : i < l.length) (W : World) (hW : Later w0 W) => by
    obtain ⟨n1, n2, n3⟩ := HNUM.out _ (List.getElem_mem hi)
    exact vneeds_own ts HJ.out.len HJ.out.ok (l[i]).1 (l[i]).2 tv W n3 n1 (flat_keys HJ.out.good n1) (HJ.out.sh.later hW) (HJ.out.nodes.later hW))
   have HOUT : Hid (IsRats wa u9 (outL R)) := Lib.hid (B.owns_row ratCs ratCs_len ratCs_get (by decide) HO.out).1
   have HOB : Hid (∀ k, u9.ownBlock = some k → w.heap.size ≤ k) := Lib.hid (fun k hk => (HO.out.lt k hk).1)
   clear H0 HA HO
   obtain ⟨AA, hAA⟩ : ∃ a, allL R = a := ⟨_, rfl⟩
   rw [hAA]
   have HALL := Lib.hid hAA
   clear hAA
   go_upto_region 13 with (fail)
   cases AA
   ·go_loopw [59] (fun s59 wr => ∃ q : Nat, q ≤ j ∧ s59 = .int .i64 q ∧ S.LatB (fun k => k = b ∨ wv.ownBlock = some k) wa wr ∧ ∃ wv', Hid (StudyAt w0.heap.size wr b tv tod (.pointer (some ⟨p, 0, none⟩)) rv fv wv' H F (W ++ (l.take q).flatMap (fun x => asksT (envT fx ch) day x.2))) ∧ Hid (wv'.ownBlock = wv.ownBlock ∨ ∀ k, wv'.ownBlock = some k → wa.heap.size ≤ k)) (fun s59 _ => j - (intOf s59).toNat)
    case atStart => exact ⟨0, Nat.zero_le _, rfl, S.LatB.refl _, wv, Lib.hid (by simpa using HST.out.later hlr), Lib.hid (.inl rfl)⟩
    case round =>
     obtain ⟨q, hq, rfl, hlz, wv', HSQ, HFQ⟩ := hrel
     obtain ⟨wq, hwq⟩ : ∃ x : World, x = wr := ⟨_, rfl⟩
     subst hwq
     by_cases hqL : q < j
     ·have hqI : (q : Int) < j := by omega
      have hql : q < l.length := by rw [HLL.out]; exact hqL
      obtain ⟨pb, po, cp', hv, hpb, g⟩ := (ints_lat (HP.out.later hlr) hlz (fun k hk hz => by
       obtain ⟨h1, h2⟩ := HPZ.out k hk
       exact hz.elim h1 h2)).full (j := q) (by rw [List.length_map]; exact hql)
      rw [List.length_map, HLL.out] at hv
      rw [List.getElem_map] at g
      cases hv
      have hlq : Later w0 wq := lat_base hlz (HW0.out.trans hlr) (fun k hk => hk.elim (fun e => by rw [e]; exact HST.out.lob) (fun e => (HST.out.waits.lo k e).1))
      obtain ⟨⟨zb, cb, fb⟩, -⟩ := HSQ.out.own
      have c0 : wq.cell? ⟨b, 0, none⟩ = some tv := cb 0
      have HNQ := Lib.hid (fun W hW => HNE.out q hql W hW)
      have HTK : Hid ((l.take (q + 1)).flatMap (fun x => asksT (envT fx ch) day x.2) = (l.take q).flatMap (fun x => asksT (envT fx ch) day x.2) ++ askK (envT fx ch) day (keysI 2 2 (l[q]).2.flat)) := Lib.hid (by
       rw [List.take_succ_eq_append_getElem hql, List.flatMap_append]
       simp [asksT, askK])
      have HQ2 : Hid (((l.take q).flatMap (fun x => asksT (envT fx ch) day x.2)).length ≤ 256) := Lib.hid (by
       have := flat_le (envT fx ch) day (l.take q)
       rw [List.length_take] at this
       omega)
      have HKR : Hid (∀ k ∈ keysI 2 2 (l[q]).2.flat, 0 ≤ k ∧ k < 64) := Lib.hid (fun k hk => by have := keys_mem.1 hk; exact ⟨this.1, this.2.1⟩)
      have HKL : Hid ((keysI 2 2 (l[q]).2.flat).length ≤ 64) := Lib.hid (keysI_le 2 2 _)
      clear cb fb HNE
      obtain ⟨KS, hKS⟩ : ∃ K, keysI 2 2 (l[q]).2.flat = K := ⟨_, rfl⟩
      obtain ⟨at', hat⟩ : ∃ a : Nat, (l[q]).1 = a := ⟨_, rfl⟩
      obtain ⟨AS, hAS⟩ : ∃ A, (l.take q).flatMap (fun x => asksT (envT fx ch) day x.2) = A := ⟨_, rfl⟩
      rw [hKS] at HNQ HTK HKR HKL
      rw [hat] at HNQ g
      rw [hAS] at HTK HSQ HQ2
      clear hKS hat hAS hql
      go_upto_region 17 with (go_at_call 172; go_must (refine (HNQ.out _ (hlq.trans (by repeat (first | with_reducible (first | exact zq1 _ | assumption | refine zq2 ?_ | refine zq4 ?_ ?_ _ | refine zq5 ?_ _ | refine zq6 ?_ _ | refine zq7 ?_ | refine zq8 ?_ (by assumption)) | (simp only [zq10]; omega) | (simp; done) | (simp; omega))))).mono ?_; rintro e w3 ⟨v3, rfl, hi3, hb3, hf3⟩))
      obtain ⟨p3, c3, rfl⟩ := hi3.form
      obtain ⟨K, hK⟩ : ∃ K, KS.length = K := ⟨_, rfl⟩
      rw [hK] at hi3 HKL hf3 ⊢
      have HI3 := Lib.hid hi3
      have HF3 := Lib.hid hf3
      have HK := Lib.hid hK
      have hK64 : K ≤ 64 := HKL.out
      have HS3 := Lib.hid (HSQ.out.later hb3)
      have hl3 := hlq.trans hb3
      have hzq : b < wq.heap.size := HSQ.out.own.1.1
      clear hi3 hf3 hK g c0 HNQ
      go_upto_region 18 with (fail)
      go_loopw [75] (fun s75 wr => ∃ k : Nat, k ≤ K ∧ s75 = .int .i64 k ∧ S.LatB (fun k => k = b ∨ wv'.ownBlock = some k) w3 wr ∧ ∃ wx, Hid (StudyAt w0.heap.size wr b tv tod (.pointer (some ⟨p, 0, none⟩)) rv fv wx H F (W ++ AS ++ askK (envT fx ch) day (KS.take k))) ∧ Hid (wx.ownBlock = wv'.ownBlock ∨ ∀ k, wx.ownBlock = some k → w3.heap.size ≤ k)) (fun s75 _ => K - (intOf s75).toNat)
      case atStart => exact ⟨0, Nat.zero_le _, rfl, S.LatB.refl _, wv', Lib.hid (by simpa [askK] using HS3.out), Lib.hid (.inl rfl)⟩
      case round =>
       obtain ⟨k, hk, rfl, hlk, wx, HSX, HFX⟩ := hrel
       obtain ⟨wk, hwk⟩ : ∃ x : World, x = wr := ⟨_, rfl⟩
       subst hwk
       have hl0k : Later w0 wk := lat_base hlk hl3 (fun k hk => hk.elim (fun e => by rw [e]; exact HST.out.lob) (fun e => (HSQ.out.waits.lo k e).1))
       by_cases hkK : k < K
       ·have hkI : (k : Int) < K := by omega
        have hkl : k < KS.length := by rw [HK.out]; exact hkK
        obtain ⟨qb, qo, cq, hv, hqb, g⟩ := (ints_lat HI3.out hlk (fun i hi hz => by
         have h1 := HF3.out i hi
         rcases hz with hz | hz
         ·omega
         ·have := HSQ.out.waits.lo i hz; omega)).full (j := k) hkl
        rw [HK.out] at hv
        cases hv
        have hkr := HKR.out _ (List.getElem_mem hkl)
        have HKT := Lib.hid (askK_take (env := envT fx ch) (day := day) hkl)
        obtain ⟨key, hkey⟩ : ∃ x, KS[k] = x := ⟨_, rfl⟩
        rw [hkey] at g hkr HKT
        have HFI := Lib.hid (fun W (hW : Later w0 W) => fixing_any p m1 m2 fx ch key day W (HJ.out.facts.later hW) ⟨by omega, by omega⟩ ⟨by omega, by omega⟩)
        have HIS : Hid ((gotF fx key day).2.2 = (getF fx day key).isSome) := Lib.hid (gotF_eq fx key day).2.2
        obtain ⟨⟨zb, cb, fb⟩, -⟩ := HSX.out.own
        have c2 : wk.cell? ⟨b, 2, none⟩ = some (.pointer (some ⟨p, 0, none⟩)) := cb 2
        obtain ⟨⟨gn, gd, gi⟩, hgg⟩ : ∃ g, gotF fx key day = g := ⟨_, rfl⟩
        rw [hgg] at HFI HIS
        simp only at HFI HIS
        clear cb fb hgg hkey hkl hkr
        go_upto_region 21 with (go_at_call 24; go_must (refine (HFI.out _ (hl0k.trans (by repeat (first | with_reducible (first | exact zq1 _ | assumption | refine zq2 ?_ | refine zq4 ?_ ?_ _ | refine zq5 ?_ _ | refine zq6 ?_ _ | refine zq7 ?_ | refine zq8 ?_ (by assumption)) | (simp only [zq10]; omega) | (simp; done) | (simp; omega))))).mono ?_; rintro e w4 ⟨rfl, hb4⟩))
        refine wp_opaque (fun w5 hb5 => ?_)
        have hlk5 : Later wk w5 := hb4.trans hb5.un1
        clear hb4 hb5 g c2 HFI
        cases gi
        ·have HN : Hid (askK (envT fx ch) day (KS.take (k + 1)) = askK (envT fx ch) day (KS.take k) ++ [⟨false, key, day⟩]) := Lib.hid (by
          rw [HKT.out, show ((envT fx ch).get day key).isNone = true by
           have := HIS.out
           show (getF fx day key).isNone = true
           cases hg : getF fx day key with
           | none => rfl
           | some v => rw [hg] at this; cases this]
          rfl)
         have HS5 := Lib.hid (HSX.out.later hlk5)
         obtain ⟨px, cx, hwx⟩ := HSX.out.waits.form
         obtain ⟨N, hN⟩ : ∃ N, (W ++ AS ++ askK (envT fx ch) day (KS.take k)).length = N := ⟨_, rfl⟩
         have HNL : Hid (N ≤ 200000) := Lib.hid (by
          have h1 := askK_le (envT fx ch) day (KS.take k)
          rw [List.length_take] at h1
          have := HQ2.out
          have := HKL.out
          rw [← hN, List.length_append, List.length_append]; omega)
         rw [hN] at hwx
         have HNN := Lib.hid hN
         subst hwx
         clear hN
         obtain ⟨⟨z7, c7, f7⟩, -⟩ := id HS5.out.own
         have c5 : w5.cell? ⟨b, 5, none⟩ = some (.slice px N cx) := c7 5
         have f5 : w5.frozen? ⟨b, 5, none⟩ = false := f7 5 (by simp)
         have HF9 : Hid (∀ z ∈ [(b, (#[tv, .int .i64 tod, .pointer (some ⟨p, 0, none⟩), rv, fv, .slice px N cx] : Array Value))], (Value.slice px N cx).ownBlock ≠ some z.1) := Lib.hid (fun z hz => by
          simp only [List.mem_cons, List.not_mem_nil, or_false] at hz
          subst hz
          exact HS5.out.wb)
         clear c7 f7
         go_wp2_with (at_builtin; go_must (refine B.wpList_quePush (v := .slice px N cx) (base := w0.heap.size) (n := N) (xs := (W ++ AS ++ askK (envT fx ch) day (KS.take k)).flatMap wtCs) sliceWait (HNN.out ▸ HS5.out.waits) (hl0k.trans hlk5).size rfl _ _ rfl rfl 1 _ rfl rfl rfl (by simp [Value.oneCell']) (by have := HNL.out; omega) (by have := HNL.out; unfold maxLen; omega) ?_; intro v9 w9 h1 h2 h3; obtain ⟨p9, c9, rfl⟩ := B.Que.form h1; have hO9 := B.own_grown (HS5.out.own.later ((Later.refl _).alloc _)) h2 HF9.out; have z9 : b < w9.heap.size := hO9.1.1; have e9 : w9.cell? ⟨b, 5, none⟩ = some (.slice px N cx) := hO9.1.2.1 5; have hf9 : w9.frozen? ⟨b, 5, none⟩ = false := hO9.1.2.2 5 (by simp); clear hO9))
         have hx := HS5.out.put_waits ((Later.refl w5).alloc _) h2 (L' := W ++ AS ++ askK (envT fx ch) day (KS.take (k + 1))) h3 (by rw [HN.out, ← List.append_assoc, List.flatMap_append, List.length_append, HNN.out]; exact h1)
         go_roundw
         case rel => exact ⟨k + 1, by omega, by go_num, lat_step (hlk.later hlk5) (fun i hi => hi.elim (fun e => .inl (.inl e)) (fun e => HFX.out.elim (fun f => .inl (.inr (by rw [← f]; exact e))) (fun f => .inr (f i e)))) hx.2, _, Lib.hid hx.1, Lib.hid (h3.elim (fun f => HFX.out.imp (fun g => by rw [f, g]) (fun g i hi => g i (by rw [← f]; exact hi))) (fun f => .inr (fun i hi => Nat.le_trans (Nat.le_trans hlk.size hlk5.size) (f i hi))))⟩
         case measure => simp [intOf]; omega
        ·have HN : Hid (askK (envT fx ch) day (KS.take (k + 1)) = askK (envT fx ch) day (KS.take k)) := Lib.hid (by
          rw [HKT.out, show ((envT fx ch).get day key).isNone = false by
           have := HIS.out
           show (getF fx day key).isNone = false
           cases hg : getF fx day key with
           | none => rw [hg] at this; cases this
           | some v => rfl]
          simp)
         go_wp2_with fail
         go_roundw
         case rel => exact ⟨k + 1, by omega, by go_num, hlk.later hlk5, wx, Lib.hid (by rw [HN.out]; exact HSX.out.later hlk5), HFX⟩
         case measure => simp [intOf]; omega
       ·have hge : ¬ ((k : Int) < K) := by omega
        have HTA : Hid (KS.take k = KS) := Lib.hid (List.take_of_length_le (by rw [HK.out]; omega))
        go_wp2_with fail
        go_roundw
        case rel => exact ⟨q + 1, by omega, by go_num, lat_step (hlz.later hb3) (fun i hi => hi.elim (fun e => .inl (.inl e)) (fun e => HFQ.out.elim (fun f => .inl (.inr (by rw [← f]; exact e))) (fun f => .inr (f i e)))) hlk, wx, Lib.hid (by rw [HTK.out, ← List.append_assoc]; have := HSX.out; rw [HTA.out] at this; exact this), Lib.hid (HFX.out.elim (fun f => by rw [f]; exact HFQ.out) (fun f => .inr (fun i hi => Nat.le_trans (Nat.le_trans hlz.size hb3.size) (f i hi))))⟩
        case measure => simp [intOf]; omega
     ·have hge2 : ¬ ((q : Int) < j) := by omega
      obtain rfl : q = j := by omega
      go_wp2_with fail
      go_ret3
      have hask : askW (envT fx ch) day l = (l.take q).flatMap (fun x => asksT (envT fx ch) day x.2) := by
       unfold askW
       rw [show resL ((envT fx ch).get day) l = R from HR.out, if_pos ⟨HERR.out, HALL.out⟩, List.take_of_length_le (by rw [HLL.out]; omega)]
      refine HEND.out _ _ ⟨wv', by rw [hask]; exact HSQ.out, (S.LatB.of hlr).trans hlz, HFQ.out.imp id (fun f i hi => Nat.le_trans hlr.size (f i hi)), u9, false, ?_, fun h0 => ?_⟩
      ·rw [show resL ((envT fx ch).get day) l = R from HR.out, HERR.out]; rfl
      ·rw [show resL ((envT fx ch).get day) l = R from HR.out]
       exact ⟨HALL.out.symm, row_lat HOUT.out hlz (fun k hk hz => by
        have h1 := HOB.out k hk
        rcases hz with hz | hz
        ·omega
        ·have := HST.out.waits.lo k hz; omega)⟩
   ·go_loopw [59] (fun s59 wr => s59 = .int .i64 0 ∧ wr = wa) (fun _ _ => 0)
    case atStart => exact ⟨rfl, rfl⟩
    case round =>
     obtain ⟨rfl, rfl⟩ := hrel
     have hask : Hid (askW (envT fx ch) day l = []) := Lib.hid (by
      unfold askW
      rw [show resL ((envT fx ch).get day) l = R from HR.out, if_neg (fun h => by rw [HALL.out] at h; cases h.2)])
     have HGO : Hid (Post (.returned (.tuple #[u9, .bool true, .int .i64 0])) wr) := Lib.hid (HEND.out _ _ ⟨wv, by rw [hask.out, List.append_nil]; exact HST.out.later hlr, S.LatB.of hlr, .inl rfl, u9, true, by rw [show resL ((envT fx ch).get day) l = R from HR.out, HERR.out], fun _ => by
      rw [show resL ((envT fx ch).get day) l = R from HR.out]
      exact ⟨HALL.out.symm, HOUT.out⟩⟩)
     by_cases hj0 : (0 : Int) < j
     ·obtain ⟨pb, po, cp', hv, hpb, g⟩ := (HP.out.later hlr).full (j := 0) (by rw [List.length_map, HLL.out]; omega)
      rw [List.length_map, HLL.out] at hv
      cases hv
      rw [Nat.add_zero] at g
      go_wp2_with fail
      go_ret3
      exact HGO.out
     ·go_wp2_with fail
      go_ret3
      exact HGO.out
set_option maxHeartbeats 4000000 in
theorem tasks_any {w0 : World} {ts : List Nd} {T : Tm} {tv : Value} {fx : FxL} {ch : ChL} {p m1 m2 : Nat} (hJ : JobAt w0 ts T tv fx ch p m1 m2) (w : World) (hw0 : Later w0 w) (b : Nat) (tod : Int) (nv kv fv wv : Value) (H K : List Hd) (F : List Fl) (W : List Wt)
  (hst : TurnAt w0.heap.size w b tv tod (.pointer (some ⟨p, 0, none⟩)) nv kv fv wv H K F W) (day : Int) (hd0 : 0 ≤ day) (hd1 : day ≤ 73048) (l : List (Nat × Tm)) (hl4 : l.length ≤ 4) (hnum : NumsAt ts l) (pv : Value) (hp : IsInts w pv (l.map (fun x => (x.1 : Int)))) :
  Calls Tryz.prog 170 #[.pointer (some ⟨b, 0, none⟩), .int .i64 day, pv] w fun e w' =>
   ∃ v', e = .returned v' ∧ IsWaits w' v' (l.flatMap (fun x => asksT (envT fx ch) day x.2)) ∧ Later w w' ∧ ∀ k, v'.ownBlock = some k → w.heap.size ≤ k := by
 obtain ⟨L, hL⟩ : ∃ L, l.length = L := ⟨_, rfl⟩
 obtain ⟨pp, cp, rfl⟩ := hp.form
 rw [List.length_map, hL] at hp ⊢
 rw [hL] at hl4
 have HP := Lib.hid hp
 have HST := Lib.hid hst
 have HW0 := Lib.hid hw0
 have HJ := Lib.hid hJ
 have HLL := Lib.hid hL
 have HNE := Lib.hid (fun (i : Nat) (hi : i < l.length) (W : World) (hW : Later w0 W) => by
  obtain ⟨n1, n2, n3⟩ := hnum _ (List.getElem_mem hi)
  exact vneeds_own ts hJ.len hJ.ok (l[i]).1 (l[i]).2 tv W n3 n1 (flat_keys hJ.good n1) (hJ.sh.later hW) (hJ.nodes.later hW))
 have hb := hst.own.1.1
 clear hst hp hnum hJ hw0 hL
 go_enter Tryz.func170, Tryz.ntmps170
 go_upto_region 3 with (fail)
 go_loopw [7, 18] (fun s7 s18 wr => ∃ (q : Nat) (V : Value), V = s7 ∧ q ≤ L ∧ s18 = .int .i64 q ∧ Later w wr ∧ Hid (wr.ownsRow w.heap.size 46 3 V ((l.take q).flatMap (fun x => asksT (envT fx ch) day x.2)).length (((l.take q).flatMap (fun x => asksT (envT fx ch) day x.2)).flatMap wtCs))) (fun _ s18 _ => L - (intOf s18).toNat)
 case atStart => exact ⟨0, _, rfl, Nat.zero_le _, rfl, Later.refl _, Lib.hid (World.ownsRow_nil _ _ _ _)⟩
 case round =>
  obtain ⟨q, V, rfl, hq, rfl, hlr, HO⟩ := hrel
  obtain ⟨wq, hwq⟩ : ∃ x : World, x = wr := ⟨_, rfl⟩
  subst hwq
  by_cases hqL : q < L
  ·have hqI : (q : Int) < L := by omega
   have hql : q < l.length := by rw [HLL.out]; exact hqL
   obtain ⟨pb, po, cp', hv, hpb, g⟩ := (HP.out.later hlr).full (j := q) (by rw [List.length_map]; exact hql)
   rw [List.length_map, HLL.out] at hv
   rw [List.getElem_map] at g
   cases hv
   have hlq : Later w0 wq := HW0.out.trans hlr
   obtain ⟨⟨zb, cb, fb⟩, -⟩ := (HST.out.later hlr).own
   have c0 : wq.cell? ⟨b, 4, none⟩ = some tv := cb 4
   have HNQ := Lib.hid (fun W hW => HNE.out q hql W hW)
   have HTK : Hid ((l.take (q + 1)).flatMap (fun x => asksT (envT fx ch) day x.2) = (l.take q).flatMap (fun x => asksT (envT fx ch) day x.2) ++ askK (envT fx ch) day (keysI 2 2 (l[q]).2.flat)) := Lib.hid (by
    rw [List.take_succ_eq_append_getElem hql, List.flatMap_append]
    simp [asksT, askK])
   have HQ2 : Hid (((l.take q).flatMap (fun x => asksT (envT fx ch) day x.2)).length ≤ 256) := Lib.hid (by
    have := flat_le (envT fx ch) day (l.take q)
    have := HLL.out
    rw [List.length_take] at *
    omega)
   have HKR : Hid (∀ k ∈ keysI 2 2 (l[q]).2.flat, 0 ≤ k ∧ k < 64) := Lib.hid (fun k hk => by have := keys_mem.1 hk; exact ⟨this.1, this.2.1⟩)
   have HKL : Hid ((keysI 2 2 (l[q]).2.flat).length ≤ 64) := Lib.hid (keysI_le 2 2 _)
   clear cb fb
   obtain ⟨KS, hKS⟩ : ∃ K, keysI 2 2 (l[q]).2.flat = K := ⟨_, rfl⟩
   obtain ⟨at', hat⟩ : ∃ a : Nat, (l[q]).1 = a := ⟨_, rfl⟩
   obtain ⟨AS, hAS⟩ : ∃ A, (l.take q).flatMap (fun x => asksT (envT fx ch) day x.2) = A := ⟨_, rfl⟩
   rw [hKS] at HNQ HTK HKR HKL
   rw [hat] at HNQ g
   rw [hAS] at HTK HO HQ2
   clear hKS hat hAS hql
   go_upto_region 6 with (go_at_call 172; go_must (refine (HNQ.out _ (hlq.trans (by repeat (first | with_reducible (first | exact zq1 _ | assumption | refine zq2 ?_ | refine zq4 ?_ ?_ _ | refine zq5 ?_ _ | refine zq6 ?_ _ | refine zq7 ?_ | refine zq8 ?_ (by assumption)) | (simp only [zq10]; omega) | (simp; done) | (simp; omega))))).mono ?_; rintro e w3 ⟨v3, rfl, hi3, hb3, hf3⟩))
   obtain ⟨p3, c3, rfl⟩ := hi3.form
   obtain ⟨K, hK⟩ : ∃ K, KS.length = K := ⟨_, rfl⟩
   rw [hK] at hi3 HKL hf3 ⊢
   have HI3 := Lib.hid hi3
   have HF3 := Lib.hid hf3
   have HK := Lib.hid hK
   have hK64 : K ≤ 64 := HKL.out
   have hl3 := hlq.trans hb3
   have hlw3 := hlr.trans hb3
   have HO3 := Lib.hid (B.owns_later HO.out hb3)
   clear hi3 hf3 hK g c0 HNQ
   go_upto_region 7 with (fail)
   go_loopw [7, 33] (fun s7 s33 wr => ∃ (k : Nat) (Vk : Value), Vk = s7 ∧ k ≤ K ∧ s33 = .int .i64 k ∧ Later w wr ∧ Hid (S.LatB (fun k => V.ownBlock = some k) w3 wr) ∧ Hid (wr.ownsRow w.heap.size 46 3 Vk (AS ++ askK (envT fx ch) day (KS.take k)).length ((AS ++ askK (envT fx ch) day (KS.take k)).flatMap wtCs)) ∧ Hid (Vk.ownBlock = V.ownBlock ∨ ∀ k, Vk.ownBlock = some k → w3.heap.size ≤ k)) (fun _ s33 _ => K - (intOf s33).toNat)
   case atStart => exact ⟨0, _, rfl, Nat.zero_le _, rfl, hlw3, Lib.hid (S.LatB.refl _), Lib.hid (by simpa [askK] using HO3.out), Lib.hid (.inl rfl)⟩
   case round =>
    obtain ⟨k, Vk, rfl, hk, rfl, hlk, HLK, HOX, HFX⟩ := hrel
    obtain ⟨wk, hwk⟩ : ∃ x : World, x = wr := ⟨_, rfl⟩
    subst hwk
    have hl0k : Later w0 wk := HW0.out.trans hlk
    by_cases hkK : k < K
    ·have hkI : (k : Int) < K := by omega
     have hkl : k < KS.length := by rw [HK.out]; exact hkK
     obtain ⟨qb, qo, cq, hv, hqb, g⟩ := (ints_lat HI3.out HLK.out (fun i hi hz => by
      have h1 := HF3.out i hi
      have := (HO.out.lt i hz).2
      omega)).full (j := k) hkl
     rw [HK.out] at hv
     cases hv
     have hkr := HKR.out _ (List.getElem_mem hkl)
     have HKT := Lib.hid (askK_take (env := envT fx ch) (day := day) hkl)
     obtain ⟨key, hkey⟩ : ∃ x, KS[k] = x := ⟨_, rfl⟩
     rw [hkey] at g hkr HKT
     have HFI := Lib.hid (fun W (hW : Later w0 W) => fixing_any p m1 m2 fx ch key day W (HJ.out.facts.later hW) ⟨by omega, by omega⟩ ⟨by omega, by omega⟩)
     have HIS : Hid ((gotF fx key day).2.2 = (getF fx day key).isSome) := Lib.hid (gotF_eq fx key day).2.2
     obtain ⟨⟨zb, cb, fb⟩, -⟩ := (HST.out.later hlk).own
     have c2 : wk.cell? ⟨b, 6, none⟩ = some (.pointer (some ⟨p, 0, none⟩)) := cb 6
     obtain ⟨⟨gn, gd, gi⟩, hgg⟩ : ∃ g, gotF fx key day = g := ⟨_, rfl⟩
     rw [hgg] at HFI HIS
     simp only at HFI HIS
     clear cb fb hgg hkey hkl hkr
     go_upto_region 10 with (go_at_call 24; go_must (refine (HFI.out _ (hl0k.trans (by repeat (first | with_reducible (first | exact zq1 _ | assumption | refine zq2 ?_ | refine zq4 ?_ ?_ _ | refine zq5 ?_ _ | refine zq6 ?_ _ | refine zq7 ?_ | refine zq8 ?_ (by assumption)) | (simp only [zq10]; omega) | (simp; done) | (simp; omega))))).mono ?_; rintro e w4 ⟨rfl, hb4⟩))
     refine wp_opaque (fun w5 hb5 => ?_)
     have hlk5 : Later wk w5 := hb4.trans hb5.un1
     clear hb4 hb5 g c2 HFI
     cases gi
     ·have HN : Hid (askK (envT fx ch) day (KS.take (k + 1)) = askK (envT fx ch) day (KS.take k) ++ [⟨false, key, day⟩]) := Lib.hid (by
       rw [HKT.out, show ((envT fx ch).get day key).isNone = true by
        have := HIS.out
        show (getF fx day key).isNone = true
        cases hg : getF fx day key with
        | none => rfl
        | some v => rw [hg] at this; cases this]
       rfl)
      have HO5 := Lib.hid (B.owns_later HOX.out hlk5)
      have hlw5 := hlk.trans hlk5
      have HNL : Hid ((AS ++ askK (envT fx ch) day (KS.take k)).length ≤ 200000) := Lib.hid (by
       have h1 := askK_le (envT fx ch) day (KS.take k)
       rw [List.length_take] at h1
       have := HQ2.out
       have := HKL.out
       rw [List.length_append]; omega)
      obtain ⟨N, hN⟩ : ∃ N, (AS ++ askK (envT fx ch) day (KS.take k)).length = N := ⟨_, rfl⟩
      rw [hN] at HO5 HNL
      have HNN := Lib.hid hN
      clear HOX hN
      go_wp2_with (at_builtin; go_must (refine B.wpList_push sliceWait HO5.out hlw5.size rfl _ _ rfl rfl 1 _ rfl rfl rfl (by simp [Value.oneCell']) (by have := HNL.out; omega) (by have := HNL.out; unfold maxLen; omega) ?_; intro v9 w9 h1 h2 h3; obtain ⟨p9, c9, rfl⟩ := B.owns_form h1; have hl9 : Later w w9 := B.grown_lat (hlw5.alloc _) h2 (fun k hk => (HO5.out.lt k hk).1); have hg9 := S.LatB.grown (S := fun k => Vk.ownBlock = some k) (S.LatB.refl _) h2 (fun k hk => hk)))
      go_roundw
      case rel => exact ⟨k + 1, _, rfl, by omega, by go_num, hl9, Lib.hid (lat_step ((HLK.out.later hlk5).later ((Later.refl w5).alloc _)) (fun i hi => HFX.out.elim (fun f => .inl (by rw [← f]; exact hi)) (fun f => .inr (f i hi))) hg9), Lib.hid (by rw [HN.out, ← List.append_assoc, List.length_append (bs := [_]), HNN.out, List.flatMap_append (ys := [_])]; exact h1), Lib.hid (h3.elim (fun f => HFX.out.imp (fun g => by rw [f, g]) (fun g i hi => g i (by rw [← f]; exact hi))) (fun f => .inr (fun i hi => Nat.le_trans (Nat.le_trans HLK.out.size hlk5.size) (f i hi))))⟩
      case measure => simp [intOf]; omega
     ·have HN : Hid (askK (envT fx ch) day (KS.take (k + 1)) = askK (envT fx ch) day (KS.take k)) := Lib.hid (by
       rw [HKT.out, show ((envT fx ch).get day key).isNone = false by
        have := HIS.out
        show (getF fx day key).isNone = false
        cases hg : getF fx day key with
        | none => rw [hg] at this; cases this
        | some v => rfl]
       simp)
      go_wp2_with fail
      go_roundw
      case rel => exact ⟨k + 1, _, rfl, by omega, by go_num, hlk.trans hlk5, Lib.hid (HLK.out.later hlk5), Lib.hid (by rw [HN.out]; exact B.owns_later HOX.out hlk5), HFX⟩
      case measure => simp [intOf]; omega
    ·have hge : ¬ ((k : Int) < K) := by omega
     have HTA : Hid (KS.take k = KS) := Lib.hid (List.take_of_length_le (by rw [HK.out]; omega))
     go_wp2_with fail
     go_roundw
     case rel => exact ⟨q + 1, _, rfl, by omega, by go_num, hlk, Lib.hid (by rw [HTK.out]; have := HOX.out; rw [HTA.out] at this; exact this)⟩
     case measure => simp [intOf]; omega
  ·have hge2 : ¬ ((q : Int) < L) := by omega
   obtain rfl : q = L := by omega
   have hE : l.take q = l := List.take_of_length_le (by rw [HLL.out]; omega)
   rw [hE] at HO
   clear hE
   go_wp2_with fail
   go_ret
   exact ⟨_, rfl, (B.owns_row wtCs wtCs_len wtCs_get (by decide) HO.out).1, hlr, fun k hk => (HO.out.lt k hk).1⟩
end Go.Proofs.YtkjabiabeemfhaaGreatDoor
end
