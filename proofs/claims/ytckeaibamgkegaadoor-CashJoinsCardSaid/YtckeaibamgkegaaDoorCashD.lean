/- money as a text: Print of the program -/
import Derived.Test.YtckeaibamgkegaaDoorCashC
import Derived.Test.YtckeaibamgkegaaDoorCashP
set_option linter.all false
namespace Go.Proofs.YtckeaibamgkegaaDoor
open Go.RowKit
set_option maxRecDepth 100000

theorem ret_ps2 {a b : ByteArray} {e : Int} (h : a = b) : Ending.returned (.tuple #[.string a, .int .i64 e]) = .returned (.tuple #[.string b, .int .i64 e]) := by rw [h]
set_option maxHeartbeats 1600000 in
theorem cprint_no (x n : Int) (h : ¬ (0 ≤ x ∧ x < 8)) (w : World) : Calls Tryd.prog 15 #[.int .i64 x, .int .i64 n] w fun e w' => e = .returned (.tuple #[.string ⟨#[]⟩, .int .i64 10]) ∧ Later w w' := by
  have HI := Lib.hid (fun W => is_no x h W)
  clear h
  go_enter Tryd.func15, Tryd.ntmps15
  go_wp2_with (go_at_call 37; go_must (refine (HI.out _).mono ?_; rintro e w1 ⟨rfl, rfl⟩))
  go_ret2
  exact ⟨rfl, by repeat (first | with_reducible exact Later.refl _ | with_reducible assumption | with_reducible refine Later.ofdrew ?_ | with_reducible refine Later.ofdrewN ?_ | with_reducible refine Later.setCell ?_ ?_ _ | with_reducible refine Later.alloc ?_ _ | with_reducible refine Later.drewN ?_ _ | with_reducible refine Later.drew ?_ | (with_reducible refine Later.trans ?_ (by assumption)) | (simp only [World.size_setCell, World.size_alloc, World.heap_drewN]; omega) | (simp; done) | (simp; omega))⟩

set_option maxHeartbeats 4000000 in
theorem cprint_yes (c : Nat) (n : Int) (h : c < 8) (hn : I64 n) (w : World) (hL : LibAt w) (hC : CurAt w) :
    Calls Tryd.prog 15 #[.int .i64 (c : Int), .int .i64 n] w fun e w' => e = .returned (.tuple #[.string ⟨(textM c n).toArray⟩, .int .i64 0]) ∧ Later w w' := by
  have HI := Lib.hid (fun W => is_yes c h W)
  have HT := Lib.hid (fun W (hl : Later w W) => itoa_any n hn W (hL.pow.later hl))
  have c1 := (hC c h).1
  have c2 := (hC c h).2
  have hz := hC.lt
  have hNs := nmB_size h
  have h1 : (c : Int) < 8 := by omega
  have hkle := dgN_le c
  have hdl := dec_len (u := n.natAbs) (by unfold I64 at hn; omega)
  have hd0 : 0 < (Lib.decDigits n.natAbs).length := List.length_pos_iff.2 (dec_ne _)
  obtain ⟨SA, hSA⟩ : ∃ S, ByteArray.mk (Lib.itoa n).toArray = S := ⟨_, rfl⟩
  obtain ⟨SG, hSG⟩ : ∃ S, ByteArray.mk (signL n).toArray = S := ⟨_, rfl⟩
  obtain ⟨SD, hSD⟩ : ∃ S, ByteArray.mk (Lib.decDigits n.natAbs).toArray = S := ⟨_, rfl⟩
  have hsd : SD.size = (Lib.decDigits n.natAbs).length := by rw [← hSD, ba_len]
  have hA : SA = SG ++ SD := by rw [← hSA, ← hSG, ← hSD, ba_app, itoa_sign]
  rw [hSA] at HT
  have HSG := Lib.hid hSG
  have HSD := Lib.hid hSD
  have HN : Hid (ByteArray.mk (nmL c).toArray = nmB c) := Lib.hid rfl
  have HA := Lib.hid hA
  obtain ⟨k, hk⟩ : ∃ k, dgN c = k := ⟨_, rfl⟩
  rw [hk] at c2 hkle
  have HK := Lib.hid hk
  rw [← hsd] at hdl hd0
  clear hC hL hSA hSG hSD hsd hA hk
  obtain ⟨N, hN⟩ : ∃ N, nmB c = N := ⟨_, rfl⟩
  rw [hN] at c1 hNs HN
  clear hN
  go_enter Tryd.func15, Tryd.ntmps15
  go_upto_if 20 with (first | (go_at_call 37; go_must (refine (HI.out _).mono ?_; rintro e w1 ⟨rfl, rfl⟩)) | (go_at_call 30; go_must (refine (HT.out _ (by repeat (first | with_reducible exact Later.refl _ | with_reducible assumption | with_reducible refine Later.ofdrew ?_ | with_reducible refine Later.ofdrewN ?_ | with_reducible refine Later.setCell ?_ ?_ _ | with_reducible refine Later.alloc ?_ _ | with_reducible refine Later.drewN ?_ _ | with_reducible refine Later.drew ?_ | (with_reducible refine Later.trans ?_ (by assumption)) | (simp only [World.size_setCell, World.size_alloc, World.heap_drewN]; omega) | (simp; done) | (simp; omega)))).mono ?_; rintro e w2 ⟨rfl, hb2⟩)))
  have HO := Lib.hid (Own.one hb2)
  have hw2 := hb2.un1
  clear hb2 HI HT c1 c2 hz
  go_cut [7, 8] (fun s7 s8 wx => s7 = .string SG ∧ s8 = .string SD ∧ Later w2 wx)
  case first =>
    by_cases hneg : n < 0
    · have hG : SG = ⟨#[45]⟩ := by rw [← HSG.out]; unfold signL; rw [if_pos hneg]
      have hAs : SA.size = 1 + SD.size := by rw [HA.out, hG, ByteArray.size_append]; rfl
      have hE : SA.extract 1 SA.size = SD := ByteArray.ext (Array.toList_inj.1 (by
        have hl : SD.data.toList.length = SD.size := Array.length_toList
        rw [Lib.extract_data, HA.out, hG, ByteArray.data_append, Array.toList_append]
        exact List.take_of_length_le (by rw [ByteArray.size_append]; show SD.data.toList.length ≤ _; rw [hl]; show _ ≤ 1 + SD.size - 1; omega)))
      have hI1 : (1 : Int) ≤ SA.size := by omega
      have HE := Lib.hid hE
      subst hG
      clear hE HA HSG HSD HN HO HK hAs
      go_wp2
      refine wp_region_plan 4 (.done [0, 1, 2, 3]) (by kernel_rfl) (by kernel_rfl) (fun _ _ d _ _ h => by cases d <;> exact h) ?_
      repeat' (first
        | (refine plan_done (fun K hK => ?_); (first | (simp only [pick_cons, pick_nil, toList_some_append, List.getElem?_toArray, List.getElem?_cons_zero, List.getElem?_cons_succ]; repeat (go_big_quiet_step (fail))) | simp only [pick_nil]); refine wpQuiet_nil (hK _ ?_); clear hK K)
        | ((with_reducible refine at_list ?_); go_wp2_with (fail); first | refine behind_store (t := 4) (by decide) ?_ | refine behind (by repeat (first | with_reducible exact Later.refl _ | with_reducible assumption | with_reducible refine Later.ofdrew ?_ | with_reducible refine Later.ofdrewN ?_ | with_reducible refine Later.alloc ?_ _ | with_reducible refine Later.drewN ?_ _ | with_reducible refine Later.drew ?_ | (with_reducible refine Later.trans ?_ (by assumption)))) ?_))
      go_wp2
      go_meet
      exact ⟨rfl, by rw [HE.out], by repeat (first | with_reducible exact Later.refl _ | with_reducible assumption | with_reducible refine Later.ofdrew ?_ | with_reducible refine Later.ofdrewN ?_ | with_reducible refine Later.setCell ?_ ?_ _ | with_reducible refine Later.alloc ?_ _ | with_reducible refine Later.drewN ?_ _ | with_reducible refine Later.drew ?_ | (with_reducible refine Later.trans ?_ (by assumption)) | (simp only [World.size_setCell, World.size_alloc, World.heap_drewN]; omega) | (simp; done) | (simp; omega))⟩
    · have hG : SG = ⟨#[]⟩ := by rw [← HSG.out]; unfold signL; rw [if_neg hneg]
      have hAD : SA = SD := by rw [HA.out, hG]; exact ByteArray.ext (by simp)
      subst hAD
      subst hG
      clear HA HSG HSD HN HO HK
      go_wp2
      go_meet
      exact ⟨rfl, rfl, by repeat (first | with_reducible exact Later.refl _ | with_reducible assumption | with_reducible refine Later.ofdrew ?_ | with_reducible refine Later.ofdrewN ?_ | with_reducible refine Later.setCell ?_ ?_ _ | with_reducible refine Later.alloc ?_ _ | with_reducible refine Later.drewN ?_ _ | with_reducible refine Later.drew ?_ | (with_reducible refine Later.trans ?_ (by assumption)) | (simp only [World.size_setCell, World.size_alloc, World.heap_drewN]; omega) | (simp; done) | (simp; omega))⟩
  case rest =>
  obtain ⟨rfl, rfl, hlc⟩ := hcut
  obtain ⟨⟨zA, dA, fA⟩, -⟩ := HO.out.later hlc
  clear HA
  obtain ⟨m, hm⟩ : ∃ m : Nat, k + 1 - SD.size = m := ⟨_, rfl⟩
  have hmx : max 0 ((k : Int) + 1 - SD.size) = (m : Int) := by omega
  obtain ⟨SZ, hSZ⟩ : ∃ S, ByteArray.mk (Lib.repeatL [48] m).toArray = S := ⟨_, rfl⟩
  have hpp := fun SP hP => point_parts (k := k) (SZ := SZ) (SP := SP) HSD.out (by rw [hm]; exact hSZ) hP
  have HPP := Lib.hid hpp
  have HRE := Lib.hid (fun W => Tryd.strings_Repeat ⟨#[48]⟩ m W (by omega) (by show 1 * m ≤ _; omega))
  have hzs : SZ.size = m := by rw [← hSZ, ba_len, repeat_nought, List.length_replicate]
  simp only [show (⟨#[48]⟩ : ByteArray).data.toList = [48] from rfl, hSZ] at HRE
  clear hpp hSZ hm
  go_upto_region 8 with (go_at_call 38; go_must (refine (HRE.out _).mono ?_; rintro e w4 ⟨rfl, hb4⟩; clear zA dA fA; obtain ⟨⟨zA, dA, fA⟩, -⟩ := HO.out.later (hlc.trans hb4)))
  obtain ⟨SP, hSP⟩ : ∃ S, SZ ++ SD = S := ⟨_, rfl⟩
  obtain ⟨p1, p2, p3⟩ := HPP.out SP hSP
  rw [hSP]
  have hw4 : Later w w4 := hw2.trans (hlc.trans hb4)
  clear hmx hSP HPP HRE hzs
  obtain ⟨q, hq⟩ : ∃ q : Nat, SP.size - k = q := ⟨_, rfl⟩
  rw [hq] at p2 p3
  have hqI : (SP.size : Int) - (k : Int) = (q : Int) := by omega
  have hq1 : q ≤ SP.size := by omega
  have hq2 : (q : Int) ≤ SP.size := by omega
  have hps : SP.size ≤ 30 := by omega
  have P2 := Lib.hid p2
  have P3 := Lib.hid p3
  clear p1 p2 p3 hq hdl hd0
  refine wp_region_plan 16 (.two [0, 1, 3, 4, 7, 8, 10, 11] 2 (.one [5, 6, 14] 9 (.done [12, 13, 15])) 9 (.one [12, 13] 2 (.done [5, 6, 14, 15]))) (by kernel_rfl) (by kernel_rfl) (fun _ _ d _ _ h => by cases d <;> exact h) ?_
  repeat' (first
    | (refine plan_done (fun K hK => ?_); (first | (simp only [pick_cons, pick_nil, toList_some_append, List.getElem?_toArray, List.getElem?_cons_zero, List.getElem?_cons_succ]; repeat (go_big_quiet_step (fail))) | simp only [pick_nil]); refine wpQuiet_nil (hK _ ?_); clear hK K)
    | (refine plan_one (by rfl) (fun K hK => ?_); (first | (simp only [pick_cons, pick_nil, toList_some_append, List.getElem?_toArray, List.getElem?_cons_zero, List.getElem?_cons_succ]; repeat (go_big_quiet_step (fail))) | simp only [pick_nil]); refine wpQuiet_nil (hK _ ?_); clear hK K)
    | (refine plan_two (by rfl) (by rfl) (fun K hK => ?_); (first | (simp only [pick_cons, pick_nil, toList_some_append, List.getElem?_toArray, List.getElem?_cons_zero, List.getElem?_cons_succ]; repeat (go_big_quiet_step (fail))) | simp only [pick_nil]); refine wpQuiet_nil (hK _ ?_); clear hK K; refine ⟨?_, ?_⟩)
    | ((with_reducible refine at_list ?_); go_wp2_with (fail); first | refine behind_store (t := 16) (by decide) ?_ | refine behind (by repeat (first | with_reducible exact Later.refl _ | with_reducible assumption | with_reducible refine Later.ofdrew ?_ | with_reducible refine Later.ofdrewN ?_ | with_reducible refine Later.alloc ?_ _ | with_reducible refine Later.drewN ?_ _ | with_reducible refine Later.drew ?_ | (with_reducible refine Later.trans ?_ (by assumption)))) ?_))
  all_goals
    go_upto_if 49 with (fail)
    obtain ⟨WS, hWS⟩ : ∃ S, SP.extract 0 q = S := ⟨_, rfl⟩
    obtain ⟨PS, hPS⟩ : ∃ S, SP.extract q SP.size = S := ⟨_, rfl⟩
    have hws : WS.size ≤ 30 := by rw [← hWS]; exact Nat.le_trans (ext_size _ _ _) hps
    have hpss : PS.size ≤ 30 := by rw [← hPS]; exact Nat.le_trans (ext_size _ _ _) hps
    rw [hWS, hPS]
    rw [hWS] at P2
    rw [hPS] at P3
    have hgs : SG.size ≤ 1 := by rw [← HSG.out, ba_len]; exact signL_len n
    have htx := textM_parts n HK.out
    have e1 : (⟨#[32]⟩ : ByteArray) = ByteArray.mk ([32] : List UInt8).toArray := rfl
    have e2 : (⟨#[46]⟩ : ByteArray) = ByteArray.mk ([46] : List UInt8).toArray := rfl
    have hz1 : (⟨#[32]⟩ : ByteArray).size = 1 := rfl
    have hz2 : (⟨#[46]⟩ : ByteArray).size = 1 := rfl
    by_cases hk0 : k = 0
    · have hkI : ¬ ((0 : Int) < k) := by omega
      have hP0 : PS = ⟨#[]⟩ := by
        rw [← P3.out, hk0, Nat.sub_zero, List.drop_length]
      have HS : Hid (N ++ ⟨#[32]⟩ ++ SG ++ WS ++ PS = ⟨(textM c n).toArray⟩) := Lib.hid (by
        rw [htx, if_pos hk0, ← ba_app, ← ba_app, ← ba_app, ← ba_app, HN.out, HSG.out, P2.out, hP0])
      clear htx e1 e2 P2 P3 HSG HSD HN HK hP0 hk0 hWS hPS
      go_wp2
      go_ret2
      exact ⟨ret_ps2 HS.out, hw4.trans (by repeat (first | with_reducible exact Later.refl _ | with_reducible assumption | with_reducible refine Later.ofdrew ?_ | with_reducible refine Later.ofdrewN ?_ | with_reducible refine Later.setCell ?_ ?_ _ | with_reducible refine Later.alloc ?_ _ | with_reducible refine Later.drewN ?_ _ | with_reducible refine Later.drew ?_ | (with_reducible refine Later.trans ?_ (by assumption)) | (simp only [World.size_setCell, World.size_alloc, World.heap_drewN]; omega) | (simp; done) | (simp; omega)))⟩
    · have hkI : (0 : Int) < k := by omega
      have HS : Hid (N ++ ⟨#[32]⟩ ++ SG ++ WS ++ (⟨#[46]⟩ ++ PS) = ⟨(textM c n).toArray⟩) := Lib.hid (by
        rw [htx, if_neg hk0, ← ba_app, ← ba_app, ← ba_app, ← ba_app, ← ba_app, HN.out, HSG.out, P2.out, P3.out])
      clear htx e1 e2 P2 P3 HSG HSD HN HK hk0 hWS hPS
      go_wp2
      go_ret2
      exact ⟨ret_ps2 HS.out, hw4.trans (by repeat (first | with_reducible exact Later.refl _ | with_reducible assumption | with_reducible refine Later.ofdrew ?_ | with_reducible refine Later.ofdrewN ?_ | with_reducible refine Later.setCell ?_ ?_ _ | with_reducible refine Later.alloc ?_ _ | with_reducible refine Later.drewN ?_ _ | with_reducible refine Later.drew ?_ | (with_reducible refine Later.trans ?_ (by assumption)) | (simp only [World.size_setCell, World.size_alloc, World.heap_drewN]; omega) | (simp; done) | (simp; omega)))⟩
end Go.Proofs.YtckeaibamgkegaaDoor
