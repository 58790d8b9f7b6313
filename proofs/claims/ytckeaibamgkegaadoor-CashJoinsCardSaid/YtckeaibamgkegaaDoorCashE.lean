/- money as a text: Print of the reference -/
import Derived.Test.YtckeaibamgkegaaDoorCashD
set_option linter.all false
namespace Go.Proofs.YtckeaibamgkegaaDoor
open Go.RowKit
set_option maxRecDepth 100000

def strN : Value → Nat
  | .string s => s.size
  | _ => 0
theorem pad_more {D : List UInt8} {j : Nat} : [48] ++ (List.replicate j 48 ++ D) = List.replicate (j + 1) (48 : UInt8) ++ D := by
  rw [List.replicate_succ]; rfl
theorem textM_ref0 {c : Nat} (n : Int) (hk : dgN c = 0) : textM c n = nmL c ++ [32] ++ signL n ++ padL 0 (Lib.decDigits n.natAbs) := by
  unfold textM pointL
  rw [hk, if_pos rfl, Nat.sub_zero, List.take_length]
  simp [List.append_assoc]
theorem textM_ref {c k : Nat} (n : Int) (hk : dgN c = k) (h0 : k ≠ 0) : textM c n = nmL c ++ [32] ++ signL n ++ ((padL k (Lib.decDigits n.natAbs)).take ((padL k (Lib.decDigits n.natAbs)).length - k) ++ [46] ++ (padL k (Lib.decDigits n.natAbs)).drop ((padL k (Lib.decDigits n.natAbs)).length - k)) := by
  unfold textM pointL
  rw [hk, if_neg h0]
  simp [List.append_assoc]

set_option maxHeartbeats 4000000 in
theorem rcprint_any (c : Nat) (n : Int) (h : c < 8) (hn : I64 n) (w : World) :
    Calls Tryd.prog 17 #[.int .i64 (c : Int), .int .i64 n] w fun e w' => e = .returned (.string ⟨(textM c n).toArray⟩) ∧ Later w w' := by
  have HT := Lib.hid (fun W => rdec_any n hn W)
  have HDG := Lib.hid (fun W => rdigits_yes c h W)
  have HNM := Lib.hid (fun W => rname_yes c h W)
  have hNs := nmB_size h
  have hkle := dgN_le c
  have hdl := dec_len (u := n.natAbs) (by unfold I64 at hn; omega)
  have hd0 : 0 < (Lib.decDigits n.natAbs).length := List.length_pos_iff.2 (dec_ne _)
  obtain ⟨SA, hSA⟩ : ∃ S, ByteArray.mk (Lib.itoa n).toArray = S := ⟨_, rfl⟩
  obtain ⟨SG, hSG⟩ : ∃ S, ByteArray.mk (signL n).toArray = S := ⟨_, rfl⟩
  have hA : SA = SG ++ ByteArray.mk (Lib.decDigits n.natAbs).toArray := by rw [← hSA, ← hSG, ba_app, itoa_sign]
  rw [hSA] at HT
  have HSG := Lib.hid hSG
  have HN : Hid (ByteArray.mk (nmL c).toArray = nmB c) := Lib.hid rfl
  have HA := Lib.hid hA
  have htx0 := fun hk => textM_ref0 (c := c) n hk
  have htx := fun k hk h0 => textM_ref (c := c) (k := k) n hk h0
  have HTX0 := Lib.hid htx0
  have HTX := Lib.hid htx
  obtain ⟨k, hk⟩ : ∃ k, dgN c = k := ⟨_, rfl⟩
  rw [hk] at hkle HDG
  have HK := Lib.hid hk
  clear hSA hSG hA hk htx htx0
  obtain ⟨N, hN⟩ : ∃ N, nmB c = N := ⟨_, rfl⟩
  rw [hN] at hNs HN HNM
  clear hN
  generalize Lib.decDigits n.natAbs = D at *
  go_enter Tryd.func17, Tryd.ntmps17
  go_upto_if 11 with (go_at_call 35; go_must (refine (HT.out _).mono ?_; rintro e w2 ⟨rfl, hb2⟩))
  go_cut [5, 6] (fun s5 s6 wx => s6 = .string SG ∧ s5 = .string ⟨D.toArray⟩ ∧ Later w2 wx)
  case first =>
    by_cases hneg : n < 0
    · have hG : SG = ⟨#[45]⟩ := by rw [← HSG.out]; unfold signL; rw [if_pos hneg]
      have hAs : SA.size = 1 + D.length := by rw [HA.out, hG, ByteArray.size_append, ba_len]; rfl
      have hE : SA.extract 1 SA.size = ⟨D.toArray⟩ := ByteArray.ext (Array.toList_inj.1 (by
        rw [Lib.extract_data, HA.out, hG, ByteArray.data_append, Array.toList_append]
        exact List.take_of_length_le (by rw [ByteArray.size_append]; simp [ba_len])))
      have hI1 : (1 : Int) ≤ SA.size := by omega
      have HE := Lib.hid hE
      subst hG
      clear hE HA HSG HN HK hAs HTX HTX0 HT HNM HDG
      go_wp2
      go_meet
      exact ⟨rfl, by rw [HE.out], by repeat (first | with_reducible exact Later.refl _ | with_reducible assumption | with_reducible refine Later.ofdrew ?_ | with_reducible refine Later.ofdrewN ?_ | with_reducible refine Later.setCell ?_ ?_ _ | with_reducible refine Later.alloc ?_ _ | with_reducible refine Later.drewN ?_ _ | with_reducible refine Later.drew ?_ | (with_reducible refine Later.trans ?_ (by assumption)) | (simp only [World.size_setCell, World.size_alloc, World.heap_drewN]; omega) | (simp; done) | (simp; omega))⟩
    · have hG : SG = ⟨#[]⟩ := by rw [← HSG.out]; unfold signL; rw [if_neg hneg]
      have hAD : SA = ⟨D.toArray⟩ := by rw [HA.out, hG]; exact ByteArray.ext (by simp)
      subst hG
      rw [hAD]
      clear HA HSG HN HK hAD HTX HTX0 HT HNM HDG
      go_wp2
      go_meet
      exact ⟨rfl, rfl, by repeat (first | with_reducible exact Later.refl _ | with_reducible assumption | with_reducible refine Later.ofdrew ?_ | with_reducible refine Later.ofdrewN ?_ | with_reducible refine Later.setCell ?_ ?_ _ | with_reducible refine Later.alloc ?_ _ | with_reducible refine Later.drewN ?_ _ | with_reducible refine Later.drew ?_ | (with_reducible refine Later.trans ?_ (by assumption)) | (simp only [World.size_setCell, World.size_alloc, World.heap_drewN]; omega) | (simp; done) | (simp; omega))⟩
  case rest =>
  obtain ⟨rfl, rfl, hlc⟩ := hcut
  have hw2 : Later w wc := hb2.trans hlc
  clear HA hb2 hlc HT
  go_upto_block 0 with (go_at_call 24; go_must (refine (HDG.out _).mono ?_; rintro e w3 ⟨rfl, hb3⟩))
  refine wp_opaque (fun W4 hb4 => ?_)
  have hw4 : Later w W4 := hw2.trans (hb3.trans hb4)
  clear hb3 hb4 hw2 HDG
  go_cut [5] (fun s5 wx => s5 = .string ⟨(padL k D).toArray⟩ ∧ wx = W4)
  case first =>
    go_wp2_with fail
    go_loop [5] (fun s5 => ∃ j : Nat, j ≤ k + 1 - D.length ∧ s5 = .string ⟨(List.replicate j (48 : UInt8) ++ D).toArray⟩) (fun s5 => k + 1 - strN s5)
    case atStart => exact ⟨0, Nat.zero_le _, rfl⟩
    case round =>
      obtain ⟨j, hj, rfl⟩ := hrel
      obtain ⟨S, hS⟩ : ∃ S, ByteArray.mk (List.replicate j (48 : UInt8) ++ D).toArray = S := ⟨_, rfl⟩
      have hSs : S.size = j + D.length := by rw [← hS, ba_len, List.length_append, List.length_replicate]
      have HS := Lib.hid hS
      rw [hS]
      clear hS HTX HTX0 HNM HK HN HSG
      by_cases hlt : S.size ≤ k
      · have hI : (S.size : Int) ≤ k := by omega
        have hz : (⟨#[48]⟩ : ByteArray).size = 1 := rfl
        have HE : Hid (⟨#[48]⟩ ++ S = ⟨(List.replicate (j + 1) (48 : UInt8) ++ D).toArray⟩) := Lib.hid (by
          show ByteArray.mk ([48] : List UInt8).toArray ++ S = _
          rw [← HS.out, ba_app, pad_more])
        have hSs2 : (⟨#[48]⟩ ++ S).size = S.size + 1 := by rw [ByteArray.size_append, hz]; omega
        have HSS := Lib.hid hSs2
        clear hSs2
        go_wp2
        go_round
        case rel => exact ⟨j + 1, by omega, by rw [HE.out]⟩
        case measure =>
          simp only [strN]
          have := HSS.out
          first | omega | (simp; omega) | (simp [strN]; omega)
      · have hI : ¬ ((S.size : Int) ≤ k) := by omega
        have hjj : j = k + 1 - D.length := by omega
        have HE : Hid (S = ⟨(padL k D).toArray⟩) := Lib.hid (by rw [← HS.out, hjj]; rfl)
        go_wp2
        go_meet
        exact ⟨by rw [HE.out], rfl⟩
  case rest =>
  obtain ⟨rfl, rfl⟩ := hcut
  have hpl := padL_len k D
  obtain ⟨SP, hSP⟩ : ∃ S, ByteArray.mk (padL k D).toArray = S := ⟨_, rfl⟩
  have hps : SP.size = max (k + 1) D.length := by rw [← hSP, ba_len, padL_len]
  have hps2 : SP.size ≤ 30 := by omega
  rw [hSP]
  have hgs : SG.size ≤ 1 := by rw [← HSG.out, ba_len]; exact signL_len n
  have hz1 : (⟨#[32]⟩ : ByteArray).size = 1 := rfl
  have hz2 : (⟨#[46]⟩ : ByteArray).size = 1 := rfl
  have hz3 : (N ++ ⟨#[32]⟩).size = 4 := by rw [ByteArray.size_append, hNs]; rfl
  by_cases hk0 : k = 0
  · have hkI : ¬ ((0 : Int) < k) := by omega
    have HS : Hid (N ++ ⟨#[32]⟩ ++ SG ++ SP = ⟨(textM c n).toArray⟩) := Lib.hid (by
      rw [HTX0.out (by rw [HK.out]; exact hk0), ← ba_app, ← ba_app, ← ba_app, HN.out, HSG.out]
      rw [← hk0, hSP])
    clear HTX HTX0 HSG HN HK hk0 hSP hpl
    go_wp2_with (go_at_call 22; go_must (refine (HNM.out _).mono ?_; rintro e w5 ⟨rfl, hb5⟩))
    go_ret
    exact ⟨ret_str HS.out, hw4.trans (by repeat (first | with_reducible exact Later.refl _ | with_reducible assumption | with_reducible refine Later.ofdrew ?_ | with_reducible refine Later.ofdrewN ?_ | with_reducible refine Later.setCell ?_ ?_ _ | with_reducible refine Later.alloc ?_ _ | with_reducible refine Later.drewN ?_ _ | with_reducible refine Later.drew ?_ | (with_reducible refine Later.trans ?_ (by assumption)) | (simp only [World.size_setCell, World.size_alloc, World.heap_drewN]; omega) | (simp; done) | (simp; omega)))⟩
  · have hkI : (0 : Int) < k := by omega
    obtain ⟨q, hq⟩ : ∃ q : Nat, SP.size - k = q := ⟨_, rfl⟩
    have hqI : (SP.size : Int) - (k : Int) = (q : Int) := by omega
    have hq1 : q ≤ SP.size := by omega
    have hq2 : (q : Int) ≤ SP.size := by omega
    have hlq : (padL k D).length - k = q := by rw [hpl]; omega
    have p2 : ByteArray.mk ((padL k D).take q).toArray = SP.extract 0 q := ByteArray.ext (Array.toList_inj.1 (by rw [Lib.extract_data, ← hSP]; simp))
    have p3 : ByteArray.mk ((padL k D).drop q).toArray = SP.extract q SP.size := ByteArray.ext (Array.toList_inj.1 (by
      rw [Lib.extract_data, ← hSP]; simp
      exact (List.take_of_length_le (by rw [List.length_drop]; simp only [ba_len]; omega)).symm))
    have hxt := HTX.out k HK.out hk0
    rw [hlq] at hxt
    obtain ⟨WS, hWS⟩ : ∃ S, SP.extract 0 q = S := ⟨_, rfl⟩
    obtain ⟨PS, hPS⟩ : ∃ S, SP.extract q SP.size = S := ⟨_, rfl⟩
    have hws : WS.size ≤ 30 := by rw [← hWS]; exact Nat.le_trans (ext_size _ _ _) hps2
    have hpss : PS.size ≤ 30 := by rw [← hPS]; exact Nat.le_trans (ext_size _ _ _) hps2
    rw [hWS] at p2
    rw [hPS] at p3
    have HS : Hid (N ++ ⟨#[32]⟩ ++ SG ++ (WS ++ ⟨#[46]⟩ ++ PS) = ⟨(textM c n).toArray⟩) := Lib.hid (by
      rw [hxt, ← ba_app, ← ba_app, ← ba_app, ← ba_app, ← ba_app, HN.out, HSG.out, p2, p3])
    have hz4 : (WS ++ ⟨#[46]⟩).size = WS.size + 1 := by rw [ByteArray.size_append]; rfl
    have hz5 : (WS ++ ⟨#[46]⟩ ++ PS).size ≤ 62 := by rw [ByteArray.size_append, hz4]; omega
    have HZ5 := Lib.hid hz5
    clear HTX HTX0 HSG HN HK hk0 hSP hpl p2 p3 hxt hlq hq hps hz5
    go_upto_region 10 with (fail)
    refine wp_region_plan 15 (.two [0, 1, 3, 7, 8, 10] 2 (.one [4, 5, 6] 9 (.done [11, 12, 13, 14])) 9 (.one [11, 12] 2 (.done [4, 5, 6, 13, 14]))) (by kernel_rfl) (by kernel_rfl) (fun _ _ d _ _ h => by cases d <;> exact h) ?_
    repeat' (first
      | (refine plan_done (fun K hK => ?_); (first | (simp only [pick_cons, pick_nil, toList_some_append, List.getElem?_toArray, List.getElem?_cons_zero, List.getElem?_cons_succ]; repeat (go_big_quiet_step (fail))) | simp only [pick_nil]); refine wpQuiet_nil (hK _ ?_); clear hK K)
      | (refine plan_one (by rfl) (fun K hK => ?_); (first | (simp only [pick_cons, pick_nil, toList_some_append, List.getElem?_toArray, List.getElem?_cons_zero, List.getElem?_cons_succ]; repeat (go_big_quiet_step (fail))) | simp only [pick_nil]); refine wpQuiet_nil (hK _ ?_); clear hK K)
      | (refine plan_two (by rfl) (by rfl) (fun K hK => ?_); (first | (simp only [pick_cons, pick_nil, toList_some_append, List.getElem?_toArray, List.getElem?_cons_zero, List.getElem?_cons_succ]; repeat (go_big_quiet_step (fail))) | simp only [pick_nil]); refine wpQuiet_nil (hK _ ?_); clear hK K; refine ⟨?_, ?_⟩)
      | ((with_reducible refine at_list ?_); go_wp2_with (fail); first | refine behind_store (t := 15) (by decide) ?_ | refine behind (by repeat (first | with_reducible exact Later.refl _ | with_reducible assumption | with_reducible refine Later.ofdrew ?_ | with_reducible refine Later.ofdrewN ?_ | with_reducible refine Later.alloc ?_ _ | with_reducible refine Later.drewN ?_ _ | with_reducible refine Later.drew ?_ | (with_reducible refine Later.trans ?_ (by assumption)))) ?_))
    all_goals
      go_wp2_with (go_at_call 22; go_must (refine (HNM.out _).mono ?_; rintro e w5 ⟨rfl, hb5⟩))
      go_ret
      exact ⟨ret_str HS.out, hw4.trans (by repeat (first | with_reducible exact Later.refl _ | with_reducible assumption | with_reducible refine Later.ofdrew ?_ | with_reducible refine Later.ofdrewN ?_ | with_reducible refine Later.setCell ?_ ?_ _ | with_reducible refine Later.alloc ?_ _ | with_reducible refine Later.drewN ?_ _ | with_reducible refine Later.drew ?_ | (with_reducible refine Later.trans ?_ (by assumption)) | (simp only [World.size_setCell, World.size_alloc, World.heap_drewN]; omega) | (simp; done) | (simp; omega)))⟩
end Go.Proofs.YtckeaibamgkegaaDoor
