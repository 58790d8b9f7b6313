/- the laws of cash: awake, CashPrints, CashBack -/
import Derived.Test.YtckeaibamgkegaaDoorCashS
import Derived.Test.YtckeaibamgkegaaDoorCashE
set_option linter.all false
namespace Go.Proofs.YtckeaibamgkegaaDoor
open Go.RowKit
set_option maxRecDepth 100000

theorem aw1 : textM 0 (-1205) = [69, 85, 82, 32, 45, 49, 50, 46, 48, 53] := by decide +kernel
theorem aw2 : textM 3 7 = [74, 80, 89, 32, 55] := by decide +kernel
theorem aw3 : textM 6 1 = [75, 87, 68, 32, 48, 46, 48, 48, 49] := by decide +kernel

set_option maxHeartbeats 1600000 in
theorem cawake_any (w : World) (hL : LibAt w) (hC : CurAt w) : Calls Tryd.prog 16 #[] w fun e w' => e = .returned (.bool true) ∧ Later w w' := by
  have H1 := Lib.hid (fun W (hl : Later w W) => cprint_yes 0 (-1205) (by omega) ⟨by decide, by decide⟩ W (hL.later hl) (hC.later hl))
  have H2 := Lib.hid (fun W (hl : Later w W) => cprint_yes 3 7 (by omega) ⟨by decide, by decide⟩ W (hL.later hl) (hC.later hl))
  have H3 := Lib.hid (fun W (hl : Later w W) => cparse_any [75, 87, 68, 32, 48, 46, 48, 48, 49] (by simp) W (hL.later hl) (hC.later hl))
  have hm := MP_text 6 1 (by omega) ⟨by decide, by decide⟩
  rw [aw3] at hm
  have HM := Lib.hid hm
  simp only [aw1] at H1
  simp only [aw2] at H2
  have tok1 : True := trivial
  clear hL hC hm
  go_enter Tryd.func16, Tryd.ntmps16
  go_wp2_with (first | (go_at_call 15; clear tok1; go_must (refine (H1.out _ (by repeat (first | with_reducible exact Later.refl _ | with_reducible assumption | with_reducible refine Later.ofdrew ?_ | with_reducible refine Later.ofdrewN ?_ | with_reducible refine Later.setCell ?_ ?_ _ | with_reducible refine Later.alloc ?_ _ | with_reducible refine Later.drewN ?_ _ | with_reducible refine Later.drew ?_ | (with_reducible refine Later.trans ?_ (by assumption)) | (simp only [World.size_setCell, World.size_alloc, World.heap_drewN]; omega) | (simp; done) | (simp; omega)))).mono ?_; rintro e w1 ⟨rfl, hb1⟩)) | (go_at_call 15; go_must (refine (H2.out _ (by repeat (first | with_reducible exact Later.refl _ | with_reducible assumption | with_reducible refine Later.ofdrew ?_ | with_reducible refine Later.ofdrewN ?_ | with_reducible refine Later.setCell ?_ ?_ _ | with_reducible refine Later.alloc ?_ _ | with_reducible refine Later.drewN ?_ _ | with_reducible refine Later.drew ?_ | (with_reducible refine Later.trans ?_ (by assumption)) | (simp only [World.size_setCell, World.size_alloc, World.heap_drewN]; omega) | (simp; done) | (simp; omega)))).mono ?_; rintro e w2 ⟨rfl, hb2⟩)) | (go_at_call 18; go_must (refine (H3.out _ (by repeat (first | with_reducible exact Later.refl _ | with_reducible assumption | with_reducible refine Later.ofdrew ?_ | with_reducible refine Later.ofdrewN ?_ | with_reducible refine Later.setCell ?_ ?_ _ | with_reducible refine Later.alloc ?_ _ | with_reducible refine Later.drewN ?_ _ | with_reducible refine Later.drew ?_ | (with_reducible refine Later.trans ?_ (by assumption)) | (simp only [World.size_setCell, World.size_alloc, World.heap_drewN]; omega) | (simp; done) | (simp; omega)))).mono ?_; rintro e w3 ⟨⟨c, n, er, rfl, hp, -⟩, hb3⟩; obtain ⟨e1, e2, e3⟩ := MP_one hp HM.out; subst e1 e2 e3; clear hp)))
  go_ret
  exact ⟨rfl, by repeat (first | with_reducible exact Later.refl _ | with_reducible assumption | with_reducible refine Later.ofdrew ?_ | with_reducible refine Later.ofdrewN ?_ | with_reducible refine Later.setCell ?_ ?_ _ | with_reducible refine Later.alloc ?_ _ | with_reducible refine Later.drewN ?_ _ | with_reducible refine Later.drew ?_ | (with_reducible refine Later.trans ?_ (by assumption)) | (simp only [World.size_setCell, World.size_alloc, World.heap_drewN]; omega) | (simp; done) | (simp; omega))⟩

set_option maxHeartbeats 1600000 in
theorem lprints_any (cur n : Int) (hc : I64 cur) (hn : I64 n) (w : World) (hL : LibAt w) (hC : CurAt w) :
    Calls Tryd.prog 4 #[.int .i64 cur, .int .i64 n] w fun e w' => e = .returned (.bool true) ∧ Later w w' := by
  have HAW := Lib.hid (fun W (hl : Later w W) => cawake_any W (hL.later hl) (hC.later hl))
  by_cases h : 0 ≤ cur ∧ cur < 8
  · obtain ⟨c, rfl⟩ := Int.eq_ofNat_of_zero_le h.1
    have h8 : c < 8 := by omega
    have h1 : ¬ ((c : Int) < 0) := by omega
    have h2 : ¬ ((7 : Int) < c) := by omega
    have HP := Lib.hid (fun W (hl : Later w W) => cprint_yes c n h8 hn W (hL.later hl) (hC.later hl))
    have HR := Lib.hid (fun W => rcprint_any c n h8 hn W)
    clear h hc hn hL hC
    obtain ⟨T, hT⟩ : ∃ T, ByteArray.mk (textM c n).toArray = T := ⟨_, rfl⟩
    rw [hT] at HP HR
    clear hT
    go_enter Tryd.func4, Tryd.ntmps4
    go_wp2_with (first | (go_at_call 15; go_must (refine (HP.out _ (by repeat (first | with_reducible exact Later.refl _ | with_reducible assumption | with_reducible refine Later.ofdrew ?_ | with_reducible refine Later.ofdrewN ?_ | with_reducible refine Later.setCell ?_ ?_ _ | with_reducible refine Later.alloc ?_ _ | with_reducible refine Later.drewN ?_ _ | with_reducible refine Later.drew ?_ | (with_reducible refine Later.trans ?_ (by assumption)) | (simp only [World.size_setCell, World.size_alloc, World.heap_drewN]; omega) | (simp; done) | (simp; omega)))).mono ?_; rintro e w1 ⟨rfl, hb1⟩)) | (go_at_call 17; go_must (refine (HR.out _).mono ?_; rintro e w2 ⟨rfl, hb2⟩)) | (go_at_call 16; go_must (refine (HAW.out _ (by repeat (first | with_reducible exact Later.refl _ | with_reducible assumption | with_reducible refine Later.ofdrew ?_ | with_reducible refine Later.ofdrewN ?_ | with_reducible refine Later.setCell ?_ ?_ _ | with_reducible refine Later.alloc ?_ _ | with_reducible refine Later.drewN ?_ _ | with_reducible refine Later.drew ?_ | (with_reducible refine Later.trans ?_ (by assumption)) | (simp only [World.size_setCell, World.size_alloc, World.heap_drewN]; omega) | (simp; done) | (simp; omega)))).mono ?_; rintro e w3 ⟨rfl, hb3⟩)))
    go_ret
    exact ⟨rfl, by repeat (first | with_reducible exact Later.refl _ | with_reducible assumption | with_reducible refine Later.ofdrew ?_ | with_reducible refine Later.ofdrewN ?_ | with_reducible refine Later.setCell ?_ ?_ _ | with_reducible refine Later.alloc ?_ _ | with_reducible refine Later.drewN ?_ _ | with_reducible refine Later.drew ?_ | (with_reducible refine Later.trans ?_ (by assumption)) | (simp only [World.size_setCell, World.size_alloc, World.heap_drewN]; omega) | (simp; done) | (simp; omega))⟩
  · have HP := Lib.hid (fun W => cprint_no cur n h W)
    by_cases h0 : cur < 0
    · clear h hn hL hC
      go_enter Tryd.func4, Tryd.ntmps4
      go_wp2_with (first | (go_at_call 15; go_must (refine (HP.out _).mono ?_; rintro e w1 ⟨rfl, hb1⟩)) | (go_at_call 16; go_must (refine (HAW.out _ (by repeat (first | with_reducible exact Later.refl _ | with_reducible assumption | with_reducible refine Later.ofdrew ?_ | with_reducible refine Later.ofdrewN ?_ | with_reducible refine Later.setCell ?_ ?_ _ | with_reducible refine Later.alloc ?_ _ | with_reducible refine Later.drewN ?_ _ | with_reducible refine Later.drew ?_ | (with_reducible refine Later.trans ?_ (by assumption)) | (simp only [World.size_setCell, World.size_alloc, World.heap_drewN]; omega) | (simp; done) | (simp; omega)))).mono ?_; rintro e w3 ⟨rfl, hb3⟩)))
      go_ret
      exact ⟨rfl, by repeat (first | with_reducible exact Later.refl _ | with_reducible assumption | with_reducible refine Later.ofdrew ?_ | with_reducible refine Later.ofdrewN ?_ | with_reducible refine Later.setCell ?_ ?_ _ | with_reducible refine Later.alloc ?_ _ | with_reducible refine Later.drewN ?_ _ | with_reducible refine Later.drew ?_ | (with_reducible refine Later.trans ?_ (by assumption)) | (simp only [World.size_setCell, World.size_alloc, World.heap_drewN]; omega) | (simp; done) | (simp; omega))⟩
    · have h7 : 7 < cur := by omega
      clear h hn hL hC
      go_enter Tryd.func4, Tryd.ntmps4
      go_wp2_with (first | (go_at_call 15; go_must (refine (HP.out _).mono ?_; rintro e w1 ⟨rfl, hb1⟩)) | (go_at_call 16; go_must (refine (HAW.out _ (by repeat (first | with_reducible exact Later.refl _ | with_reducible assumption | with_reducible refine Later.ofdrew ?_ | with_reducible refine Later.ofdrewN ?_ | with_reducible refine Later.setCell ?_ ?_ _ | with_reducible refine Later.alloc ?_ _ | with_reducible refine Later.drewN ?_ _ | with_reducible refine Later.drew ?_ | (with_reducible refine Later.trans ?_ (by assumption)) | (simp only [World.size_setCell, World.size_alloc, World.heap_drewN]; omega) | (simp; done) | (simp; omega)))).mono ?_; rintro e w3 ⟨rfl, hb3⟩)))
      go_ret
      exact ⟨rfl, by repeat (first | with_reducible exact Later.refl _ | with_reducible assumption | with_reducible refine Later.ofdrew ?_ | with_reducible refine Later.ofdrewN ?_ | with_reducible refine Later.setCell ?_ ?_ _ | with_reducible refine Later.alloc ?_ _ | with_reducible refine Later.drewN ?_ _ | with_reducible refine Later.drew ?_ | (with_reducible refine Later.trans ?_ (by assumption)) | (simp only [World.size_setCell, World.size_alloc, World.heap_drewN]; omega) | (simp; done) | (simp; omega))⟩

set_option maxHeartbeats 4000000 in
theorem lback_any (cur n : Int) (hc : I64 cur) (hn : I64 n) (s : List UInt8) (hs : s.length ≤ 9223372036854775807) (w : World) (hL : LibAt w) (hC : CurAt w) :
    Calls Tryd.prog 6 #[.int .i64 cur, .int .i64 n, .string ⟨s.toArray⟩] w fun e w' => e = .returned (.bool true) ∧ Later w w' := by
  have HAW := Lib.hid (fun W (hl : Later w W) => cawake_any W (hL.later hl) (hC.later hl))
  obtain ⟨S, hS⟩ : ∃ S, ByteArray.mk s.toArray = S := ⟨_, rfl⟩
  have hsz : S.size = s.length := by rw [← hS, ba_len]
  by_cases h60 : s.length ≤ 60
  · have hI : ¬ ((60 : Int) < S.size) := by omega
    have HPS := Lib.hid (fun W (hl : Later w W) => cparse_any s (by omega) W (hL.later hl) (hC.later hl))
    have HPY := Lib.hid (fun c m h8 hm W (hl : Later w W) => cprint_yes c m h8 hm W (hL.later hl) (hC.later hl))
    have HSS := Lib.hid hS
    rw [hS] at HPS ⊢
    have key : ∀ (W : World), Later w W → True := fun _ _ => trivial
    by_cases h : 0 ≤ cur ∧ cur < 8
    · obtain ⟨c, rfl⟩ := Int.eq_ofNat_of_zero_le h.1
      have h8 : c < 8 := by omega
      have HP := Lib.hid (fun W (hl : Later w W) => cprint_yes c n h8 hn W (hL.later hl) (hC.later hl))
      have htl : (textM c n).length ≤ 1000 := by
        have h1 := padL_len (dgN c) (Lib.decDigits n.natAbs)
        have h2 := dec_len (u := n.natAbs) (by unfold I64 at hn; omega)
        have h3 := dgN_le c
        have h4 := signL_len n
        have h5 := nmL_len h8
        rw [textM_parts n rfl]
        simp only [List.length_append, List.length_take, h5, List.length_singleton]
        split
        · simp only [List.length_nil]; omega
        · simp only [List.length_append, List.length_singleton, List.length_drop]; omega
      have HPT := Lib.hid (fun W (hl : Later w W) => cparse_any (textM c n) htl W (hL.later hl) (hC.later hl))
      have HM := Lib.hid (MP_text c n h8 hn)
      clear hc hn hL hC htl h hS hsz h60 hs key
      obtain ⟨T, hT⟩ : ∃ T, textM c n = T := ⟨_, rfl⟩
      rw [hT] at HP HPT HM
      clear hT
      have tok1 : True := trivial
      have tok2 : True := trivial
      go_enter Tryd.func6, Tryd.ntmps6
      go_upto_region 9 with (first | (go_at_call 15; clear tok1; go_must (refine (HP.out _ (by repeat (first | with_reducible exact Later.refl _ | with_reducible assumption | with_reducible refine Later.ofdrew ?_ | with_reducible refine Later.ofdrewN ?_ | with_reducible refine Later.setCell ?_ ?_ _ | with_reducible refine Later.alloc ?_ _ | with_reducible refine Later.drewN ?_ _ | with_reducible refine Later.drew ?_ | (with_reducible refine Later.trans ?_ (by assumption)) | (simp only [World.size_setCell, World.size_alloc, World.heap_drewN]; omega) | (simp; done) | (simp; omega)))).mono ?_; rintro e w1 ⟨rfl, hb1⟩)) | (go_at_call 18; clear tok2; go_must (refine (HPT.out _ (by repeat (first | with_reducible exact Later.refl _ | with_reducible assumption | with_reducible refine Later.ofdrew ?_ | with_reducible refine Later.ofdrewN ?_ | with_reducible refine Later.setCell ?_ ?_ _ | with_reducible refine Later.alloc ?_ _ | with_reducible refine Later.drewN ?_ _ | with_reducible refine Later.drew ?_ | (with_reducible refine Later.trans ?_ (by assumption)) | (simp only [World.size_setCell, World.size_alloc, World.heap_drewN]; omega) | (simp; done) | (simp; omega)))).mono ?_; rintro e w2 ⟨⟨q1, q2, q3, rfl, hp, -⟩, hb2⟩; obtain ⟨e1, e2, e3⟩ := MP_one hp HM.out; subst e1 e2 e3; clear hp)) | (go_at_call 18; go_must (refine (HPS.out _ (by repeat (first | with_reducible exact Later.refl _ | with_reducible assumption | with_reducible refine Later.ofdrew ?_ | with_reducible refine Later.ofdrewN ?_ | with_reducible refine Later.setCell ?_ ?_ _ | with_reducible refine Later.alloc ?_ _ | with_reducible refine Later.drewN ?_ _ | with_reducible refine Later.drew ?_ | (with_reducible refine Later.trans ?_ (by assumption)) | (simp only [World.size_setCell, World.size_alloc, World.heap_drewN]; omega) | (simp; done) | (simp; omega)))).mono ?_; rintro e w3 ⟨⟨a, m, f, rfl, hp, hmi⟩, hb3⟩; have HP3 := Lib.hid hp; clear hp)))
      refine wp_opaque (fun w9 hb9 => ?_)
      have hl9 : Later w w9 := by repeat (first | with_reducible exact Later.refl _ | with_reducible assumption | with_reducible refine Later.ofdrew ?_ | with_reducible refine Later.ofdrewN ?_ | with_reducible refine Later.setCell ?_ ?_ _ | with_reducible refine Later.alloc ?_ _ | with_reducible refine Later.drewN ?_ _ | with_reducible refine Later.drew ?_ | (with_reducible refine Later.trans ?_ (by assumption)) | (simp only [World.size_setCell, World.size_alloc, World.heap_drewN]; omega) | (simp; done) | (simp; omega))
      by_cases hf : f = 0
      · subst hf
        obtain ⟨c', h8', rfl, hm', hs'⟩ := MP_back HP3.out
        have HPB := Lib.hid (HPY.out c' m h8' hm')
        rw [← hs', HSS.out] at HPB
        clear hs' h8' hm' HP3 HPY HSS HPS
        go_wp2_with (first | (go_at_call 15; go_must (refine (HPB.out _ (by repeat (first | with_reducible exact Later.refl _ | with_reducible assumption | with_reducible refine Later.ofdrew ?_ | with_reducible refine Later.ofdrewN ?_ | with_reducible refine Later.setCell ?_ ?_ _ | with_reducible refine Later.alloc ?_ _ | with_reducible refine Later.drewN ?_ _ | with_reducible refine Later.drew ?_ | (with_reducible refine Later.trans ?_ (by assumption)) | (simp only [World.size_setCell, World.size_alloc, World.heap_drewN]; omega) | (simp; done) | (simp; omega)))).mono ?_; rintro e w4 ⟨rfl, hb4⟩)) | (go_at_call 16; go_must (refine (HAW.out _ (by repeat (first | with_reducible exact Later.refl _ | with_reducible assumption | with_reducible refine Later.ofdrew ?_ | with_reducible refine Later.ofdrewN ?_ | with_reducible refine Later.setCell ?_ ?_ _ | with_reducible refine Later.alloc ?_ _ | with_reducible refine Later.drewN ?_ _ | with_reducible refine Later.drew ?_ | (with_reducible refine Later.trans ?_ (by assumption)) | (simp only [World.size_setCell, World.size_alloc, World.heap_drewN]; omega) | (simp; done) | (simp; omega)))).mono ?_; rintro e w5 ⟨rfl, hb5⟩)))
        go_ret
        exact ⟨rfl, by repeat (first | with_reducible exact Later.refl _ | with_reducible assumption | with_reducible refine Later.ofdrew ?_ | with_reducible refine Later.ofdrewN ?_ | with_reducible refine Later.setCell ?_ ?_ _ | with_reducible refine Later.alloc ?_ _ | with_reducible refine Later.drewN ?_ _ | with_reducible refine Later.drew ?_ | (with_reducible refine Later.trans ?_ (by assumption)) | (simp only [World.size_setCell, World.size_alloc, World.heap_drewN]; omega) | (simp; done) | (simp; omega))⟩
      · obtain ⟨rfl, rfl⟩ := MP_err HP3.out hf
        clear HP3 HPY HSS HPS
        go_wp2_with (go_at_call 16; go_must (refine (HAW.out _ (by repeat (first | with_reducible exact Later.refl _ | with_reducible assumption | with_reducible refine Later.ofdrew ?_ | with_reducible refine Later.ofdrewN ?_ | with_reducible refine Later.setCell ?_ ?_ _ | with_reducible refine Later.alloc ?_ _ | with_reducible refine Later.drewN ?_ _ | with_reducible refine Later.drew ?_ | (with_reducible refine Later.trans ?_ (by assumption)) | (simp only [World.size_setCell, World.size_alloc, World.heap_drewN]; omega) | (simp; done) | (simp; omega)))).mono ?_; rintro e w5 ⟨rfl, hb5⟩))
        go_ret
        exact ⟨rfl, by repeat (first | with_reducible exact Later.refl _ | with_reducible assumption | with_reducible refine Later.ofdrew ?_ | with_reducible refine Later.ofdrewN ?_ | with_reducible refine Later.setCell ?_ ?_ _ | with_reducible refine Later.alloc ?_ _ | with_reducible refine Later.drewN ?_ _ | with_reducible refine Later.drew ?_ | (with_reducible refine Later.trans ?_ (by assumption)) | (simp only [World.size_setCell, World.size_alloc, World.heap_drewN]; omega) | (simp; done) | (simp; omega))⟩
    · have HP := Lib.hid (fun W => cprint_no cur n h W)
      clear hc hn hL hC h hS hsz h60 hs key
      go_enter Tryd.func6, Tryd.ntmps6
      go_upto_region 9 with (first | (go_at_call 15; go_must (refine (HP.out _).mono ?_; rintro e w1 ⟨rfl, hb1⟩)) | (go_at_call 18; go_must (refine (HPS.out _ (by repeat (first | with_reducible exact Later.refl _ | with_reducible assumption | with_reducible refine Later.ofdrew ?_ | with_reducible refine Later.ofdrewN ?_ | with_reducible refine Later.setCell ?_ ?_ _ | with_reducible refine Later.alloc ?_ _ | with_reducible refine Later.drewN ?_ _ | with_reducible refine Later.drew ?_ | (with_reducible refine Later.trans ?_ (by assumption)) | (simp only [World.size_setCell, World.size_alloc, World.heap_drewN]; omega) | (simp; done) | (simp; omega)))).mono ?_; rintro e w3 ⟨⟨a, m, f, rfl, hp, hmi⟩, hb3⟩; have HP3 := Lib.hid hp; clear hp)))
      refine wp_opaque (fun w9 hb9 => ?_)
      have hl9 : Later w w9 := by repeat (first | with_reducible exact Later.refl _ | with_reducible assumption | with_reducible refine Later.ofdrew ?_ | with_reducible refine Later.ofdrewN ?_ | with_reducible refine Later.setCell ?_ ?_ _ | with_reducible refine Later.alloc ?_ _ | with_reducible refine Later.drewN ?_ _ | with_reducible refine Later.drew ?_ | (with_reducible refine Later.trans ?_ (by assumption)) | (simp only [World.size_setCell, World.size_alloc, World.heap_drewN]; omega) | (simp; done) | (simp; omega))
      by_cases hf : f = 0
      · subst hf
        obtain ⟨c', h8', rfl, hm', hs'⟩ := MP_back HP3.out
        have HPB := Lib.hid (HPY.out c' m h8' hm')
        rw [← hs', HSS.out] at HPB
        clear hs' h8' hm' HP3 HPY HSS HPS
        go_wp2_with (first | (go_at_call 15; go_must (refine (HPB.out _ (by repeat (first | with_reducible exact Later.refl _ | with_reducible assumption | with_reducible refine Later.ofdrew ?_ | with_reducible refine Later.ofdrewN ?_ | with_reducible refine Later.setCell ?_ ?_ _ | with_reducible refine Later.alloc ?_ _ | with_reducible refine Later.drewN ?_ _ | with_reducible refine Later.drew ?_ | (with_reducible refine Later.trans ?_ (by assumption)) | (simp only [World.size_setCell, World.size_alloc, World.heap_drewN]; omega) | (simp; done) | (simp; omega)))).mono ?_; rintro e w4 ⟨rfl, hb4⟩)) | (go_at_call 16; go_must (refine (HAW.out _ (by repeat (first | with_reducible exact Later.refl _ | with_reducible assumption | with_reducible refine Later.ofdrew ?_ | with_reducible refine Later.ofdrewN ?_ | with_reducible refine Later.setCell ?_ ?_ _ | with_reducible refine Later.alloc ?_ _ | with_reducible refine Later.drewN ?_ _ | with_reducible refine Later.drew ?_ | (with_reducible refine Later.trans ?_ (by assumption)) | (simp only [World.size_setCell, World.size_alloc, World.heap_drewN]; omega) | (simp; done) | (simp; omega)))).mono ?_; rintro e w5 ⟨rfl, hb5⟩)))
        go_ret
        exact ⟨rfl, by repeat (first | with_reducible exact Later.refl _ | with_reducible assumption | with_reducible refine Later.ofdrew ?_ | with_reducible refine Later.ofdrewN ?_ | with_reducible refine Later.setCell ?_ ?_ _ | with_reducible refine Later.alloc ?_ _ | with_reducible refine Later.drewN ?_ _ | with_reducible refine Later.drew ?_ | (with_reducible refine Later.trans ?_ (by assumption)) | (simp only [World.size_setCell, World.size_alloc, World.heap_drewN]; omega) | (simp; done) | (simp; omega))⟩
      · obtain ⟨rfl, rfl⟩ := MP_err HP3.out hf
        clear HP3 HPY HSS HPS
        go_wp2_with (go_at_call 16; go_must (refine (HAW.out _ (by repeat (first | with_reducible exact Later.refl _ | with_reducible assumption | with_reducible refine Later.ofdrew ?_ | with_reducible refine Later.ofdrewN ?_ | with_reducible refine Later.setCell ?_ ?_ _ | with_reducible refine Later.alloc ?_ _ | with_reducible refine Later.drewN ?_ _ | with_reducible refine Later.drew ?_ | (with_reducible refine Later.trans ?_ (by assumption)) | (simp only [World.size_setCell, World.size_alloc, World.heap_drewN]; omega) | (simp; done) | (simp; omega)))).mono ?_; rintro e w5 ⟨rfl, hb5⟩))
        go_ret
        exact ⟨rfl, by repeat (first | with_reducible exact Later.refl _ | with_reducible assumption | with_reducible refine Later.ofdrew ?_ | with_reducible refine Later.ofdrewN ?_ | with_reducible refine Later.setCell ?_ ?_ _ | with_reducible refine Later.alloc ?_ _ | with_reducible refine Later.drewN ?_ _ | with_reducible refine Later.drew ?_ | (with_reducible refine Later.trans ?_ (by assumption)) | (simp only [World.size_setCell, World.size_alloc, World.heap_drewN]; omega) | (simp; done) | (simp; omega))⟩
  · have hI : (60 : Int) < S.size := by omega
    rw [hS]
    clear hc hn hL hC hs hS hsz h60
    go_enter Tryd.func6, Tryd.ntmps6
    go_wp2_with (go_at_call 16; go_must (refine (HAW.out _ (by repeat (first | with_reducible exact Later.refl _ | with_reducible assumption | with_reducible refine Later.ofdrew ?_ | with_reducible refine Later.ofdrewN ?_ | with_reducible refine Later.setCell ?_ ?_ _ | with_reducible refine Later.alloc ?_ _ | with_reducible refine Later.drewN ?_ _ | with_reducible refine Later.drew ?_ | (with_reducible refine Later.trans ?_ (by assumption)) | (simp only [World.size_setCell, World.size_alloc, World.heap_drewN]; omega) | (simp; done) | (simp; omega)))).mono ?_; rintro e w3 ⟨rfl, hb3⟩))
    go_ret
    exact ⟨rfl, by repeat (first | with_reducible exact Later.refl _ | with_reducible assumption | with_reducible refine Later.ofdrew ?_ | with_reducible refine Later.ofdrewN ?_ | with_reducible refine Later.setCell ?_ ?_ _ | with_reducible refine Later.alloc ?_ _ | with_reducible refine Later.drewN ?_ _ | with_reducible refine Later.drew ?_ | (with_reducible refine Later.trans ?_ (by assumption)) | (simp only [World.size_setCell, World.size_alloc, World.heap_drewN]; omega) | (simp; done) | (simp; omega))⟩
end Go.Proofs.YtckeaibamgkegaaDoor
