/- RatioTexts: its walk -/
import Derived.Test.YtckeaibamgkegaaDoorRTxD
import Derived.Test.YtckeaibamgkegaaDoorRatAwake
set_option linter.all false
namespace Go.Proofs.YtckeaibamgkegaaDoor
open Go.RowKit
set_option maxRecDepth 100000

set_option maxHeartbeats 8000000 in
theorem rtexts_any (n d : Int) (hn : I64 n) (hd : I64 d) (s : List UInt8) (hs : s.length ≤ 9223372036854775807) (w : World) (h : LibAt w) :
    Calls Tryd.prog 3 #[.agg #[.int .i64 n, .int .i64 d], .string ⟨s.toArray⟩] w fun e w' => e = .returned (.bool true) ∧ Later w w' := by
  have HAW := Lib.hid (fun W => awake_any W)
  obtain ⟨S, hS⟩ : ∃ S, ByteArray.mk s.toArray = S := ⟨_, rfl⟩
  have hsz : S.size = s.length := by rw [← hS, ba_len]
  by_cases h60 : s.length ≤ 60
  · have hsz60 : ¬ ((60 : Int) < S.size) := by omega
    have HPR := Lib.hid (fun W (hl : Later w W) => rtprint_any n d hn hd W (h.later hl))
    have HPG := Lib.hid (fun a b (ha : I64 a) (hb : I64 b) W (hl : Later w W) => rtprint_any a b ha hb W (h.later hl))
    have HCK := Lib.hid (fun W => qcheck_any n d W hn.1 hn.2 hd.1 hd.2)
    have HRP := Lib.hid (fun W => rrprint_any n d hn hd W)
    have htl : (textR n d).length ≤ 1000 := by
      have h1 := itoa_short hn
      have h2 := itoa_short hd
      unfold textR
      rw [List.length_append]
      split
      · simp only [List.length_nil]; omega
      · rw [List.length_cons]; omega
    have HPT := Lib.hid (fun W (hl : Later w W) => rtparse_any (textR n d) htl W (h.later hl))
    have HPS := Lib.hid (fun W (hl : Later w W) => rtparse_any s (by omega) W (h.later hl))
    have HRS := Lib.hid (fun W => rrparse_any s (by omega) W)
    have hpr0 : chkE n d = 0 → printR n d = textR n d := fun h => if_pos h
    have hpr1 : chkE n d ≠ 0 → printR n d = [] := fun h => if_neg h
    have hself : chkE n d = 0 → RP (textR n d) n d 0 := fun h => .inl ⟨rfl, h, rfl, hn, hd⟩
    have HSELF := Lib.hid hself
    have hprs : ∀ a b, chkE a b = 0 → s = textR a b → printR a b = s := fun a b h1 h2 => by unfold printR; rw [if_pos h1, h2]
    have HPRS := Lib.hid hprs
    have HSS := Lib.hid hS
    rw [hS] at HPS HRS ⊢
    clear h hn hd htl hs hS hself hprs hsz h60
    obtain ⟨c, hc⟩ : ∃ c, chkE n d = c := ⟨_, rfl⟩
    rw [hc] at HPR HCK HSELF hpr0 hpr1
    go_enter Tryd.func3, Tryd.ntmps3
    go_upto_region 3 with (fail)
    refine wp_opaque (fun W1 hb1 => ?_)
    have HO1 := Lib.hid (Own.one hb1)
    have hw1 := hb1.un1
    clear hb1
    obtain ⟨⟨zA, dA, fA⟩, -⟩ := HO1.out
    go_upto_region 5 with (first | (go_at_call 10; go_must (refine (HPR.out _ (hw1.trans (by repeat (first | with_reducible exact Later.refl _ | with_reducible assumption | with_reducible refine Later.ofdrew ?_ | with_reducible refine Later.ofdrewN ?_ | with_reducible refine Later.setCell ?_ ?_ _ | with_reducible refine Later.alloc ?_ _ | with_reducible refine Later.drewN ?_ _ | with_reducible refine Later.drew ?_ | (with_reducible refine Later.trans ?_ (by assumption)) | (simp only [World.size_setCell, World.size_alloc, World.heap_drewN]; omega) | (simp; done) | (simp; omega))))).mono ?_; rintro e w2 ⟨rfl, hb2⟩; clear zA dA fA; obtain ⟨⟨zA, dA, fA⟩, -⟩ := HO1.out.later hb2)) | (go_at_call 11; go_must (refine (HCK.out _).mono ?_; rintro e w3 ⟨rfl, hb3⟩; clear zA dA fA; obtain ⟨⟨zA, dA, fA⟩, -⟩ := HO1.out.later (hb2.trans hb3))))
    refine wp_opaque (fun W4 hb4 => ?_)
    have hW4 : Later W1 W4 := (hb2.trans hb3).trans hb4
    have HO4 := Lib.hid (HO1.out.later hW4)
    have hw4 : Later w W4 := hw1.trans hW4
    clear zA dA fA hb2 hb3 hb4 HO1 hw1 hW4 HPR HCK
    by_cases hc0 : c = 0
    · have hp := hpr0 hc0
      have hself := HSELF.out hc0
      rw [hp]
      clear hpr0 hpr1 HSELF
      obtain ⟨T, hT⟩ : ∃ T, textR n d = T := ⟨_, rfl⟩
      rw [hT] at HPT hself HRP ⊢
      subst hc0
      clear hT hp hc
      obtain ⟨⟨zA, dA, fA⟩, -⟩ := HO4.out
      have HSF := Lib.hid hself
      clear hself
      go_upto_region 9 with (go_at_call 12; go_must (refine (HPT.out _ (hw4.trans (by repeat (first | with_reducible exact Later.refl _ | with_reducible assumption | with_reducible refine Later.ofdrew ?_ | with_reducible refine Later.ofdrewN ?_ | with_reducible refine Later.setCell ?_ ?_ _ | with_reducible refine Later.alloc ?_ _ | with_reducible refine Later.drewN ?_ _ | with_reducible refine Later.drew ?_ | (with_reducible refine Later.trans ?_ (by assumption)) | (simp only [World.size_setCell, World.size_alloc, World.heap_drewN]; omega) | (simp; done) | (simp; omega))))).mono ?_; rintro e w5 ⟨⟨q1, q2, q3, rfl, hr0⟩, hb5⟩; obtain ⟨e1, e2, e3⟩ := RP_one hr0 HSF.out; subst e1 e2 e3; clear hr0; clear zA dA fA; obtain ⟨⟨zA, dA, fA⟩, -⟩ := HO4.out.later hb5))
      refine wp_opaque (fun Wx hbx => ?_)
      have HOx := Lib.hid (Own.one hbx)
      have HOy := Lib.hid (HO4.out.later (hb5.trans hbx.un1))
      have hwx : Later w Wx := hw4.trans (hb5.trans hbx.un1)
      clear zA dA fA HO4 hw4 hb5 hbx HSF HPT
      obtain ⟨⟨zX, dX, fX⟩, -⟩ := HOx.out
      obtain ⟨⟨zA, dA, fA⟩, -⟩ := HOy.out
      go_upto_region 11 with (go_at_call 13; go_must (refine (HRP.out _).mono ?_; rintro e wp ⟨rfl, hbp⟩; clear zA dA fA zX dX fX; obtain ⟨⟨zX, dX, fX⟩, -⟩ := HOx.out.later hbp; obtain ⟨⟨zA, dA, fA⟩, -⟩ := HOy.out.later hbp))
      refine wp_opaque (fun Wz hbz => ?_)
      have hwz : Later w Wz := hwx.trans (Later.trans (by repeat (first | with_reducible exact Later.refl _ | with_reducible assumption | with_reducible refine Later.ofdrew ?_ | with_reducible refine Later.ofdrewN ?_ | with_reducible refine Later.setCell ?_ ?_ _ | with_reducible refine Later.alloc ?_ _ | with_reducible refine Later.drewN ?_ _ | with_reducible refine Later.drew ?_ | (with_reducible refine Later.trans ?_ (by assumption)) | (simp only [World.size_setCell, World.size_alloc, World.heap_drewN]; omega) | (simp; done) | (simp; omega))) hbz)
      clear zA dA fA zX dX fX HOx HOy hwx hbp hbz HRP
      go_upto_region 12 with (go_at_call 12; go_must (refine (HPS.out _ (hwz.trans (by repeat (first | with_reducible exact Later.refl _ | with_reducible assumption | with_reducible refine Later.ofdrew ?_ | with_reducible refine Later.ofdrewN ?_ | with_reducible refine Later.setCell ?_ ?_ _ | with_reducible refine Later.alloc ?_ _ | with_reducible refine Later.drewN ?_ _ | with_reducible refine Later.drew ?_ | (with_reducible refine Later.trans ?_ (by assumption)) | (simp only [World.size_setCell, World.size_alloc, World.heap_drewN]; omega) | (simp; done) | (simp; omega))))).mono ?_; rintro e w5 ⟨⟨a1, a2, f1, rfl, hr1⟩, hb5⟩; have HR1 := Lib.hid hr1; clear hr1))
      refine wp_opaque (fun W6 hb6 => ?_)
      have HO6 := Lib.hid (Own.one hb6)
      have hw6 : Later w W6 := hwz.trans (Later.trans (show Later _ w5 by repeat (first | with_reducible exact Later.refl _ | with_reducible assumption | with_reducible refine Later.ofdrew ?_ | with_reducible refine Later.ofdrewN ?_ | with_reducible refine Later.setCell ?_ ?_ _ | with_reducible refine Later.alloc ?_ _ | with_reducible refine Later.drewN ?_ _ | with_reducible refine Later.drew ?_ | (with_reducible refine Later.trans ?_ (by assumption)) | (simp only [World.size_setCell, World.size_alloc, World.heap_drewN]; omega) | (simp; done) | (simp; omega))) hb6.un1)
      clear hb5 hb6
      go_upto_region 13 with (go_at_call 14; go_must (refine (HRS.out _).mono ?_; rintro e w7 ⟨⟨b1, b2, f2, rfl, hr2⟩, hb7⟩; have HR2 := Lib.hid hr2; clear hr2))
      refine wp_opaque (fun W8 hb8 => ?_)
      have HO8 := Lib.hid (Own.one hb8)
      have HO6b := Lib.hid (HO6.out.later (hb7.trans hb8.un1))
      have hw8 : Later w W8 := hw6.trans (hb7.trans hb8.un1)
      obtain ⟨e1, e2, e3⟩ := RP_one HR2.out HR1.out
      subst e1 e2 e3
      clear hb7 hb8 HO6 HR2 hw6
      obtain ⟨⟨zB, dB, fB⟩, -⟩ := HO6b.out
      obtain ⟨⟨zC, dC, fC⟩, -⟩ := HO8.out
      rcases HR1.out with ⟨rfl, hc1, hs1, hi1, hi2⟩ | ⟨rfl, rfl, rfl, -⟩
      · have HPA := Lib.hid (fun W hl => HPG.out b1 b2 hi1 hi2 W hl)
        rw [hc1, HPRS.out b1 b2 hc1 hs1, HSS.out] at HPA
        clear HR1 hc1 hs1 hi1 hi2 HPG HPRS HPS HRS HSS
        go_wp2_with (first | (go_at_call 10; go_must (refine (HPA.out _ (hw8.trans (by repeat (first | with_reducible exact Later.refl _ | with_reducible assumption | with_reducible refine Later.ofdrew ?_ | with_reducible refine Later.ofdrewN ?_ | with_reducible refine Later.setCell ?_ ?_ _ | with_reducible refine Later.alloc ?_ _ | with_reducible refine Later.drewN ?_ _ | with_reducible refine Later.drew ?_ | (with_reducible refine Later.trans ?_ (by assumption)) | (simp only [World.size_setCell, World.size_alloc, World.heap_drewN]; omega) | (simp; done) | (simp; omega))))).mono ?_; rintro e w9 ⟨rfl, hb9⟩)) | (go_at_call 9; go_must (refine (HAW.out _).mono ?_; rintro e wa ⟨rfl, hba⟩)))
        go_ret
        exact ⟨rfl, hw8.trans (by repeat (first | with_reducible exact Later.refl _ | with_reducible assumption | with_reducible refine Later.ofdrew ?_ | with_reducible refine Later.ofdrewN ?_ | with_reducible refine Later.setCell ?_ ?_ _ | with_reducible refine Later.alloc ?_ _ | with_reducible refine Later.drewN ?_ _ | with_reducible refine Later.drew ?_ | (with_reducible refine Later.trans ?_ (by assumption)) | (simp only [World.size_setCell, World.size_alloc, World.heap_drewN]; omega) | (simp; done) | (simp; omega)))⟩
      · clear HR1 HPG HPRS HPS HRS HSS
        go_wp2_with (go_at_call 9; go_must (refine (HAW.out _).mono ?_; rintro e wa ⟨rfl, hba⟩))
        go_ret
        exact ⟨rfl, hw8.trans (by repeat (first | with_reducible exact Later.refl _ | with_reducible assumption | with_reducible refine Later.ofdrew ?_ | with_reducible refine Later.ofdrewN ?_ | with_reducible refine Later.setCell ?_ ?_ _ | with_reducible refine Later.alloc ?_ _ | with_reducible refine Later.drewN ?_ _ | with_reducible refine Later.drew ?_ | (with_reducible refine Later.trans ?_ (by assumption)) | (simp only [World.size_setCell, World.size_alloc, World.heap_drewN]; omega) | (simp; done) | (simp; omega)))⟩
    · have hp := hpr1 hc0
      rw [hp]
      have hc2 : (c != 0) = true := by rw [bne_iff_ne]; exact hc0
      have hc3 : (c == 0) = false := by rw [beq_eq_false_iff_ne]; exact hc0
      clear hpr0 hpr1 HSELF hp HPT HRP HO4 hc0 hc
      go_upto_region 12 with (go_at_call 12; go_must (refine (HPS.out _ (hw4.trans (by repeat (first | with_reducible exact Later.refl _ | with_reducible assumption | with_reducible refine Later.ofdrew ?_ | with_reducible refine Later.ofdrewN ?_ | with_reducible refine Later.setCell ?_ ?_ _ | with_reducible refine Later.alloc ?_ _ | with_reducible refine Later.drewN ?_ _ | with_reducible refine Later.drew ?_ | (with_reducible refine Later.trans ?_ (by assumption)) | (simp only [World.size_setCell, World.size_alloc, World.heap_drewN]; omega) | (simp; done) | (simp; omega))))).mono ?_; rintro e w5 ⟨⟨a1, a2, f1, rfl, hr1⟩, hb5⟩; have HR1 := Lib.hid hr1; clear hr1))
      refine wp_opaque (fun W6 hb6 => ?_)
      have HO6 := Lib.hid (Own.one hb6)
      have hw6 : Later w W6 := hw4.trans (Later.trans (show Later _ w5 by repeat (first | with_reducible exact Later.refl _ | with_reducible assumption | with_reducible refine Later.ofdrew ?_ | with_reducible refine Later.ofdrewN ?_ | with_reducible refine Later.setCell ?_ ?_ _ | with_reducible refine Later.alloc ?_ _ | with_reducible refine Later.drewN ?_ _ | with_reducible refine Later.drew ?_ | (with_reducible refine Later.trans ?_ (by assumption)) | (simp only [World.size_setCell, World.size_alloc, World.heap_drewN]; omega) | (simp; done) | (simp; omega))) hb6.un1)
      clear hb5 hb6
      go_upto_region 13 with (go_at_call 14; go_must (refine (HRS.out _).mono ?_; rintro e w7 ⟨⟨b1, b2, f2, rfl, hr2⟩, hb7⟩; have HR2 := Lib.hid hr2; clear hr2))
      refine wp_opaque (fun W8 hb8 => ?_)
      have HO8 := Lib.hid (Own.one hb8)
      have HO6b := Lib.hid (HO6.out.later (hb7.trans hb8.un1))
      have hw8 : Later w W8 := hw6.trans (hb7.trans hb8.un1)
      obtain ⟨e1, e2, e3⟩ := RP_one HR2.out HR1.out
      subst e1 e2 e3
      clear hb7 hb8 HO6 HR2 hw6
      obtain ⟨⟨zB, dB, fB⟩, -⟩ := HO6b.out
      obtain ⟨⟨zC, dC, fC⟩, -⟩ := HO8.out
      rcases HR1.out with ⟨rfl, hc1, hs1, hi1, hi2⟩ | ⟨rfl, rfl, rfl, -⟩
      · have HPA := Lib.hid (fun W hl => HPG.out b1 b2 hi1 hi2 W hl)
        rw [hc1, HPRS.out b1 b2 hc1 hs1, HSS.out] at HPA
        clear HR1 hc1 hs1 hi1 hi2 HPG HPRS HPS HRS HSS
        go_wp2_with (first | (go_at_call 10; go_must (refine (HPA.out _ (hw8.trans (by repeat (first | with_reducible exact Later.refl _ | with_reducible assumption | with_reducible refine Later.ofdrew ?_ | with_reducible refine Later.ofdrewN ?_ | with_reducible refine Later.setCell ?_ ?_ _ | with_reducible refine Later.alloc ?_ _ | with_reducible refine Later.drewN ?_ _ | with_reducible refine Later.drew ?_ | (with_reducible refine Later.trans ?_ (by assumption)) | (simp only [World.size_setCell, World.size_alloc, World.heap_drewN]; omega) | (simp; done) | (simp; omega))))).mono ?_; rintro e w9 ⟨rfl, hb9⟩)) | (go_at_call 9; go_must (refine (HAW.out _).mono ?_; rintro e wa ⟨rfl, hba⟩)))
        go_ret
        exact ⟨rfl, hw8.trans (by repeat (first | with_reducible exact Later.refl _ | with_reducible assumption | with_reducible refine Later.ofdrew ?_ | with_reducible refine Later.ofdrewN ?_ | with_reducible refine Later.setCell ?_ ?_ _ | with_reducible refine Later.alloc ?_ _ | with_reducible refine Later.drewN ?_ _ | with_reducible refine Later.drew ?_ | (with_reducible refine Later.trans ?_ (by assumption)) | (simp only [World.size_setCell, World.size_alloc, World.heap_drewN]; omega) | (simp; done) | (simp; omega)))⟩
      · clear HR1 HPG HPRS HPS HRS HSS
        go_wp2_with (go_at_call 9; go_must (refine (HAW.out _).mono ?_; rintro e wa ⟨rfl, hba⟩))
        go_ret
        exact ⟨rfl, hw8.trans (by repeat (first | with_reducible exact Later.refl _ | with_reducible assumption | with_reducible refine Later.ofdrew ?_ | with_reducible refine Later.ofdrewN ?_ | with_reducible refine Later.setCell ?_ ?_ _ | with_reducible refine Later.alloc ?_ _ | with_reducible refine Later.drewN ?_ _ | with_reducible refine Later.drew ?_ | (with_reducible refine Later.trans ?_ (by assumption)) | (simp only [World.size_setCell, World.size_alloc, World.heap_drewN]; omega) | (simp; done) | (simp; omega)))⟩
  · have hsz60 : (60 : Int) < S.size := by omega
    rw [hS]
    clear h hn hd hs hS hsz h60
    go_enter Tryd.func3, Tryd.ntmps3
    go_wp2_with (go_at_call 9; go_must (refine (HAW.out _).mono ?_; rintro e wa ⟨rfl, hba⟩))
    go_ret
    exact ⟨rfl, by repeat (first | with_reducible exact Later.refl _ | with_reducible assumption | with_reducible refine Later.ofdrew ?_ | with_reducible refine Later.ofdrewN ?_ | with_reducible refine Later.setCell ?_ ?_ _ | with_reducible refine Later.alloc ?_ _ | with_reducible refine Later.drewN ?_ _ | with_reducible refine Later.drew ?_ | (with_reducible refine Later.trans ?_ (by assumption)) | (simp only [World.size_setCell, World.size_alloc, World.heap_drewN]; omega) | (simp; done) | (simp; omega))⟩
end Go.Proofs.YtckeaibamgkegaaDoor
