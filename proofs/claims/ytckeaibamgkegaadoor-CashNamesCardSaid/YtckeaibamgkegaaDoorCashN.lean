/- CashNames: the walk -/
import Derived.Test.YtckeaibamgkegaaDoorCashT
set_option linter.all false
namespace Go.Proofs.YtckeaibamgkegaaDoor
open Go.RowKit
set_option maxRecDepth 100000

theorem nm_ne {c : Nat} (h : c < 8) : ((nmB c).toList == []) = false := by rcases lt8 h with rfl | rfl | rfl | rfl | rfl | rfl | rfl | rfl <;> decide +kernel
theorem of_found (S : ByteArray) (c0 : Nat) (h0 : c0 < 8) (hm : nmB c0 = S) (w : World) (hC : CurAt w) : Calls Tryd.prog 23 #[.string S] w fun e w' => e = .returned (.tuple #[.int .i64 (c0 : Nat), .int .i64 0]) ∧ Later w w' := by
  refine (of_cur S w hC).mono ?_
  rintro e w' ⟨⟨r, er, rfl, h⟩, hb⟩
  rcases h with ⟨c, hc, rfl, rfl, he⟩ | ⟨_, _, hn⟩
  · have e := he.trans hm.symm
    unfold nmB at e
    obtain rfl := nmL_inj hc h0 (by have := congrArg (fun b => b.data.toList) e; simpa using this)
    exact ⟨rfl, hb⟩
  · exact absurd hm (hn c0 h0)
theorem of_none (S : ByteArray) (hno : ∀ c, c < 8 → nmB c ≠ S) (w : World) (hC : CurAt w) : Calls Tryd.prog 23 #[.string S] w fun e w' => e = .returned (.tuple #[.int .i64 0, .int .i64 16]) ∧ Later w w' := by
  refine (of_cur S w hC).mono ?_
  rintro e w' ⟨⟨r, er, rfl, h⟩, hb⟩
  rcases h with ⟨c, hc, rfl, rfl, he⟩ | ⟨rfl, rfl, hn⟩
  · exact absurd he (hno c hc)
  · exact ⟨rfl, hb⟩

set_option maxHeartbeats 4000000 in
theorem lnames_vf (c : Nat) (h8 : c < 8) (S : ByteArray) (hI : ¬ ((40 : Int) < S.size)) (c0 : Nat) (h0 : c0 < 8) (hm : nmB c0 = S) (w : World) (hL : LibAt w) (hC : CurAt w) :
    Calls Tryd.prog 7 #[.int .i64 (c : Nat), .string S] w fun e w' => e = .returned (.bool true) ∧ Later w w' := by
  have HAW := Lib.hid (fun W (hl : Later w W) => cawake_any W (hL.later hl) (hC.later hl))
  have HRI := Lib.hid (fun (i : Nat) (hi : i < 8) W => rname_yes i hi W)
  have HO1 := Lib.hid (fun W (hl : Later w W) => of_found S c0 h0 hm W (hC.later hl))
  have HM := Lib.hid hm
  have h1 : ¬ ((c : Int) < 0) := by omega
  have HN := Lib.hid (fun W (hl : Later w W) => name_yes c h8 W (hC.later hl))
  have HD := Lib.hid (fun W (hl : Later w W) => digits_yes c h8 W (hC.later hl))
  have HRN := Lib.hid (fun W => rname_yes c h8 W)
  have HRD := Lib.hid (fun W => rdigits_yes c h8 W)
  have HO2 := Lib.hid (fun W (hl : Later w W) => of_found (nmB c) c h8 rfl W (hC.later hl))
  have hne : ((nmB c).toList == (ByteArray.mk #[]).toList) = false := by rw [list_beq]; exact decide_eq_false (fun e => by have := nmB_size h8; rw [e] at this; exact absurd this (by decide))
  have hne2 : ((nmB c).toList == []) = false := nm_ne h8
  obtain ⟨N, hN⟩ : ∃ N, nmB c = N := ⟨_, rfl⟩
  obtain ⟨D, hD⟩ : ∃ D : Int, ((dgN c : Nat) : Int) = D := ⟨_, rfl⟩
  rw [hN] at HN HRN HO2 hne hne2
  rw [hD] at HD HRD
  clear hN hD
  clear hL hC hm
  go_enter Tryd.func7, Tryd.ntmps7
  go_wp2_with (first | (go_at_call 20; go_must (refine (HN.out _ (by repeat (first | with_reducible exact Later.refl _ | with_reducible assumption | with_reducible refine Later.ofdrew ?_ | with_reducible refine Later.ofdrewN ?_ | with_reducible refine Later.setCell ?_ ?_ _ | with_reducible refine Later.alloc ?_ _ | with_reducible refine Later.drewN ?_ _ | with_reducible refine Later.drew ?_ | (with_reducible refine Later.trans ?_ (by assumption)) | (simp only [World.size_setCell, World.size_alloc, World.heap_drewN]; omega) | (simp; done) | (simp; omega)))).mono ?_; rintro e w1 ⟨rfl, hb1⟩)) | (go_at_call 21; go_must (refine (HD.out _ (by repeat (first | with_reducible exact Later.refl _ | with_reducible assumption | with_reducible refine Later.ofdrew ?_ | with_reducible refine Later.ofdrewN ?_ | with_reducible refine Later.setCell ?_ ?_ _ | with_reducible refine Later.alloc ?_ _ | with_reducible refine Later.drewN ?_ _ | with_reducible refine Later.drew ?_ | (with_reducible refine Later.trans ?_ (by assumption)) | (simp only [World.size_setCell, World.size_alloc, World.heap_drewN]; omega) | (simp; done) | (simp; omega)))).mono ?_; rintro e w2 ⟨rfl, hb2⟩)))
  go_loopw [9, 10] (fun s9 s10 wr => ∃ (j : Nat) (x : Int), j ≤ 8 ∧ s10 = .int .i64 j ∧ s9 = .int .i64 x ∧ Hid ((x = -1 ∧ j ≤ c0) ∨ (x = c0 ∧ c0 < j)) ∧ Later w wr) (fun _ s10 _ => 8 - (intOf s10).toNat)
  case atStart => exact ⟨0, -1, Nat.zero_le _, rfl, rfl, Lib.hid (.inl ⟨rfl, Nat.zero_le _⟩), by repeat (first | with_reducible exact Later.refl _ | with_reducible assumption | with_reducible refine Later.ofdrew ?_ | with_reducible refine Later.ofdrewN ?_ | with_reducible refine Later.setCell ?_ ?_ _ | with_reducible refine Later.alloc ?_ _ | with_reducible refine Later.drewN ?_ _ | with_reducible refine Later.drew ?_ | (with_reducible refine Later.trans ?_ (by assumption)) | (simp only [World.size_setCell, World.size_alloc, World.heap_drewN]; omega) | (simp; done) | (simp; omega))⟩
  case round =>
    obtain ⟨j, x, hj, rfl, rfl, hx, hlat⟩ := hrel
    by_cases hlt : j < 8
    · have hI2 : (j : Int) < 8 := by omega
      have HRj := Lib.hid (fun W => HRI.out j hlt W)
      by_cases he : nmB j = S
      · have hjc : j = c0 := by
          have e := he.trans HM.out.symm
          unfold nmB at e
          exact nmL_inj hlt h0 (by have := congrArg (fun b => b.data.toList) e; simpa using this)
        have hx2 : Hid (((j : Nat) : Int) = -1 ∧ j + 1 ≤ c0 ∨ ((j : Nat) : Int) = c0 ∧ c0 < j + 1) := Lib.hid (by omega)
        clear hx hjc
        have ht : ((nmB j).toList == S.toList) = true := by rw [list_beq]; exact decide_eq_true he
        obtain ⟨J, hJ⟩ : ∃ J, nmB j = J := ⟨_, rfl⟩
        rw [hJ] at HRj ht
        clear hJ he HN HD HRN HO1 HAW HRI HO2 HRD hne hne2
        go_wp2_with (go_at_call 22; go_must (refine (HRj.out _).mono ?_; rintro e w3 ⟨rfl, hb3⟩))
        go_roundw
        case rel => exact ⟨j + 1, j, by omega, by go_num, rfl, hx2, by repeat (first | with_reducible exact Later.refl _ | with_reducible assumption | with_reducible refine Later.ofdrew ?_ | with_reducible refine Later.ofdrewN ?_ | with_reducible refine Later.setCell ?_ ?_ _ | with_reducible refine Later.alloc ?_ _ | with_reducible refine Later.drewN ?_ _ | with_reducible refine Later.drew ?_ | (with_reducible refine Later.trans ?_ (by assumption)) | (simp only [World.size_setCell, World.size_alloc, World.heap_drewN]; omega) | (simp; done) | (simp; omega))⟩
        case measure => simp [intOf]; omega
      · have hjc : j ≠ c0 := fun e => he (by rw [e]; exact HM.out)
        have hx2 : Hid ((x = -1 ∧ j + 1 ≤ c0) ∨ (x = c0 ∧ c0 < j + 1)) := Lib.hid (by have := hx.out; omega)
        clear hx hjc
        have ht : ((nmB j).toList == S.toList) = false := by rw [list_beq]; exact decide_eq_false he
        obtain ⟨J, hJ⟩ : ∃ J, nmB j = J := ⟨_, rfl⟩
        rw [hJ] at HRj ht
        clear hJ he HN HD HRN HO1 HAW HRI HO2 HRD hne hne2
        go_wp2_with (go_at_call 22; go_must (refine (HRj.out _).mono ?_; rintro e w3 ⟨rfl, hb3⟩))
        go_roundw
        case rel => exact ⟨j + 1, x, by omega, by go_num, rfl, hx2, by repeat (first | with_reducible exact Later.refl _ | with_reducible assumption | with_reducible refine Later.ofdrew ?_ | with_reducible refine Later.ofdrewN ?_ | with_reducible refine Later.setCell ?_ ?_ _ | with_reducible refine Later.alloc ?_ _ | with_reducible refine Later.drewN ?_ _ | with_reducible refine Later.drew ?_ | (with_reducible refine Later.trans ?_ (by assumption)) | (simp only [World.size_setCell, World.size_alloc, World.heap_drewN]; omega) | (simp; done) | (simp; omega))⟩
        case measure => simp [intOf]; omega
    · have hge : ¬ ((j : Int) < 8) := by omega
      obtain rfl : x = (c0 : Nat) := by have := hx.out; omega
      have hc0 : ¬ ((c0 : Int) < 0) := by omega
      have hc1 : (0 : Int) ≤ c0 := by omega
      clear hx HRI HM
      have tok1 : True := trivial
      go_wp2_with (first | (go_at_call 16; go_must (refine (HAW.out _ (by repeat (first | with_reducible exact Later.refl _ | with_reducible assumption | with_reducible refine Later.ofdrew ?_ | with_reducible refine Later.ofdrewN ?_ | with_reducible refine Later.setCell ?_ ?_ _ | with_reducible refine Later.alloc ?_ _ | with_reducible refine Later.drewN ?_ _ | with_reducible refine Later.drew ?_ | (with_reducible refine Later.trans ?_ (by assumption)) | (simp only [World.size_setCell, World.size_alloc, World.heap_drewN]; omega) | (simp; done) | (simp; omega)))).mono ?_; rintro e w5 ⟨rfl, hb5⟩)) | (go_at_call 22; go_must (refine (HRN.out _).mono ?_; rintro e w6 ⟨rfl, hb6⟩)) | (go_at_call 23; clear tok1; go_must (refine (HO1.out _ (by repeat (first | with_reducible exact Later.refl _ | with_reducible assumption | with_reducible refine Later.ofdrew ?_ | with_reducible refine Later.ofdrewN ?_ | with_reducible refine Later.setCell ?_ ?_ _ | with_reducible refine Later.alloc ?_ _ | with_reducible refine Later.drewN ?_ _ | with_reducible refine Later.drew ?_ | (with_reducible refine Later.trans ?_ (by assumption)) | (simp only [World.size_setCell, World.size_alloc, World.heap_drewN]; omega) | (simp; done) | (simp; omega)))).mono ?_; rintro e w7 ⟨rfl, hb7⟩)) | (go_at_call 23; go_must (refine (HO2.out _ (by repeat (first | with_reducible exact Later.refl _ | with_reducible assumption | with_reducible refine Later.ofdrew ?_ | with_reducible refine Later.ofdrewN ?_ | with_reducible refine Later.setCell ?_ ?_ _ | with_reducible refine Later.alloc ?_ _ | with_reducible refine Later.drewN ?_ _ | with_reducible refine Later.drew ?_ | (with_reducible refine Later.trans ?_ (by assumption)) | (simp only [World.size_setCell, World.size_alloc, World.heap_drewN]; omega) | (simp; done) | (simp; omega)))).mono ?_; rintro e w8 ⟨rfl, hb8⟩)) | (go_at_call 24; go_must (refine (HRD.out _).mono ?_; rintro e w9 ⟨rfl, hb9⟩)))
      go_ret
      exact ⟨rfl, by repeat (first | with_reducible exact Later.refl _ | with_reducible assumption | with_reducible refine Later.ofdrew ?_ | with_reducible refine Later.ofdrewN ?_ | with_reducible refine Later.setCell ?_ ?_ _ | with_reducible refine Later.alloc ?_ _ | with_reducible refine Later.drewN ?_ _ | with_reducible refine Later.drew ?_ | (with_reducible refine Later.trans ?_ (by assumption)) | (simp only [World.size_setCell, World.size_alloc, World.heap_drewN]; omega) | (simp; done) | (simp; omega))⟩

set_option maxHeartbeats 4000000 in
theorem lnames_vo (c : Nat) (h8 : c < 8) (S : ByteArray) (hI : ¬ ((40 : Int) < S.size)) (hno : ∀ c, c < 8 → nmB c ≠ S) (w : World) (hL : LibAt w) (hC : CurAt w) :
    Calls Tryd.prog 7 #[.int .i64 (c : Nat), .string S] w fun e w' => e = .returned (.bool true) ∧ Later w w' := by
  have HAW := Lib.hid (fun W (hl : Later w W) => cawake_any W (hL.later hl) (hC.later hl))
  have HRI := Lib.hid (fun (i : Nat) (hi : i < 8) W => rname_yes i hi W)
  have HO1 := Lib.hid (fun W (hl : Later w W) => of_none S hno W (hC.later hl))
  have HM := Lib.hid hno
  have h1 : ¬ ((c : Int) < 0) := by omega
  have HN := Lib.hid (fun W (hl : Later w W) => name_yes c h8 W (hC.later hl))
  have HD := Lib.hid (fun W (hl : Later w W) => digits_yes c h8 W (hC.later hl))
  have HRN := Lib.hid (fun W => rname_yes c h8 W)
  have HRD := Lib.hid (fun W => rdigits_yes c h8 W)
  have HO2 := Lib.hid (fun W (hl : Later w W) => of_found (nmB c) c h8 rfl W (hC.later hl))
  have hne : ((nmB c).toList == (ByteArray.mk #[]).toList) = false := by rw [list_beq]; exact decide_eq_false (fun e => by have := nmB_size h8; rw [e] at this; exact absurd this (by decide))
  have hne2 : ((nmB c).toList == []) = false := nm_ne h8
  obtain ⟨N, hN⟩ : ∃ N, nmB c = N := ⟨_, rfl⟩
  obtain ⟨D, hD⟩ : ∃ D : Int, ((dgN c : Nat) : Int) = D := ⟨_, rfl⟩
  rw [hN] at HN HRN HO2 hne hne2
  rw [hD] at HD HRD
  clear hN hD
  clear hL hC hno
  go_enter Tryd.func7, Tryd.ntmps7
  go_wp2_with (first | (go_at_call 20; go_must (refine (HN.out _ (by repeat (first | with_reducible exact Later.refl _ | with_reducible assumption | with_reducible refine Later.ofdrew ?_ | with_reducible refine Later.ofdrewN ?_ | with_reducible refine Later.setCell ?_ ?_ _ | with_reducible refine Later.alloc ?_ _ | with_reducible refine Later.drewN ?_ _ | with_reducible refine Later.drew ?_ | (with_reducible refine Later.trans ?_ (by assumption)) | (simp only [World.size_setCell, World.size_alloc, World.heap_drewN]; omega) | (simp; done) | (simp; omega)))).mono ?_; rintro e w1 ⟨rfl, hb1⟩)) | (go_at_call 21; go_must (refine (HD.out _ (by repeat (first | with_reducible exact Later.refl _ | with_reducible assumption | with_reducible refine Later.ofdrew ?_ | with_reducible refine Later.ofdrewN ?_ | with_reducible refine Later.setCell ?_ ?_ _ | with_reducible refine Later.alloc ?_ _ | with_reducible refine Later.drewN ?_ _ | with_reducible refine Later.drew ?_ | (with_reducible refine Later.trans ?_ (by assumption)) | (simp only [World.size_setCell, World.size_alloc, World.heap_drewN]; omega) | (simp; done) | (simp; omega)))).mono ?_; rintro e w2 ⟨rfl, hb2⟩)))
  go_loopw [9, 10] (fun s9 s10 wr => ∃ j : Nat, j ≤ 8 ∧ s10 = .int .i64 j ∧ s9 = .int .i64 (-1) ∧ Later w wr) (fun _ s10 _ => 8 - (intOf s10).toNat)
  case atStart => exact ⟨0, Nat.zero_le _, rfl, rfl, by repeat (first | with_reducible exact Later.refl _ | with_reducible assumption | with_reducible refine Later.ofdrew ?_ | with_reducible refine Later.ofdrewN ?_ | with_reducible refine Later.setCell ?_ ?_ _ | with_reducible refine Later.alloc ?_ _ | with_reducible refine Later.drewN ?_ _ | with_reducible refine Later.drew ?_ | (with_reducible refine Later.trans ?_ (by assumption)) | (simp only [World.size_setCell, World.size_alloc, World.heap_drewN]; omega) | (simp; done) | (simp; omega))⟩
  case round =>
    obtain ⟨j, hj, rfl, rfl, hlat⟩ := hrel
    by_cases hlt : j < 8
    · have hI2 : (j : Int) < 8 := by omega
      have HRj := Lib.hid (fun W => HRI.out j hlt W)
      have he := HM.out j hlt
      have ht : ((nmB j).toList == S.toList) = false := by rw [list_beq]; exact decide_eq_false he
      obtain ⟨J, hJ⟩ : ∃ J, nmB j = J := ⟨_, rfl⟩
      rw [hJ] at HRj ht
      clear hJ he HN HD HRN HO1 HAW HRI HO2 HRD hne hne2
      go_wp2_with (go_at_call 22; go_must (refine (HRj.out _).mono ?_; rintro e w3 ⟨rfl, hb3⟩))
      go_roundw
      case rel => exact ⟨j + 1, by omega, by go_num, rfl, by repeat (first | with_reducible exact Later.refl _ | with_reducible assumption | with_reducible refine Later.ofdrew ?_ | with_reducible refine Later.ofdrewN ?_ | with_reducible refine Later.setCell ?_ ?_ _ | with_reducible refine Later.alloc ?_ _ | with_reducible refine Later.drewN ?_ _ | with_reducible refine Later.drew ?_ | (with_reducible refine Later.trans ?_ (by assumption)) | (simp only [World.size_setCell, World.size_alloc, World.heap_drewN]; omega) | (simp; done) | (simp; omega))⟩
      case measure => simp [intOf]; omega
    · have hge : ¬ ((j : Int) < 8) := by omega
      clear HRI HM
      have tok1 : True := trivial
      go_wp2_with (first | (go_at_call 16; go_must (refine (HAW.out _ (by repeat (first | with_reducible exact Later.refl _ | with_reducible assumption | with_reducible refine Later.ofdrew ?_ | with_reducible refine Later.ofdrewN ?_ | with_reducible refine Later.setCell ?_ ?_ _ | with_reducible refine Later.alloc ?_ _ | with_reducible refine Later.drewN ?_ _ | with_reducible refine Later.drew ?_ | (with_reducible refine Later.trans ?_ (by assumption)) | (simp only [World.size_setCell, World.size_alloc, World.heap_drewN]; omega) | (simp; done) | (simp; omega)))).mono ?_; rintro e w5 ⟨rfl, hb5⟩)) | (go_at_call 22; go_must (refine (HRN.out _).mono ?_; rintro e w6 ⟨rfl, hb6⟩)) | (go_at_call 23; clear tok1; go_must (refine (HO1.out _ (by repeat (first | with_reducible exact Later.refl _ | with_reducible assumption | with_reducible refine Later.ofdrew ?_ | with_reducible refine Later.ofdrewN ?_ | with_reducible refine Later.setCell ?_ ?_ _ | with_reducible refine Later.alloc ?_ _ | with_reducible refine Later.drewN ?_ _ | with_reducible refine Later.drew ?_ | (with_reducible refine Later.trans ?_ (by assumption)) | (simp only [World.size_setCell, World.size_alloc, World.heap_drewN]; omega) | (simp; done) | (simp; omega)))).mono ?_; rintro e w7 ⟨rfl, hb7⟩)) | (go_at_call 23; go_must (refine (HO2.out _ (by repeat (first | with_reducible exact Later.refl _ | with_reducible assumption | with_reducible refine Later.ofdrew ?_ | with_reducible refine Later.ofdrewN ?_ | with_reducible refine Later.setCell ?_ ?_ _ | with_reducible refine Later.alloc ?_ _ | with_reducible refine Later.drewN ?_ _ | with_reducible refine Later.drew ?_ | (with_reducible refine Later.trans ?_ (by assumption)) | (simp only [World.size_setCell, World.size_alloc, World.heap_drewN]; omega) | (simp; done) | (simp; omega)))).mono ?_; rintro e w8 ⟨rfl, hb8⟩)) | (go_at_call 24; go_must (refine (HRD.out _).mono ?_; rintro e w9 ⟨rfl, hb9⟩)))
      go_ret
      exact ⟨rfl, by repeat (first | with_reducible exact Later.refl _ | with_reducible assumption | with_reducible refine Later.ofdrew ?_ | with_reducible refine Later.ofdrewN ?_ | with_reducible refine Later.setCell ?_ ?_ _ | with_reducible refine Later.alloc ?_ _ | with_reducible refine Later.drewN ?_ _ | with_reducible refine Later.drew ?_ | (with_reducible refine Later.trans ?_ (by assumption)) | (simp only [World.size_setCell, World.size_alloc, World.heap_drewN]; omega) | (simp; done) | (simp; omega))⟩

set_option maxHeartbeats 4000000 in
theorem lnames_nf (c : Int) (h8 : c < 0) (S : ByteArray) (hI : ¬ ((40 : Int) < S.size)) (c0 : Nat) (h0 : c0 < 8) (hm : nmB c0 = S) (w : World) (hL : LibAt w) (hC : CurAt w) :
    Calls Tryd.prog 7 #[.int .i64 c, .string S] w fun e w' => e = .returned (.bool true) ∧ Later w w' := by
  have HAW := Lib.hid (fun W (hl : Later w W) => cawake_any W (hL.later hl) (hC.later hl))
  have HRI := Lib.hid (fun (i : Nat) (hi : i < 8) W => rname_yes i hi W)
  have HO1 := Lib.hid (fun W (hl : Later w W) => of_found S c0 h0 hm W (hC.later hl))
  have HM := Lib.hid hm
  have HN := Lib.hid (fun W => name_no c (fun h => by omega) W)
  have HD := Lib.hid (fun W => digits_no c (fun h => by omega) W)
  have HRN := Lib.hid (fun W => rname_no c (.inl h8) W)
  clear hL hC hm
  go_enter Tryd.func7, Tryd.ntmps7
  go_wp2_with (first | (go_at_call 20; go_must (refine (HN.out _).mono ?_; rintro e w1 ⟨rfl, hb1⟩)) | (go_at_call 21; go_must (refine (HD.out _).mono ?_; rintro e w2 ⟨rfl, hb2⟩)))
  go_loopw [9, 10] (fun s9 s10 wr => ∃ (j : Nat) (x : Int), j ≤ 8 ∧ s10 = .int .i64 j ∧ s9 = .int .i64 x ∧ Hid ((x = -1 ∧ j ≤ c0) ∨ (x = c0 ∧ c0 < j)) ∧ Later w wr) (fun _ s10 _ => 8 - (intOf s10).toNat)
  case atStart => exact ⟨0, -1, Nat.zero_le _, rfl, rfl, Lib.hid (.inl ⟨rfl, Nat.zero_le _⟩), by repeat (first | with_reducible exact Later.refl _ | with_reducible assumption | with_reducible refine Later.ofdrew ?_ | with_reducible refine Later.ofdrewN ?_ | with_reducible refine Later.setCell ?_ ?_ _ | with_reducible refine Later.alloc ?_ _ | with_reducible refine Later.drewN ?_ _ | with_reducible refine Later.drew ?_ | (with_reducible refine Later.trans ?_ (by assumption)) | (simp only [World.size_setCell, World.size_alloc, World.heap_drewN]; omega) | (simp; done) | (simp; omega))⟩
  case round =>
    obtain ⟨j, x, hj, rfl, rfl, hx, hlat⟩ := hrel
    by_cases hlt : j < 8
    · have hI2 : (j : Int) < 8 := by omega
      have HRj := Lib.hid (fun W => HRI.out j hlt W)
      by_cases he : nmB j = S
      · have hjc : j = c0 := by
          have e := he.trans HM.out.symm
          unfold nmB at e
          exact nmL_inj hlt h0 (by have := congrArg (fun b => b.data.toList) e; simpa using this)
        have hx2 : Hid (((j : Nat) : Int) = -1 ∧ j + 1 ≤ c0 ∨ ((j : Nat) : Int) = c0 ∧ c0 < j + 1) := Lib.hid (by omega)
        clear hx hjc
        have ht : ((nmB j).toList == S.toList) = true := by rw [list_beq]; exact decide_eq_true he
        obtain ⟨J, hJ⟩ : ∃ J, nmB j = J := ⟨_, rfl⟩
        rw [hJ] at HRj ht
        clear hJ he HN HD HRN HO1 HAW HRI 
        go_wp2_with (go_at_call 22; go_must (refine (HRj.out _).mono ?_; rintro e w3 ⟨rfl, hb3⟩))
        go_roundw
        case rel => exact ⟨j + 1, j, by omega, by go_num, rfl, hx2, by repeat (first | with_reducible exact Later.refl _ | with_reducible assumption | with_reducible refine Later.ofdrew ?_ | with_reducible refine Later.ofdrewN ?_ | with_reducible refine Later.setCell ?_ ?_ _ | with_reducible refine Later.alloc ?_ _ | with_reducible refine Later.drewN ?_ _ | with_reducible refine Later.drew ?_ | (with_reducible refine Later.trans ?_ (by assumption)) | (simp only [World.size_setCell, World.size_alloc, World.heap_drewN]; omega) | (simp; done) | (simp; omega))⟩
        case measure => simp [intOf]; omega
      · have hjc : j ≠ c0 := fun e => he (by rw [e]; exact HM.out)
        have hx2 : Hid ((x = -1 ∧ j + 1 ≤ c0) ∨ (x = c0 ∧ c0 < j + 1)) := Lib.hid (by have := hx.out; omega)
        clear hx hjc
        have ht : ((nmB j).toList == S.toList) = false := by rw [list_beq]; exact decide_eq_false he
        obtain ⟨J, hJ⟩ : ∃ J, nmB j = J := ⟨_, rfl⟩
        rw [hJ] at HRj ht
        clear hJ he HN HD HRN HO1 HAW HRI 
        go_wp2_with (go_at_call 22; go_must (refine (HRj.out _).mono ?_; rintro e w3 ⟨rfl, hb3⟩))
        go_roundw
        case rel => exact ⟨j + 1, x, by omega, by go_num, rfl, hx2, by repeat (first | with_reducible exact Later.refl _ | with_reducible assumption | with_reducible refine Later.ofdrew ?_ | with_reducible refine Later.ofdrewN ?_ | with_reducible refine Later.setCell ?_ ?_ _ | with_reducible refine Later.alloc ?_ _ | with_reducible refine Later.drewN ?_ _ | with_reducible refine Later.drew ?_ | (with_reducible refine Later.trans ?_ (by assumption)) | (simp only [World.size_setCell, World.size_alloc, World.heap_drewN]; omega) | (simp; done) | (simp; omega))⟩
        case measure => simp [intOf]; omega
    · have hge : ¬ ((j : Int) < 8) := by omega
      obtain rfl : x = (c0 : Nat) := by have := hx.out; omega
      have hc0 : ¬ ((c0 : Int) < 0) := by omega
      have hc1 : (0 : Int) ≤ c0 := by omega
      clear hx HRI HM
      go_wp2_with (first | (go_at_call 16; go_must (refine (HAW.out _ (by repeat (first | with_reducible exact Later.refl _ | with_reducible assumption | with_reducible refine Later.ofdrew ?_ | with_reducible refine Later.ofdrewN ?_ | with_reducible refine Later.setCell ?_ ?_ _ | with_reducible refine Later.alloc ?_ _ | with_reducible refine Later.drewN ?_ _ | with_reducible refine Later.drew ?_ | (with_reducible refine Later.trans ?_ (by assumption)) | (simp only [World.size_setCell, World.size_alloc, World.heap_drewN]; omega) | (simp; done) | (simp; omega)))).mono ?_; rintro e w5 ⟨rfl, hb5⟩)) | (go_at_call 22; go_must (refine (HRN.out _).mono ?_; rintro e w6 ⟨rfl, hb6⟩)) | (go_at_call 23; go_must (refine (HO1.out _ (by repeat (first | with_reducible exact Later.refl _ | with_reducible assumption | with_reducible refine Later.ofdrew ?_ | with_reducible refine Later.ofdrewN ?_ | with_reducible refine Later.setCell ?_ ?_ _ | with_reducible refine Later.alloc ?_ _ | with_reducible refine Later.drewN ?_ _ | with_reducible refine Later.drew ?_ | (with_reducible refine Later.trans ?_ (by assumption)) | (simp only [World.size_setCell, World.size_alloc, World.heap_drewN]; omega) | (simp; done) | (simp; omega)))).mono ?_; rintro e w7 ⟨rfl, hb7⟩)))
      go_ret
      exact ⟨rfl, by repeat (first | with_reducible exact Later.refl _ | with_reducible assumption | with_reducible refine Later.ofdrew ?_ | with_reducible refine Later.ofdrewN ?_ | with_reducible refine Later.setCell ?_ ?_ _ | with_reducible refine Later.alloc ?_ _ | with_reducible refine Later.drewN ?_ _ | with_reducible refine Later.drew ?_ | (with_reducible refine Later.trans ?_ (by assumption)) | (simp only [World.size_setCell, World.size_alloc, World.heap_drewN]; omega) | (simp; done) | (simp; omega))⟩

set_option maxHeartbeats 4000000 in
theorem lnames_no (c : Int) (h8 : c < 0) (S : ByteArray) (hI : ¬ ((40 : Int) < S.size)) (hno : ∀ c, c < 8 → nmB c ≠ S) (w : World) (hL : LibAt w) (hC : CurAt w) :
    Calls Tryd.prog 7 #[.int .i64 c, .string S] w fun e w' => e = .returned (.bool true) ∧ Later w w' := by
  have HAW := Lib.hid (fun W (hl : Later w W) => cawake_any W (hL.later hl) (hC.later hl))
  have HRI := Lib.hid (fun (i : Nat) (hi : i < 8) W => rname_yes i hi W)
  have HO1 := Lib.hid (fun W (hl : Later w W) => of_none S hno W (hC.later hl))
  have HM := Lib.hid hno
  have HN := Lib.hid (fun W => name_no c (fun h => by omega) W)
  have HD := Lib.hid (fun W => digits_no c (fun h => by omega) W)
  have HRN := Lib.hid (fun W => rname_no c (.inl h8) W)
  clear hL hC hno
  go_enter Tryd.func7, Tryd.ntmps7
  go_wp2_with (first | (go_at_call 20; go_must (refine (HN.out _).mono ?_; rintro e w1 ⟨rfl, hb1⟩)) | (go_at_call 21; go_must (refine (HD.out _).mono ?_; rintro e w2 ⟨rfl, hb2⟩)))
  go_loopw [9, 10] (fun s9 s10 wr => ∃ j : Nat, j ≤ 8 ∧ s10 = .int .i64 j ∧ s9 = .int .i64 (-1) ∧ Later w wr) (fun _ s10 _ => 8 - (intOf s10).toNat)
  case atStart => exact ⟨0, Nat.zero_le _, rfl, rfl, by repeat (first | with_reducible exact Later.refl _ | with_reducible assumption | with_reducible refine Later.ofdrew ?_ | with_reducible refine Later.ofdrewN ?_ | with_reducible refine Later.setCell ?_ ?_ _ | with_reducible refine Later.alloc ?_ _ | with_reducible refine Later.drewN ?_ _ | with_reducible refine Later.drew ?_ | (with_reducible refine Later.trans ?_ (by assumption)) | (simp only [World.size_setCell, World.size_alloc, World.heap_drewN]; omega) | (simp; done) | (simp; omega))⟩
  case round =>
    obtain ⟨j, hj, rfl, rfl, hlat⟩ := hrel
    by_cases hlt : j < 8
    · have hI2 : (j : Int) < 8 := by omega
      have HRj := Lib.hid (fun W => HRI.out j hlt W)
      have he := HM.out j hlt
      have ht : ((nmB j).toList == S.toList) = false := by rw [list_beq]; exact decide_eq_false he
      obtain ⟨J, hJ⟩ : ∃ J, nmB j = J := ⟨_, rfl⟩
      rw [hJ] at HRj ht
      clear hJ he HN HD HRN HO1 HAW HRI 
      go_wp2_with (go_at_call 22; go_must (refine (HRj.out _).mono ?_; rintro e w3 ⟨rfl, hb3⟩))
      go_roundw
      case rel => exact ⟨j + 1, by omega, by go_num, rfl, by repeat (first | with_reducible exact Later.refl _ | with_reducible assumption | with_reducible refine Later.ofdrew ?_ | with_reducible refine Later.ofdrewN ?_ | with_reducible refine Later.setCell ?_ ?_ _ | with_reducible refine Later.alloc ?_ _ | with_reducible refine Later.drewN ?_ _ | with_reducible refine Later.drew ?_ | (with_reducible refine Later.trans ?_ (by assumption)) | (simp only [World.size_setCell, World.size_alloc, World.heap_drewN]; omega) | (simp; done) | (simp; omega))⟩
      case measure => simp [intOf]; omega
    · have hge : ¬ ((j : Int) < 8) := by omega
      clear HRI HM
      go_wp2_with (first | (go_at_call 16; go_must (refine (HAW.out _ (by repeat (first | with_reducible exact Later.refl _ | with_reducible assumption | with_reducible refine Later.ofdrew ?_ | with_reducible refine Later.ofdrewN ?_ | with_reducible refine Later.setCell ?_ ?_ _ | with_reducible refine Later.alloc ?_ _ | with_reducible refine Later.drewN ?_ _ | with_reducible refine Later.drew ?_ | (with_reducible refine Later.trans ?_ (by assumption)) | (simp only [World.size_setCell, World.size_alloc, World.heap_drewN]; omega) | (simp; done) | (simp; omega)))).mono ?_; rintro e w5 ⟨rfl, hb5⟩)) | (go_at_call 22; go_must (refine (HRN.out _).mono ?_; rintro e w6 ⟨rfl, hb6⟩)) | (go_at_call 23; go_must (refine (HO1.out _ (by repeat (first | with_reducible exact Later.refl _ | with_reducible assumption | with_reducible refine Later.ofdrew ?_ | with_reducible refine Later.ofdrewN ?_ | with_reducible refine Later.setCell ?_ ?_ _ | with_reducible refine Later.alloc ?_ _ | with_reducible refine Later.drewN ?_ _ | with_reducible refine Later.drew ?_ | (with_reducible refine Later.trans ?_ (by assumption)) | (simp only [World.size_setCell, World.size_alloc, World.heap_drewN]; omega) | (simp; done) | (simp; omega)))).mono ?_; rintro e w7 ⟨rfl, hb7⟩)))
      go_ret
      exact ⟨rfl, by repeat (first | with_reducible exact Later.refl _ | with_reducible assumption | with_reducible refine Later.ofdrew ?_ | with_reducible refine Later.ofdrewN ?_ | with_reducible refine Later.setCell ?_ ?_ _ | with_reducible refine Later.alloc ?_ _ | with_reducible refine Later.drewN ?_ _ | with_reducible refine Later.drew ?_ | (with_reducible refine Later.trans ?_ (by assumption)) | (simp only [World.size_setCell, World.size_alloc, World.heap_drewN]; omega) | (simp; done) | (simp; omega))⟩

set_option maxHeartbeats 4000000 in
theorem lnames_bf (c : Int) (h8 : 7 < c) (S : ByteArray) (hI : ¬ ((40 : Int) < S.size)) (c0 : Nat) (h0 : c0 < 8) (hm : nmB c0 = S) (w : World) (hL : LibAt w) (hC : CurAt w) :
    Calls Tryd.prog 7 #[.int .i64 c, .string S] w fun e w' => e = .returned (.bool true) ∧ Later w w' := by
  have HAW := Lib.hid (fun W (hl : Later w W) => cawake_any W (hL.later hl) (hC.later hl))
  have HRI := Lib.hid (fun (i : Nat) (hi : i < 8) W => rname_yes i hi W)
  have HO1 := Lib.hid (fun W (hl : Later w W) => of_found S c0 h0 hm W (hC.later hl))
  have HM := Lib.hid hm
  have HN := Lib.hid (fun W => name_no c (fun h => by omega) W)
  have HD := Lib.hid (fun W => digits_no c (fun h => by omega) W)
  have HRN := Lib.hid (fun W => rname_no c (.inr h8) W)
  clear hL hC hm
  go_enter Tryd.func7, Tryd.ntmps7
  go_wp2_with (first | (go_at_call 20; go_must (refine (HN.out _).mono ?_; rintro e w1 ⟨rfl, hb1⟩)) | (go_at_call 21; go_must (refine (HD.out _).mono ?_; rintro e w2 ⟨rfl, hb2⟩)))
  go_loopw [9, 10] (fun s9 s10 wr => ∃ (j : Nat) (x : Int), j ≤ 8 ∧ s10 = .int .i64 j ∧ s9 = .int .i64 x ∧ Hid ((x = -1 ∧ j ≤ c0) ∨ (x = c0 ∧ c0 < j)) ∧ Later w wr) (fun _ s10 _ => 8 - (intOf s10).toNat)
  case atStart => exact ⟨0, -1, Nat.zero_le _, rfl, rfl, Lib.hid (.inl ⟨rfl, Nat.zero_le _⟩), by repeat (first | with_reducible exact Later.refl _ | with_reducible assumption | with_reducible refine Later.ofdrew ?_ | with_reducible refine Later.ofdrewN ?_ | with_reducible refine Later.setCell ?_ ?_ _ | with_reducible refine Later.alloc ?_ _ | with_reducible refine Later.drewN ?_ _ | with_reducible refine Later.drew ?_ | (with_reducible refine Later.trans ?_ (by assumption)) | (simp only [World.size_setCell, World.size_alloc, World.heap_drewN]; omega) | (simp; done) | (simp; omega))⟩
  case round =>
    obtain ⟨j, x, hj, rfl, rfl, hx, hlat⟩ := hrel
    by_cases hlt : j < 8
    · have hI2 : (j : Int) < 8 := by omega
      have HRj := Lib.hid (fun W => HRI.out j hlt W)
      by_cases he : nmB j = S
      · have hjc : j = c0 := by
          have e := he.trans HM.out.symm
          unfold nmB at e
          exact nmL_inj hlt h0 (by have := congrArg (fun b => b.data.toList) e; simpa using this)
        have hx2 : Hid (((j : Nat) : Int) = -1 ∧ j + 1 ≤ c0 ∨ ((j : Nat) : Int) = c0 ∧ c0 < j + 1) := Lib.hid (by omega)
        clear hx hjc
        have ht : ((nmB j).toList == S.toList) = true := by rw [list_beq]; exact decide_eq_true he
        obtain ⟨J, hJ⟩ : ∃ J, nmB j = J := ⟨_, rfl⟩
        rw [hJ] at HRj ht
        clear hJ he HN HD HRN HO1 HAW HRI 
        go_wp2_with (go_at_call 22; go_must (refine (HRj.out _).mono ?_; rintro e w3 ⟨rfl, hb3⟩))
        go_roundw
        case rel => exact ⟨j + 1, j, by omega, by go_num, rfl, hx2, by repeat (first | with_reducible exact Later.refl _ | with_reducible assumption | with_reducible refine Later.ofdrew ?_ | with_reducible refine Later.ofdrewN ?_ | with_reducible refine Later.setCell ?_ ?_ _ | with_reducible refine Later.alloc ?_ _ | with_reducible refine Later.drewN ?_ _ | with_reducible refine Later.drew ?_ | (with_reducible refine Later.trans ?_ (by assumption)) | (simp only [World.size_setCell, World.size_alloc, World.heap_drewN]; omega) | (simp; done) | (simp; omega))⟩
        case measure => simp [intOf]; omega
      · have hjc : j ≠ c0 := fun e => he (by rw [e]; exact HM.out)
        have hx2 : Hid ((x = -1 ∧ j + 1 ≤ c0) ∨ (x = c0 ∧ c0 < j + 1)) := Lib.hid (by have := hx.out; omega)
        clear hx hjc
        have ht : ((nmB j).toList == S.toList) = false := by rw [list_beq]; exact decide_eq_false he
        obtain ⟨J, hJ⟩ : ∃ J, nmB j = J := ⟨_, rfl⟩
        rw [hJ] at HRj ht
        clear hJ he HN HD HRN HO1 HAW HRI 
        go_wp2_with (go_at_call 22; go_must (refine (HRj.out _).mono ?_; rintro e w3 ⟨rfl, hb3⟩))
        go_roundw
        case rel => exact ⟨j + 1, x, by omega, by go_num, rfl, hx2, by repeat (first | with_reducible exact Later.refl _ | with_reducible assumption | with_reducible refine Later.ofdrew ?_ | with_reducible refine Later.ofdrewN ?_ | with_reducible refine Later.setCell ?_ ?_ _ | with_reducible refine Later.alloc ?_ _ | with_reducible refine Later.drewN ?_ _ | with_reducible refine Later.drew ?_ | (with_reducible refine Later.trans ?_ (by assumption)) | (simp only [World.size_setCell, World.size_alloc, World.heap_drewN]; omega) | (simp; done) | (simp; omega))⟩
        case measure => simp [intOf]; omega
    · have hge : ¬ ((j : Int) < 8) := by omega
      obtain rfl : x = (c0 : Nat) := by have := hx.out; omega
      have hc0 : ¬ ((c0 : Int) < 0) := by omega
      have hc1 : (0 : Int) ≤ c0 := by omega
      clear hx HRI HM
      go_wp2_with (first | (go_at_call 16; go_must (refine (HAW.out _ (by repeat (first | with_reducible exact Later.refl _ | with_reducible assumption | with_reducible refine Later.ofdrew ?_ | with_reducible refine Later.ofdrewN ?_ | with_reducible refine Later.setCell ?_ ?_ _ | with_reducible refine Later.alloc ?_ _ | with_reducible refine Later.drewN ?_ _ | with_reducible refine Later.drew ?_ | (with_reducible refine Later.trans ?_ (by assumption)) | (simp only [World.size_setCell, World.size_alloc, World.heap_drewN]; omega) | (simp; done) | (simp; omega)))).mono ?_; rintro e w5 ⟨rfl, hb5⟩)) | (go_at_call 22; go_must (refine (HRN.out _).mono ?_; rintro e w6 ⟨rfl, hb6⟩)) | (go_at_call 23; go_must (refine (HO1.out _ (by repeat (first | with_reducible exact Later.refl _ | with_reducible assumption | with_reducible refine Later.ofdrew ?_ | with_reducible refine Later.ofdrewN ?_ | with_reducible refine Later.setCell ?_ ?_ _ | with_reducible refine Later.alloc ?_ _ | with_reducible refine Later.drewN ?_ _ | with_reducible refine Later.drew ?_ | (with_reducible refine Later.trans ?_ (by assumption)) | (simp only [World.size_setCell, World.size_alloc, World.heap_drewN]; omega) | (simp; done) | (simp; omega)))).mono ?_; rintro e w7 ⟨rfl, hb7⟩)))
      go_ret
      exact ⟨rfl, by repeat (first | with_reducible exact Later.refl _ | with_reducible assumption | with_reducible refine Later.ofdrew ?_ | with_reducible refine Later.ofdrewN ?_ | with_reducible refine Later.setCell ?_ ?_ _ | with_reducible refine Later.alloc ?_ _ | with_reducible refine Later.drewN ?_ _ | with_reducible refine Later.drew ?_ | (with_reducible refine Later.trans ?_ (by assumption)) | (simp only [World.size_setCell, World.size_alloc, World.heap_drewN]; omega) | (simp; done) | (simp; omega))⟩

set_option maxHeartbeats 4000000 in
theorem lnames_bo (c : Int) (h8 : 7 < c) (S : ByteArray) (hI : ¬ ((40 : Int) < S.size)) (hno : ∀ c, c < 8 → nmB c ≠ S) (w : World) (hL : LibAt w) (hC : CurAt w) :
    Calls Tryd.prog 7 #[.int .i64 c, .string S] w fun e w' => e = .returned (.bool true) ∧ Later w w' := by
  have HAW := Lib.hid (fun W (hl : Later w W) => cawake_any W (hL.later hl) (hC.later hl))
  have HRI := Lib.hid (fun (i : Nat) (hi : i < 8) W => rname_yes i hi W)
  have HO1 := Lib.hid (fun W (hl : Later w W) => of_none S hno W (hC.later hl))
  have HM := Lib.hid hno
  have HN := Lib.hid (fun W => name_no c (fun h => by omega) W)
  have HD := Lib.hid (fun W => digits_no c (fun h => by omega) W)
  have HRN := Lib.hid (fun W => rname_no c (.inr h8) W)
  clear hL hC hno
  go_enter Tryd.func7, Tryd.ntmps7
  go_wp2_with (first | (go_at_call 20; go_must (refine (HN.out _).mono ?_; rintro e w1 ⟨rfl, hb1⟩)) | (go_at_call 21; go_must (refine (HD.out _).mono ?_; rintro e w2 ⟨rfl, hb2⟩)))
  go_loopw [9, 10] (fun s9 s10 wr => ∃ j : Nat, j ≤ 8 ∧ s10 = .int .i64 j ∧ s9 = .int .i64 (-1) ∧ Later w wr) (fun _ s10 _ => 8 - (intOf s10).toNat)
  case atStart => exact ⟨0, Nat.zero_le _, rfl, rfl, by repeat (first | with_reducible exact Later.refl _ | with_reducible assumption | with_reducible refine Later.ofdrew ?_ | with_reducible refine Later.ofdrewN ?_ | with_reducible refine Later.setCell ?_ ?_ _ | with_reducible refine Later.alloc ?_ _ | with_reducible refine Later.drewN ?_ _ | with_reducible refine Later.drew ?_ | (with_reducible refine Later.trans ?_ (by assumption)) | (simp only [World.size_setCell, World.size_alloc, World.heap_drewN]; omega) | (simp; done) | (simp; omega))⟩
  case round =>
    obtain ⟨j, hj, rfl, rfl, hlat⟩ := hrel
    by_cases hlt : j < 8
    · have hI2 : (j : Int) < 8 := by omega
      have HRj := Lib.hid (fun W => HRI.out j hlt W)
      have he := HM.out j hlt
      have ht : ((nmB j).toList == S.toList) = false := by rw [list_beq]; exact decide_eq_false he
      obtain ⟨J, hJ⟩ : ∃ J, nmB j = J := ⟨_, rfl⟩
      rw [hJ] at HRj ht
      clear hJ he HN HD HRN HO1 HAW HRI 
      go_wp2_with (go_at_call 22; go_must (refine (HRj.out _).mono ?_; rintro e w3 ⟨rfl, hb3⟩))
      go_roundw
      case rel => exact ⟨j + 1, by omega, by go_num, rfl, by repeat (first | with_reducible exact Later.refl _ | with_reducible assumption | with_reducible refine Later.ofdrew ?_ | with_reducible refine Later.ofdrewN ?_ | with_reducible refine Later.setCell ?_ ?_ _ | with_reducible refine Later.alloc ?_ _ | with_reducible refine Later.drewN ?_ _ | with_reducible refine Later.drew ?_ | (with_reducible refine Later.trans ?_ (by assumption)) | (simp only [World.size_setCell, World.size_alloc, World.heap_drewN]; omega) | (simp; done) | (simp; omega))⟩
      case measure => simp [intOf]; omega
    · have hge : ¬ ((j : Int) < 8) := by omega
      clear HRI HM
      go_wp2_with (first | (go_at_call 16; go_must (refine (HAW.out _ (by repeat (first | with_reducible exact Later.refl _ | with_reducible assumption | with_reducible refine Later.ofdrew ?_ | with_reducible refine Later.ofdrewN ?_ | with_reducible refine Later.setCell ?_ ?_ _ | with_reducible refine Later.alloc ?_ _ | with_reducible refine Later.drewN ?_ _ | with_reducible refine Later.drew ?_ | (with_reducible refine Later.trans ?_ (by assumption)) | (simp only [World.size_setCell, World.size_alloc, World.heap_drewN]; omega) | (simp; done) | (simp; omega)))).mono ?_; rintro e w5 ⟨rfl, hb5⟩)) | (go_at_call 22; go_must (refine (HRN.out _).mono ?_; rintro e w6 ⟨rfl, hb6⟩)) | (go_at_call 23; go_must (refine (HO1.out _ (by repeat (first | with_reducible exact Later.refl _ | with_reducible assumption | with_reducible refine Later.ofdrew ?_ | with_reducible refine Later.ofdrewN ?_ | with_reducible refine Later.setCell ?_ ?_ _ | with_reducible refine Later.alloc ?_ _ | with_reducible refine Later.drewN ?_ _ | with_reducible refine Later.drew ?_ | (with_reducible refine Later.trans ?_ (by assumption)) | (simp only [World.size_setCell, World.size_alloc, World.heap_drewN]; omega) | (simp; done) | (simp; omega)))).mono ?_; rintro e w7 ⟨rfl, hb7⟩)))
      go_ret
      exact ⟨rfl, by repeat (first | with_reducible exact Later.refl _ | with_reducible assumption | with_reducible refine Later.ofdrew ?_ | with_reducible refine Later.ofdrewN ?_ | with_reducible refine Later.setCell ?_ ?_ _ | with_reducible refine Later.alloc ?_ _ | with_reducible refine Later.drewN ?_ _ | with_reducible refine Later.drew ?_ | (with_reducible refine Later.trans ?_ (by assumption)) | (simp only [World.size_setCell, World.size_alloc, World.heap_drewN]; omega) | (simp; done) | (simp; omega))⟩

set_option maxHeartbeats 1600000 in
theorem lnames_long (cur : Int) (S : ByteArray) (hI : (40 : Int) < S.size) (w : World) (hL : LibAt w) (hC : CurAt w) :
    Calls Tryd.prog 7 #[.int .i64 cur, .string S] w fun e w' => e = .returned (.bool true) ∧ Later w w' := by
  have HAW := Lib.hid (fun W (hl : Later w W) => cawake_any W (hL.later hl) (hC.later hl))
  clear hL hC
  go_enter Tryd.func7, Tryd.ntmps7
  go_wp2_with (go_at_call 16; go_must (refine (HAW.out _ (by repeat (first | with_reducible exact Later.refl _ | with_reducible assumption | with_reducible refine Later.ofdrew ?_ | with_reducible refine Later.ofdrewN ?_ | with_reducible refine Later.setCell ?_ ?_ _ | with_reducible refine Later.alloc ?_ _ | with_reducible refine Later.drewN ?_ _ | with_reducible refine Later.drew ?_ | (with_reducible refine Later.trans ?_ (by assumption)) | (simp only [World.size_setCell, World.size_alloc, World.heap_drewN]; omega) | (simp; done) | (simp; omega)))).mono ?_; rintro e w3 ⟨rfl, hb3⟩))
  go_ret
  exact ⟨rfl, by repeat (first | with_reducible exact Later.refl _ | with_reducible assumption | with_reducible refine Later.ofdrew ?_ | with_reducible refine Later.ofdrewN ?_ | with_reducible refine Later.setCell ?_ ?_ _ | with_reducible refine Later.alloc ?_ _ | with_reducible refine Later.drewN ?_ _ | with_reducible refine Later.drew ?_ | (with_reducible refine Later.trans ?_ (by assumption)) | (simp only [World.size_setCell, World.size_alloc, World.heap_drewN]; omega) | (simp; done) | (simp; omega))⟩

theorem lnames_any (cur : Int) (_ : I64 cur) (s : List UInt8) (_ : s.length ≤ 9223372036854775807) (w : World) (hL : LibAt w) (hC : CurAt w) :
    Calls Tryd.prog 7 #[.int .i64 cur, .string ⟨s.toArray⟩] w fun e w' => e = .returned (.bool true) ∧ Later w w' := by
  by_cases hI : (40 : Int) < (ByteArray.mk s.toArray).size
  · exact lnames_long cur _ hI w hL hC
  · by_cases hf : ∃ c0, c0 < 8 ∧ nmB c0 = ⟨s.toArray⟩
    · obtain ⟨c0, h0, hm⟩ := hf
      by_cases h1 : cur < 0
      · exact lnames_nf cur h1 _ hI c0 h0 hm w hL hC
      · by_cases h2 : 7 < cur
        · exact lnames_bf cur h2 _ hI c0 h0 hm w hL hC
        · obtain ⟨c, rfl⟩ := Int.eq_ofNat_of_zero_le (by omega : 0 ≤ cur)
          exact lnames_vf c (by omega) _ hI c0 h0 hm w hL hC
    · have hno : ∀ c, c < 8 → nmB c ≠ ⟨s.toArray⟩ := fun c hc e => hf ⟨c, hc, e⟩
      by_cases h1 : cur < 0
      · exact lnames_no cur h1 _ hI hno w hL hC
      · by_cases h2 : 7 < cur
        · exact lnames_bo cur h2 _ hI hno w hL hC
        · obtain ⟨c, rfl⟩ := Int.eq_ofNat_of_zero_le (by omega : 0 ≤ cur)
          exact lnames_vo c (by omega) _ hI hno w hL hC
end Go.Proofs.YtckeaibamgkegaaDoor
