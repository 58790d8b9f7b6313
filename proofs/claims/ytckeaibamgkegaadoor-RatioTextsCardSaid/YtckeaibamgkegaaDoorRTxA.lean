/- ratios as texts: Print of the program, Print of the reference -/
import Derived.Test.YtckeaibamgkegaaDoorLib
import Derived.Test.YtckeaibamgkegaaDoorRefO
import Derived.Test.YtckeaibamgkegaaDoorRatC
set_option linter.all false
namespace Go.Proofs.YtckeaibamgkegaaDoor
open Go.RowKit
set_option maxRecDepth 100000

theorem ba_toList_inj {A B : ByteArray} (h : A.toList = B.toList) : A = B := by
  rw [ByteArray.toList_eq, ByteArray.toList_eq] at h
  exact ByteArray.ext (Array.toList_inj.1 h)
def printR (n d : Int) : List UInt8 := if chkE n d = 0 then textR n d else []
theorem textR_one (n : Int) : textR n 1 = Lib.itoa n := by unfold textR; rw [if_pos rfl, List.append_nil]
theorem textR_two {n d : Int} (h : d ≠ 1) : textR n d = Lib.itoa n ++ ([47] ++ Lib.itoa d) := by unfold textR; rw [if_neg h]; rfl
theorem ret_ps {a b : ByteArray} {e : Int} (h : a = b) : Ending.returned (.tuple #[.string a, .int .i64 e]) = .returned (.tuple #[.string b, .int .i64 e]) := by rw [h]

set_option maxHeartbeats 1600000 in
theorem rtprint_any (n d : Int) (hn : I64 n) (hd : I64 d) (w : World) (h : LibAt w) :
    Calls Tryd.prog 10 #[.agg #[.int .i64 n, .int .i64 d]] w fun e w' => e = .returned (.tuple #[.string ⟨(printR n d).toArray⟩, .int .i64 (chkE n d)]) ∧ Later w w' := by
  have HCK := Lib.hid (fun W => check_any n d W hn.1 hn.2 hd.1 hd.2)
  have HIN := Lib.hid (fun W (hl : Later w W) => itoa_any n hn W (h.pow.later hl))
  have HID := Lib.hid (fun W (hl : Later w W) => itoa_any d hd W (h.pow.later hl))
  have hl1 := itoa_short hn
  have hl2 := itoa_short hd
  clear h hn hd
  by_cases hc : chkE n d = 0
  · have hp : printR n d = textR n d := if_pos hc
    rw [hp]
    simp only [hc] at HCK ⊢
    clear hp hc
    by_cases hd1 : d = 1
    · have hb1 : (d == 1) = true := by rw [beq_iff_eq]; exact hd1
      have hb2 : (d != 1) = false := by rw [bne_eq_false_iff_eq]; exact hd1
      have HS : Hid (ByteArray.mk (Lib.itoa n).toArray = ⟨(textR n d).toArray⟩) := Lib.hid (by rw [hd1, textR_one])
      clear hd1 HID
      go_enter Tryd.func10, Tryd.ntmps10
      go_upto_region 1 with (fail)
      refine wp_opaque (fun W8 hb8 => ?_)
      have HO := Lib.hid (Own.one hb8)
      have hw8 := hb8.un1
      clear hb8
      obtain ⟨⟨z8, d8, f8⟩, -⟩ := HO.out
      go_wp2_with (first | (go_at_call 29; go_must (refine (HCK.out _).mono ?_; rintro e w2 ⟨rfl, hb2'⟩; clear z8 d8 f8; obtain ⟨⟨z8, d8, f8⟩, -⟩ := HO.out.later hb2')) | (go_at_call 30; go_must (refine (HIN.out _ (by repeat (first | with_reducible exact Later.refl _ | with_reducible assumption | with_reducible refine Later.ofdrew ?_ | with_reducible refine Later.ofdrewN ?_ | with_reducible refine Later.setCell ?_ ?_ _ | with_reducible refine Later.alloc ?_ _ | with_reducible refine Later.drewN ?_ _ | with_reducible refine Later.drew ?_ | (with_reducible refine Later.trans ?_ (by assumption)) | (simp only [World.size_setCell, World.size_alloc, World.heap_drewN]; omega) | (simp; done) | (simp; omega)))).mono ?_; rintro e w3 ⟨rfl, hb3⟩; clear z8 d8 f8; obtain ⟨⟨z8, d8, f8⟩, -⟩ := HO.out.later (show Later W8 w3 by repeat (first | with_reducible exact Later.refl _ | with_reducible assumption | with_reducible refine Later.ofdrew ?_ | with_reducible refine Later.ofdrewN ?_ | with_reducible refine Later.setCell ?_ ?_ _ | with_reducible refine Later.alloc ?_ _ | with_reducible refine Later.drewN ?_ _ | with_reducible refine Later.drew ?_ | (with_reducible refine Later.trans ?_ (by assumption)) | (simp only [World.size_setCell, World.size_alloc, World.heap_drewN]; omega) | (simp; done) | (simp; omega))))))
      go_ret2
      exact ⟨ret_ps HS.out, by repeat (first | with_reducible exact Later.refl _ | with_reducible assumption | with_reducible refine Later.ofdrew ?_ | with_reducible refine Later.ofdrewN ?_ | with_reducible refine Later.setCell ?_ ?_ _ | with_reducible refine Later.alloc ?_ _ | with_reducible refine Later.drewN ?_ _ | with_reducible refine Later.drew ?_ | (with_reducible refine Later.trans ?_ (by assumption)) | (simp only [World.size_setCell, World.size_alloc, World.heap_drewN]; omega) | (simp; done) | (simp; omega))⟩
    · have hb1 : (d == 1) = false := by rw [beq_eq_false_iff_ne]; exact hd1
      have hb2 : (d != 1) = true := by rw [bne_iff_ne]; exact hd1
      obtain ⟨S1, hS1⟩ : ∃ S, ByteArray.mk (Lib.itoa n).toArray = S := ⟨_, rfl⟩
      obtain ⟨S2, hS2⟩ : ∃ S, ByteArray.mk (Lib.itoa d).toArray = S := ⟨_, rfl⟩
      have HS : Hid (S1 ++ (⟨#[47]⟩ ++ S2) = ⟨(textR n d).toArray⟩) := Lib.hid (by rw [textR_two hd1, ← hS1, ← hS2, ← ba_app, ← ba_app])
      have hz1 : S1.size ≤ 21 := by rw [← hS1, ba_len]; exact hl1
      have hz2 : S2.size ≤ 21 := by rw [← hS2, ba_len]; exact hl2
      have hz3 : (⟨#[47]⟩ : ByteArray).size = 1 := rfl
      have hz4 : (⟨#[47]⟩ ++ S2).size = 1 + S2.size := by rw [ByteArray.size_append]; rfl
      rw [hS1] at HIN
      rw [hS2] at HID
      have tok1 : True := trivial
      clear hd1 hS1 hS2 hl1 hl2
      go_enter Tryd.func10, Tryd.ntmps10
      go_upto_region 1 with (fail)
      refine wp_opaque (fun W8 hb8 => ?_)
      have HO := Lib.hid (Own.one hb8)
      have hw8 := hb8.un1
      clear hb8
      obtain ⟨⟨z8, d8, f8⟩, -⟩ := HO.out
      go_wp2_with (first | (go_at_call 29; go_must (refine (HCK.out _).mono ?_; rintro e w2 ⟨rfl, hb2'⟩; clear z8 d8 f8; obtain ⟨⟨z8, d8, f8⟩, -⟩ := HO.out.later hb2')) | (go_at_call 30; clear tok1; go_must (refine (HIN.out _ (by repeat (first | with_reducible exact Later.refl _ | with_reducible assumption | with_reducible refine Later.ofdrew ?_ | with_reducible refine Later.ofdrewN ?_ | with_reducible refine Later.setCell ?_ ?_ _ | with_reducible refine Later.alloc ?_ _ | with_reducible refine Later.drewN ?_ _ | with_reducible refine Later.drew ?_ | (with_reducible refine Later.trans ?_ (by assumption)) | (simp only [World.size_setCell, World.size_alloc, World.heap_drewN]; omega) | (simp; done) | (simp; omega)))).mono ?_; rintro e w3 ⟨rfl, hb3⟩; clear z8 d8 f8; obtain ⟨⟨z8, d8, f8⟩, -⟩ := HO.out.later (show Later W8 w3 by repeat (first | with_reducible exact Later.refl _ | with_reducible assumption | with_reducible refine Later.ofdrew ?_ | with_reducible refine Later.ofdrewN ?_ | with_reducible refine Later.setCell ?_ ?_ _ | with_reducible refine Later.alloc ?_ _ | with_reducible refine Later.drewN ?_ _ | with_reducible refine Later.drew ?_ | (with_reducible refine Later.trans ?_ (by assumption)) | (simp only [World.size_setCell, World.size_alloc, World.heap_drewN]; omega) | (simp; done) | (simp; omega))))) | (go_at_call 30; go_must (refine (HID.out _ (by repeat (first | with_reducible exact Later.refl _ | with_reducible assumption | with_reducible refine Later.ofdrew ?_ | with_reducible refine Later.ofdrewN ?_ | with_reducible refine Later.setCell ?_ ?_ _ | with_reducible refine Later.alloc ?_ _ | with_reducible refine Later.drewN ?_ _ | with_reducible refine Later.drew ?_ | (with_reducible refine Later.trans ?_ (by assumption)) | (simp only [World.size_setCell, World.size_alloc, World.heap_drewN]; omega) | (simp; done) | (simp; omega)))).mono ?_; rintro e w4 ⟨rfl, hb4⟩; clear z8 d8 f8; obtain ⟨⟨z8, d8, f8⟩, -⟩ := HO.out.later (show Later W8 w4 by repeat (first | with_reducible exact Later.refl _ | with_reducible assumption | with_reducible refine Later.ofdrew ?_ | with_reducible refine Later.ofdrewN ?_ | with_reducible refine Later.setCell ?_ ?_ _ | with_reducible refine Later.alloc ?_ _ | with_reducible refine Later.drewN ?_ _ | with_reducible refine Later.drew ?_ | (with_reducible refine Later.trans ?_ (by assumption)) | (simp only [World.size_setCell, World.size_alloc, World.heap_drewN]; omega) | (simp; done) | (simp; omega))))))
      go_ret2
      exact ⟨ret_ps HS.out, by repeat (first | with_reducible exact Later.refl _ | with_reducible assumption | with_reducible refine Later.ofdrew ?_ | with_reducible refine Later.ofdrewN ?_ | with_reducible refine Later.setCell ?_ ?_ _ | with_reducible refine Later.alloc ?_ _ | with_reducible refine Later.drewN ?_ _ | with_reducible refine Later.drew ?_ | (with_reducible refine Later.trans ?_ (by assumption)) | (simp only [World.size_setCell, World.size_alloc, World.heap_drewN]; omega) | (simp; done) | (simp; omega))⟩
  · have hp : printR n d = [] := if_neg hc
    rw [hp]
    obtain ⟨c, hcc⟩ : ∃ c, chkE n d = c := ⟨_, rfl⟩
    simp only [hcc] at HCK hc ⊢
    have hb1 : (c == 0) = false := by rw [beq_eq_false_iff_ne]; exact hc
    have hb2 : (c != 0) = true := by rw [bne_iff_ne]; exact hc
    clear hp hc hcc HIN HID
    go_enter Tryd.func10, Tryd.ntmps10
    go_upto_region 1 with (fail)
    refine wp_opaque (fun W8 hb8 => ?_)
    have HO := Lib.hid (Own.one hb8)
    have hw8 := hb8.un1
    clear hb8
    obtain ⟨⟨z8, d8, f8⟩, -⟩ := HO.out
    go_wp2_with (go_at_call 29; go_must (refine (HCK.out _).mono ?_; rintro e w2 ⟨rfl, hb2'⟩; clear z8 d8 f8; obtain ⟨⟨z8, d8, f8⟩, -⟩ := HO.out.later hb2'))
    go_ret2
    exact ⟨rfl, by repeat (first | with_reducible exact Later.refl _ | with_reducible assumption | with_reducible refine Later.ofdrew ?_ | with_reducible refine Later.ofdrewN ?_ | with_reducible refine Later.setCell ?_ ?_ _ | with_reducible refine Later.alloc ?_ _ | with_reducible refine Later.drewN ?_ _ | with_reducible refine Later.drew ?_ | (with_reducible refine Later.trans ?_ (by assumption)) | (simp only [World.size_setCell, World.size_alloc, World.heap_drewN]; omega) | (simp; done) | (simp; omega))⟩

set_option maxHeartbeats 1600000 in
theorem rrprint_any (n d : Int) (hn : I64 n) (hd : I64 d) (w : World) :
    Calls Tryd.prog 13 #[.agg #[.int .i64 n, .int .i64 d]] w fun e w' => e = .returned (.string ⟨(textR n d).toArray⟩) ∧ Later w w' := by
  have HIN := Lib.hid (fun W => rdec_any n hn W)
  have HID := Lib.hid (fun W => rdec_any d hd W)
  have hl1 := itoa_short hn
  have hl2 := itoa_short hd
  clear hn hd
  by_cases hd1 : d = 1
  · have hb1 : (d == 1) = true := by rw [beq_iff_eq]; exact hd1
    have hb2 : (d != 1) = false := by rw [bne_eq_false_iff_eq]; exact hd1
    have HS : Hid (ByteArray.mk (Lib.itoa n).toArray = ⟨(textR n d).toArray⟩) := Lib.hid (by rw [hd1, textR_one])
    clear hd1 HID
    go_enter Tryd.func13, Tryd.ntmps13
    go_upto_region 1 with (fail)
    refine wp_opaque (fun W8 hb8 => ?_)
    have HO := Lib.hid (Own.one hb8)
    have hw8 := hb8.un1
    clear hb8
    obtain ⟨⟨z8, d8, f8⟩, -⟩ := HO.out
    go_wp2_with (go_at_call 35; go_must (refine (HIN.out _).mono ?_; rintro e w3 ⟨rfl, hb3⟩; clear z8 d8 f8; obtain ⟨⟨z8, d8, f8⟩, -⟩ := HO.out.later (show Later W8 w3 by repeat (first | with_reducible exact Later.refl _ | with_reducible assumption | with_reducible refine Later.ofdrew ?_ | with_reducible refine Later.ofdrewN ?_ | with_reducible refine Later.setCell ?_ ?_ _ | with_reducible refine Later.alloc ?_ _ | with_reducible refine Later.drewN ?_ _ | with_reducible refine Later.drew ?_ | (with_reducible refine Later.trans ?_ (by assumption)) | (simp only [World.size_setCell, World.size_alloc, World.heap_drewN]; omega) | (simp; done) | (simp; omega)))))
    go_ret
    exact ⟨ret_str HS.out, by repeat (first | with_reducible exact Later.refl _ | with_reducible assumption | with_reducible refine Later.ofdrew ?_ | with_reducible refine Later.ofdrewN ?_ | with_reducible refine Later.setCell ?_ ?_ _ | with_reducible refine Later.alloc ?_ _ | with_reducible refine Later.drewN ?_ _ | with_reducible refine Later.drew ?_ | (with_reducible refine Later.trans ?_ (by assumption)) | (simp only [World.size_setCell, World.size_alloc, World.heap_drewN]; omega) | (simp; done) | (simp; omega))⟩
  · have hb1 : (d == 1) = false := by rw [beq_eq_false_iff_ne]; exact hd1
    have hb2 : (d != 1) = true := by rw [bne_iff_ne]; exact hd1
    obtain ⟨S1, hS1⟩ : ∃ S, ByteArray.mk (Lib.itoa n).toArray = S := ⟨_, rfl⟩
    obtain ⟨S2, hS2⟩ : ∃ S, ByteArray.mk (Lib.itoa d).toArray = S := ⟨_, rfl⟩
    have HS : Hid (S1 ++ ⟨#[47]⟩ ++ S2 = ⟨(textR n d).toArray⟩) := Lib.hid (by rw [textR_two hd1, ← List.append_assoc, ← hS1, ← hS2, ← ba_app, ← ba_app])
    have hz1 : S1.size ≤ 21 := by rw [← hS1, ba_len]; exact hl1
    have hz2 : S2.size ≤ 21 := by rw [← hS2, ba_len]; exact hl2
    have hz3 : (⟨#[47]⟩ : ByteArray).size = 1 := rfl
    have hz4 : (S1 ++ ⟨#[47]⟩).size = S1.size + 1 := by rw [ByteArray.size_append]; rfl
    rw [hS1] at HIN
    rw [hS2] at HID
    have tok1 : True := trivial
    clear hd1 hS1 hS2 hl1 hl2
    go_enter Tryd.func13, Tryd.ntmps13
    go_upto_region 1 with (fail)
    refine wp_opaque (fun W8 hb8 => ?_)
    have HO := Lib.hid (Own.one hb8)
    have hw8 := hb8.un1
    clear hb8
    obtain ⟨⟨z8, d8, f8⟩, -⟩ := HO.out
    go_wp2_with (first | (go_at_call 35; clear tok1; go_must (refine (HIN.out _).mono ?_; rintro e w3 ⟨rfl, hb3⟩; clear z8 d8 f8; obtain ⟨⟨z8, d8, f8⟩, -⟩ := HO.out.later (show Later W8 w3 by repeat (first | with_reducible exact Later.refl _ | with_reducible assumption | with_reducible refine Later.ofdrew ?_ | with_reducible refine Later.ofdrewN ?_ | with_reducible refine Later.setCell ?_ ?_ _ | with_reducible refine Later.alloc ?_ _ | with_reducible refine Later.drewN ?_ _ | with_reducible refine Later.drew ?_ | (with_reducible refine Later.trans ?_ (by assumption)) | (simp only [World.size_setCell, World.size_alloc, World.heap_drewN]; omega) | (simp; done) | (simp; omega))))) | (go_at_call 35; go_must (refine (HID.out _).mono ?_; rintro e w4 ⟨rfl, hb4⟩; clear z8 d8 f8; obtain ⟨⟨z8, d8, f8⟩, -⟩ := HO.out.later (show Later W8 w4 by repeat (first | with_reducible exact Later.refl _ | with_reducible assumption | with_reducible refine Later.ofdrew ?_ | with_reducible refine Later.ofdrewN ?_ | with_reducible refine Later.setCell ?_ ?_ _ | with_reducible refine Later.alloc ?_ _ | with_reducible refine Later.drewN ?_ _ | with_reducible refine Later.drew ?_ | (with_reducible refine Later.trans ?_ (by assumption)) | (simp only [World.size_setCell, World.size_alloc, World.heap_drewN]; omega) | (simp; done) | (simp; omega))))))
    go_ret
    exact ⟨ret_str HS.out, by repeat (first | with_reducible exact Later.refl _ | with_reducible assumption | with_reducible refine Later.ofdrew ?_ | with_reducible refine Later.ofdrewN ?_ | with_reducible refine Later.setCell ?_ ?_ _ | with_reducible refine Later.alloc ?_ _ | with_reducible refine Later.drewN ?_ _ | with_reducible refine Later.drew ?_ | (with_reducible refine Later.trans ?_ (by assumption)) | (simp only [World.size_setCell, World.size_alloc, World.heap_drewN]; omega) | (simp; done) | (simp; omega))⟩
end Go.Proofs.YtckeaibamgkegaaDoor
