/- currencies: Of; the reference's Name, Digits -/
import Derived.Test.YtckeaibamgkegaaDoorCashA
set_option linter.all false
namespace Go.Proofs.YtckeaibamgkegaaDoor
open Go.RowKit
set_option maxRecDepth 100000

theorem list_beq {A B : ByteArray} : (A.toList == B.toList) = decide (A = B) := by
  rw [Bool.eq_iff_iff, beq_iff_eq, decide_eq_true_eq]
  refine ⟨fun h => ?_, fun h => by rw [h]⟩
  rw [ByteArray.toList_eq, ByteArray.toList_eq] at h
  exact ByteArray.ext (Array.toList_inj.1 h)

set_option maxHeartbeats 1600000 in
theorem idx_any (S : ByteArray) (B : Nat) (w : World) (hC : CurAt w) (hc : w.cell? ⟨B, 0, none⟩ = some (.string S)) :
    Calls Tryd.prog 44 #[.slice (some ⟨0, 0, none⟩) 8 8, .func (.func 45) #[] #[.pointer (some ⟨B, 0, none⟩)]] w fun e w' =>
      (∃ r : Int, e = .returned (.int .i64 r) ∧ ((∃ c, c < 8 ∧ r = (c : Nat) ∧ nmB c = S) ∨ (r = -1 ∧ ∀ c, c < 8 → nmB c ≠ S))) ∧ Later w w' := by
  have hz := World.block_lt_of_cell? _ _ hc
  have HOF := Lib.hid (fun (T : ByteArray) (k : Int) (b : Bool) hb W (hl : Later w W) => of1_any T S k b hb B W (((bcell hl).1 _ _ hz).trans hc))
  have HC := Lib.hid hC
  have hgz := hC.lt
  clear hC hc hz
  go_enter Tryd.func44, Tryd.ntmps44
  go_wp2
  go_loopw [8] (fun s8 wr => ∃ j : Nat, j ≤ 8 ∧ s8 = .int .i64 j ∧ Hid (∀ c, c < j → nmB c ≠ S) ∧ Later w wr) (fun s8 _ => 8 - (intOf s8).toNat)
  case atStart => exact ⟨0, Nat.zero_le _, rfl, Lib.hid (fun c h => by omega), Later.refl _⟩
  case round =>
    obtain ⟨j, hj, rfl, hall, hlat⟩ := hrel
    by_cases hlt : j < 8
    · have hI : (j : Int) < 8 := by omega
      have c1 := (HC.out.later hlat j hlt).1
      have c2 := (HC.out.later hlat j hlt).2
      have hgz2 := Nat.lt_of_lt_of_le hgz (Later.size hlat)
      by_cases he : nmB j = S
      · have HO := Lib.hid (fun W (hl : Later wr W) => HOF.out (nmB j) (dgN j) true (by rw [list_beq, he]; simp) W (hlat.trans hl))
        have HR : Hid ((∃ c, c < 8 ∧ (j : Int) = (c : Nat) ∧ nmB c = S) ∨ ((j : Int) = -1 ∧ ∀ c, c < 8 → nmB c ≠ S)) := Lib.hid (.inl ⟨j, hlt, rfl, he⟩)
        clear HOF HC he hall
        generalize nmB j = N at *
        generalize ((dgN j : Nat) : Int) = D at *
        go_wp2_with (go_at_call 45; go_must (refine (HO.out _ (by repeat (first | with_reducible exact Later.refl _ | with_reducible assumption | with_reducible refine Later.ofdrew ?_ | with_reducible refine Later.ofdrewN ?_ | with_reducible refine Later.setCell ?_ ?_ _ | with_reducible refine Later.alloc ?_ _ | with_reducible refine Later.drewN ?_ _ | with_reducible refine Later.drew ?_ | (with_reducible refine Later.trans ?_ (by assumption)) | (simp only [World.size_setCell, World.size_alloc, World.heap_drewN]; omega) | (simp; done) | (simp; omega)))).mono ?_; rintro e w3 ⟨rfl, hb3⟩))
        go_ret
        exact ⟨⟨j, rfl, HR.out⟩, by repeat (first | with_reducible exact Later.refl _ | with_reducible assumption | with_reducible refine Later.ofdrew ?_ | with_reducible refine Later.ofdrewN ?_ | with_reducible refine Later.setCell ?_ ?_ _ | with_reducible refine Later.alloc ?_ _ | with_reducible refine Later.drewN ?_ _ | with_reducible refine Later.drew ?_ | (with_reducible refine Later.trans ?_ (by assumption)) | (simp only [World.size_setCell, World.size_alloc, World.heap_drewN]; omega) | (simp; done) | (simp; omega))⟩
      · have HO := Lib.hid (fun W (hl : Later wr W) => HOF.out (nmB j) (dgN j) false (by rw [list_beq]; exact decide_eq_false he) W (hlat.trans hl))
        have HA : Hid (∀ c, c < j + 1 → nmB c ≠ S) := Lib.hid (fun c h => by
          by_cases h2 : c = j
          · subst h2; exact he
          · exact hall.out c (by omega))
        clear HOF HC he hall
        generalize nmB j = N at *
        generalize ((dgN j : Nat) : Int) = D at *
        go_wp2_with (go_at_call 45; go_must (refine (HO.out _ (by repeat (first | with_reducible exact Later.refl _ | with_reducible assumption | with_reducible refine Later.ofdrew ?_ | with_reducible refine Later.ofdrewN ?_ | with_reducible refine Later.setCell ?_ ?_ _ | with_reducible refine Later.alloc ?_ _ | with_reducible refine Later.drewN ?_ _ | with_reducible refine Later.drew ?_ | (with_reducible refine Later.trans ?_ (by assumption)) | (simp only [World.size_setCell, World.size_alloc, World.heap_drewN]; omega) | (simp; done) | (simp; omega)))).mono ?_; rintro e w3 ⟨rfl, hb3⟩))
        go_roundw
        case rel => exact ⟨j + 1, by omega, by go_num, HA, by repeat (first | with_reducible exact Later.refl _ | with_reducible assumption | with_reducible refine Later.ofdrew ?_ | with_reducible refine Later.ofdrewN ?_ | with_reducible refine Later.setCell ?_ ?_ _ | with_reducible refine Later.alloc ?_ _ | with_reducible refine Later.drewN ?_ _ | with_reducible refine Later.drew ?_ | (with_reducible refine Later.trans ?_ (by assumption)) | (simp only [World.size_setCell, World.size_alloc, World.heap_drewN]; omega) | (simp; done) | (simp; omega))⟩
        case measure => simp [intOf]; omega
    · have hj8 : j = 8 := by omega
      subst hj8
      clear HOF HC
      go_wp2
      go_ret
      exact ⟨⟨-1, rfl, .inr ⟨rfl, hall.out⟩⟩, hlat⟩

set_option maxHeartbeats 1600000 in
theorem of_cur (S : ByteArray) (w : World) (hC : CurAt w) :
    Calls Tryd.prog 23 #[.string S] w fun e w' => (∃ r er : Int, e = .returned (.tuple #[.int .i64 r, .int .i64 er]) ∧ ((∃ c, c < 8 ∧ r = (c : Nat) ∧ er = 0 ∧ nmB c = S) ∨ (r = 0 ∧ er = 16 ∧ ∀ c, c < 8 → nmB c ≠ S))) ∧ Later w w' := by
  have hmf : ∀ (fn : Fn) (first cap : Array Value) (w : World), (Instr.makeFunc fn first cap).run Tryd.prog w = .ok (.func fn first cap) w := fun _ _ _ _ => rfl
  have HX := Lib.hid (fun B W (hl : Later w W) hc => idx_any S B W (hC.later hl) hc)
  have hgz := hC.lt
  clear hC
  go_enter Tryd.func23, Tryd.ntmps23
  go_upto_region 1 with (fail)
  refine wp_opaque (fun W8 hb8 => ?_)
  have hO := Own.one hb8
  have hw8 := hb8.un1
  clear hb8
  obtain ⟨⟨z8, d8, f8⟩, -⟩ := hO
  have HX8 := Lib.hid (HX.out _ W8 hw8 (d8 0))
  clear HX
  go_upto_region 2 with (go_at_call 44; go_must (refine HX8.out.mono ?_; rintro e w3 ⟨⟨r, rfl, hr⟩, hb3⟩; have HR := Lib.hid hr; clear hr))
  rcases HR.out with ⟨c, hc, rfl, he⟩ | ⟨rfl, hno⟩
  · have h0 : ¬ ((c : Int) < 0) := by omega
    have HE := Lib.hid he
    clear HR he
    go_wp2
    go_ret2
    exact ⟨⟨_, _, rfl, .inl ⟨c, hc, rfl, rfl, HE.out⟩⟩, by repeat (first | with_reducible exact Later.refl _ | with_reducible assumption | with_reducible refine Later.ofdrew ?_ | with_reducible refine Later.ofdrewN ?_ | with_reducible refine Later.setCell ?_ ?_ _ | with_reducible refine Later.alloc ?_ _ | with_reducible refine Later.drewN ?_ _ | with_reducible refine Later.drew ?_ | (with_reducible refine Later.trans ?_ (by assumption)) | (simp only [World.size_setCell, World.size_alloc, World.heap_drewN]; omega) | (simp; done) | (simp; omega))⟩
  · have HE := Lib.hid hno
    clear HR hno
    go_wp2
    go_ret2
    exact ⟨⟨_, _, rfl, .inr ⟨rfl, rfl, HE.out⟩⟩, by repeat (first | with_reducible exact Later.refl _ | with_reducible assumption | with_reducible refine Later.ofdrew ?_ | with_reducible refine Later.ofdrewN ?_ | with_reducible refine Later.setCell ?_ ?_ _ | with_reducible refine Later.alloc ?_ _ | with_reducible refine Later.drewN ?_ _ | with_reducible refine Later.drew ?_ | (with_reducible refine Later.trans ?_ (by assumption)) | (simp only [World.size_setCell, World.size_alloc, World.heap_drewN]; omega) | (simp; done) | (simp; omega))⟩
end Go.Proofs.YtckeaibamgkegaaDoor
