/- reference of term: fields -/
import Derived.Test.YtkjabiabeemfhaaGreatDoorV9
import Derived.Test.YtkjabiabeemfhaaGreatDoorV12
set_option linter.all false
set_option linter.all false
section
namespace Go.Proofs.YtkjabiabeemfhaaGreatDoor
open Go.RowKit
set_option maxRecDepth 100000
theorem within_zero (b : Int) : withinB b 0 = (b == 0) := by
  unfold withinB
  by_cases h : b = 0
  · subst h; rfl
  · have h1 : (b == 0) = false := by simpa using h
    rw [h1]
    by_cases h2 : 0 ≤ b
    · have h3 : decide (b ≤ 0) = false := by simp; omega
      rw [h3, Bool.and_false]
    · have h3 : decide (0 ≤ b) = false := by simp; omega
      rw [h3, Bool.false_and]
def RF (op a b n d : Int) (w : World) (r : Bool) : Prop :=
  Calls Tryz.prog 113 #[.agg #[.int .i64 op, .int .i64 a, .int .i64 b, .int .i64 n, .int .i64 d]] w fun e w' => e = .returned (.bool r) ∧ Later w w'
set_option maxHeartbeats 1600000 in
theorem rfields_1 (a b n d : Int) (w : World) (h1 : -9223372036854775808 ≤ n) (h2 : n ≤ 9223372036854775807) (h3 : -9223372036854775808 ≤ d) (h4 : d ≤ 9223372036854775807) : RF 1 a b n d w (a == 0 && b == 0 && chkE n d == 0) := by
  by_cases hn : n = 0
  · subst hn
    by_cases hd : d = 0
    · subst hd
      by_cases ha : a = 0
      · subst ha
        by_cases hb : b = 0
        · subst hb
          have HC := Lib.hid (fun W => qcheck_any 0 0 W (by omega) (by omega) (by omega) (by omega))
          obtain ⟨ck, hck⟩ : ∃ c, chkE 0 0 = c := ⟨_, rfl⟩
          rw [hck] at HC ⊢
          clear hck h1 h2 h3 h4
          by_cases h0 : ck = 0
          · subst h0
            show RF 1 0 0 0 0 w true
            unfold RF
            go_enter Tryz.func113, Tryz.ntmps113
            go_wp2_with (go_at_call 98; go_must (refine (HC.out _).mono ?_; rintro e w1 ⟨rfl, hb1⟩))
            go_ret
            exact ⟨rfl, Later.trans (by repeat (first | with_reducible exact Later.refl _ | with_reducible assumption | with_reducible refine Later.ofdrew ?_ | with_reducible refine Later.ofdrewN ?_ | with_reducible refine Later.setCell ?_ ?_ _ | with_reducible refine Later.alloc ?_ _ | with_reducible refine Later.drewN ?_ _ | with_reducible refine Later.drew ?_ | (with_reducible refine Later.trans ?_ (by assumption)) | (simp only [World.size_setCell, World.size_alloc, World.heap_drewN]; omega) | (simp; done) | (simp; omega))) hb1⟩
          · have h1 : (ck == 0) = false := by simpa using h0
            rw [h1]
            show RF 1 0 0 0 0 w false
            clear h0
            unfold RF
            go_enter Tryz.func113, Tryz.ntmps113
            go_wp2_with (go_at_call 98; go_must (refine (HC.out _).mono ?_; rintro e w1 ⟨rfl, hb1⟩))
            go_ret
            exact ⟨rfl, Later.trans (by repeat (first | with_reducible exact Later.refl _ | with_reducible assumption | with_reducible refine Later.ofdrew ?_ | with_reducible refine Later.ofdrewN ?_ | with_reducible refine Later.setCell ?_ ?_ _ | with_reducible refine Later.alloc ?_ _ | with_reducible refine Later.drewN ?_ _ | with_reducible refine Later.drew ?_ | (with_reducible refine Later.trans ?_ (by assumption)) | (simp only [World.size_setCell, World.size_alloc, World.heap_drewN]; omega) | (simp; done) | (simp; omega))) hb1⟩
        · skip
          have h0 : (b == 0) = false := by simpa using hb
          rw [h0]
          show RF 1 0 b 0 0 w false
          clear hb h1 h2 h3 h4
          unfold RF
          go_enter Tryz.func113, Tryz.ntmps113
          go_wp2
          go_ret
          exact ⟨rfl, by repeat (first | with_reducible exact Later.refl _ | with_reducible assumption | with_reducible refine Later.ofdrew ?_ | with_reducible refine Later.ofdrewN ?_ | with_reducible refine Later.setCell ?_ ?_ _ | with_reducible refine Later.alloc ?_ _ | with_reducible refine Later.drewN ?_ _ | with_reducible refine Later.drew ?_ | (with_reducible refine Later.trans ?_ (by assumption)) | (simp only [World.size_setCell, World.size_alloc, World.heap_drewN]; omega) | (simp; done) | (simp; omega))⟩
      · skip
        have h0 : (a == 0) = false := by simpa using ha
        rw [h0]
        show RF 1 a b 0 0 w false
        clear ha h1 h2 h3 h4
        unfold RF
        go_enter Tryz.func113, Tryz.ntmps113
        go_wp2
        go_ret
        exact ⟨rfl, by repeat (first | with_reducible exact Later.refl _ | with_reducible assumption | with_reducible refine Later.ofdrew ?_ | with_reducible refine Later.ofdrewN ?_ | with_reducible refine Later.setCell ?_ ?_ _ | with_reducible refine Later.alloc ?_ _ | with_reducible refine Later.drewN ?_ _ | with_reducible refine Later.drew ?_ | (with_reducible refine Later.trans ?_ (by assumption)) | (simp only [World.size_setCell, World.size_alloc, World.heap_drewN]; omega) | (simp; done) | (simp; omega))⟩
    · have hd0 : (d == 0) = false := by simpa using hd
      clear hd
      by_cases ha : a = 0
      · subst ha
        by_cases hb : b = 0
        · subst hb
          have HC := Lib.hid (fun W => qcheck_any 0 d W (by omega) (by omega) (by omega) (by omega))
          obtain ⟨ck, hck⟩ : ∃ c, chkE 0 d = c := ⟨_, rfl⟩
          rw [hck] at HC ⊢
          clear hck h1 h2 h3 h4
          by_cases h0 : ck = 0
          · subst h0
            show RF 1 0 0 0 d w true
            unfold RF
            go_enter Tryz.func113, Tryz.ntmps113
            go_wp2_with (go_at_call 98; go_must (refine (HC.out _).mono ?_; rintro e w1 ⟨rfl, hb1⟩))
            go_ret
            exact ⟨rfl, Later.trans (by repeat (first | with_reducible exact Later.refl _ | with_reducible assumption | with_reducible refine Later.ofdrew ?_ | with_reducible refine Later.ofdrewN ?_ | with_reducible refine Later.setCell ?_ ?_ _ | with_reducible refine Later.alloc ?_ _ | with_reducible refine Later.drewN ?_ _ | with_reducible refine Later.drew ?_ | (with_reducible refine Later.trans ?_ (by assumption)) | (simp only [World.size_setCell, World.size_alloc, World.heap_drewN]; omega) | (simp; done) | (simp; omega))) hb1⟩
          · have h1 : (ck == 0) = false := by simpa using h0
            rw [h1]
            show RF 1 0 0 0 d w false
            clear h0
            unfold RF
            go_enter Tryz.func113, Tryz.ntmps113
            go_wp2_with (go_at_call 98; go_must (refine (HC.out _).mono ?_; rintro e w1 ⟨rfl, hb1⟩))
            go_ret
            exact ⟨rfl, Later.trans (by repeat (first | with_reducible exact Later.refl _ | with_reducible assumption | with_reducible refine Later.ofdrew ?_ | with_reducible refine Later.ofdrewN ?_ | with_reducible refine Later.setCell ?_ ?_ _ | with_reducible refine Later.alloc ?_ _ | with_reducible refine Later.drewN ?_ _ | with_reducible refine Later.drew ?_ | (with_reducible refine Later.trans ?_ (by assumption)) | (simp only [World.size_setCell, World.size_alloc, World.heap_drewN]; omega) | (simp; done) | (simp; omega))) hb1⟩
        · skip
          have h0 : (b == 0) = false := by simpa using hb
          rw [h0]
          show RF 1 0 b 0 d w false
          clear hb h1 h2 h3 h4
          unfold RF
          go_enter Tryz.func113, Tryz.ntmps113
          go_wp2
          go_ret
          exact ⟨rfl, by repeat (first | with_reducible exact Later.refl _ | with_reducible assumption | with_reducible refine Later.ofdrew ?_ | with_reducible refine Later.ofdrewN ?_ | with_reducible refine Later.setCell ?_ ?_ _ | with_reducible refine Later.alloc ?_ _ | with_reducible refine Later.drewN ?_ _ | with_reducible refine Later.drew ?_ | (with_reducible refine Later.trans ?_ (by assumption)) | (simp only [World.size_setCell, World.size_alloc, World.heap_drewN]; omega) | (simp; done) | (simp; omega))⟩
      · skip
        have h0 : (a == 0) = false := by simpa using ha
        rw [h0]
        show RF 1 a b 0 d w false
        clear ha h1 h2 h3 h4
        unfold RF
        go_enter Tryz.func113, Tryz.ntmps113
        go_wp2
        go_ret
        exact ⟨rfl, by repeat (first | with_reducible exact Later.refl _ | with_reducible assumption | with_reducible refine Later.ofdrew ?_ | with_reducible refine Later.ofdrewN ?_ | with_reducible refine Later.setCell ?_ ?_ _ | with_reducible refine Later.alloc ?_ _ | with_reducible refine Later.drewN ?_ _ | with_reducible refine Later.drew ?_ | (with_reducible refine Later.trans ?_ (by assumption)) | (simp only [World.size_setCell, World.size_alloc, World.heap_drewN]; omega) | (simp; done) | (simp; omega))⟩
  · have hn0 : (n == 0) = false := by simpa using hn
    clear hn
    by_cases ha : a = 0
    · subst ha
      by_cases hb : b = 0
      · subst hb
        have HC := Lib.hid (fun W => qcheck_any n d W (by omega) (by omega) (by omega) (by omega))
        obtain ⟨ck, hck⟩ : ∃ c, chkE n d = c := ⟨_, rfl⟩
        rw [hck] at HC ⊢
        clear hck h1 h2 h3 h4
        by_cases h0 : ck = 0
        · subst h0
          show RF 1 0 0 n d w true
          unfold RF
          go_enter Tryz.func113, Tryz.ntmps113
          go_wp2_with (go_at_call 98; go_must (refine (HC.out _).mono ?_; rintro e w1 ⟨rfl, hb1⟩))
          go_ret
          exact ⟨rfl, Later.trans (by repeat (first | with_reducible exact Later.refl _ | with_reducible assumption | with_reducible refine Later.ofdrew ?_ | with_reducible refine Later.ofdrewN ?_ | with_reducible refine Later.setCell ?_ ?_ _ | with_reducible refine Later.alloc ?_ _ | with_reducible refine Later.drewN ?_ _ | with_reducible refine Later.drew ?_ | (with_reducible refine Later.trans ?_ (by assumption)) | (simp only [World.size_setCell, World.size_alloc, World.heap_drewN]; omega) | (simp; done) | (simp; omega))) hb1⟩
        · have h1 : (ck == 0) = false := by simpa using h0
          rw [h1]
          show RF 1 0 0 n d w false
          clear h0
          unfold RF
          go_enter Tryz.func113, Tryz.ntmps113
          go_wp2_with (go_at_call 98; go_must (refine (HC.out _).mono ?_; rintro e w1 ⟨rfl, hb1⟩))
          go_ret
          exact ⟨rfl, Later.trans (by repeat (first | with_reducible exact Later.refl _ | with_reducible assumption | with_reducible refine Later.ofdrew ?_ | with_reducible refine Later.ofdrewN ?_ | with_reducible refine Later.setCell ?_ ?_ _ | with_reducible refine Later.alloc ?_ _ | with_reducible refine Later.drewN ?_ _ | with_reducible refine Later.drew ?_ | (with_reducible refine Later.trans ?_ (by assumption)) | (simp only [World.size_setCell, World.size_alloc, World.heap_drewN]; omega) | (simp; done) | (simp; omega))) hb1⟩
      · skip
        have h0 : (b == 0) = false := by simpa using hb
        rw [h0]
        show RF 1 0 b n d w false
        clear hb h1 h2 h3 h4
        unfold RF
        go_enter Tryz.func113, Tryz.ntmps113
        go_wp2
        go_ret
        exact ⟨rfl, by repeat (first | with_reducible exact Later.refl _ | with_reducible assumption | with_reducible refine Later.ofdrew ?_ | with_reducible refine Later.ofdrewN ?_ | with_reducible refine Later.setCell ?_ ?_ _ | with_reducible refine Later.alloc ?_ _ | with_reducible refine Later.drewN ?_ _ | with_reducible refine Later.drew ?_ | (with_reducible refine Later.trans ?_ (by assumption)) | (simp only [World.size_setCell, World.size_alloc, World.heap_drewN]; omega) | (simp; done) | (simp; omega))⟩
    · skip
      have h0 : (a == 0) = false := by simpa using ha
      rw [h0]
      show RF 1 a b n d w false
      clear ha h1 h2 h3 h4
      unfold RF
      go_enter Tryz.func113, Tryz.ntmps113
      go_wp2
      go_ret
      exact ⟨rfl, by repeat (first | with_reducible exact Later.refl _ | with_reducible assumption | with_reducible refine Later.ofdrew ?_ | with_reducible refine Later.ofdrewN ?_ | with_reducible refine Later.setCell ?_ ?_ _ | with_reducible refine Later.alloc ?_ _ | with_reducible refine Later.drewN ?_ _ | with_reducible refine Later.drew ?_ | (with_reducible refine Later.trans ?_ (by assumption)) | (simp only [World.size_setCell, World.size_alloc, World.heap_drewN]; omega) | (simp; done) | (simp; omega))⟩
set_option maxHeartbeats 1600000 in
theorem rfields_2 (a b n d : Int)  (w : World) : RF 2 a b n d w ((n == 0 && d == 0) && withinB a 63 && (b == 0)) := by
  by_cases hn : n = 0
  · subst hn
    by_cases hd : d = 0
    · subst hd
      cases ha : withinB a 63
      · have HA := Lib.hid (fun W => (ha ▸ within_any a 63 W : Calls Tryz.prog 162 #[.int .i64 a, .int .i64 63] W fun e w' => e = .returned (.bool false) ∧ W = w'))
        clear ha
        show RF 2 a b 0 0 w false
        unfold RF
        go_enter Tryz.func113, Tryz.ntmps113
        go_wp2_with (go_at_call 162; go_must (refine (HA.out _).mono ?_; rintro e w1 ⟨rfl, rfl⟩))
        go_ret
        exact ⟨rfl, by repeat (first | with_reducible exact Later.refl _ | with_reducible assumption | with_reducible refine Later.ofdrew ?_ | with_reducible refine Later.ofdrewN ?_ | with_reducible refine Later.setCell ?_ ?_ _ | with_reducible refine Later.alloc ?_ _ | with_reducible refine Later.drewN ?_ _ | with_reducible refine Later.drew ?_ | (with_reducible refine Later.trans ?_ (by assumption)) | (simp only [World.size_setCell, World.size_alloc, World.heap_drewN]; omega) | (simp; done) | (simp; omega))⟩
      · have HA := Lib.hid (fun W => (ha ▸ within_any a 63 W : Calls Tryz.prog 162 #[.int .i64 a, .int .i64 63] W fun e w' => e = .returned (.bool true) ∧ W = w'))
        clear ha
        by_cases hb : b = 0
        · subst hb
          show RF 2 a 0 0 0 w true
          unfold RF
          go_enter Tryz.func113, Tryz.ntmps113
          go_wp2_with (go_at_call 162; go_must (refine (HA.out _).mono ?_; rintro e w1 ⟨rfl, rfl⟩))
          go_ret
          exact ⟨rfl, by repeat (first | with_reducible exact Later.refl _ | with_reducible assumption | with_reducible refine Later.ofdrew ?_ | with_reducible refine Later.ofdrewN ?_ | with_reducible refine Later.setCell ?_ ?_ _ | with_reducible refine Later.alloc ?_ _ | with_reducible refine Later.drewN ?_ _ | with_reducible refine Later.drew ?_ | (with_reducible refine Later.trans ?_ (by assumption)) | (simp only [World.size_setCell, World.size_alloc, World.heap_drewN]; omega) | (simp; done) | (simp; omega))⟩
        · have h0 : (b == 0) = false := by simpa using hb
          rw [h0]
          show RF 2 a b 0 0 w false
          clear hb
          unfold RF
          go_enter Tryz.func113, Tryz.ntmps113
          go_wp2_with (go_at_call 162; go_must (refine (HA.out _).mono ?_; rintro e w1 ⟨rfl, rfl⟩))
          go_ret
          exact ⟨rfl, by repeat (first | with_reducible exact Later.refl _ | with_reducible assumption | with_reducible refine Later.ofdrew ?_ | with_reducible refine Later.ofdrewN ?_ | with_reducible refine Later.setCell ?_ ?_ _ | with_reducible refine Later.alloc ?_ _ | with_reducible refine Later.drewN ?_ _ | with_reducible refine Later.drew ?_ | (with_reducible refine Later.trans ?_ (by assumption)) | (simp only [World.size_setCell, World.size_alloc, World.heap_drewN]; omega) | (simp; done) | (simp; omega))⟩
    · have h0 : (d == 0) = false := by simpa using hd
      rw [h0]
      show RF 2 a b 0 d w false
      clear hd
      unfold RF
      go_enter Tryz.func113, Tryz.ntmps113
      go_wp2
      go_ret
      exact ⟨rfl, by repeat (first | with_reducible exact Later.refl _ | with_reducible assumption | with_reducible refine Later.ofdrew ?_ | with_reducible refine Later.ofdrewN ?_ | with_reducible refine Later.setCell ?_ ?_ _ | with_reducible refine Later.alloc ?_ _ | with_reducible refine Later.drewN ?_ _ | with_reducible refine Later.drew ?_ | (with_reducible refine Later.trans ?_ (by assumption)) | (simp only [World.size_setCell, World.size_alloc, World.heap_drewN]; omega) | (simp; done) | (simp; omega))⟩
  · have h0 : (n == 0) = false := by simpa using hn
    rw [h0]
    show RF 2 a b n d w false
    clear hn
    unfold RF
    go_enter Tryz.func113, Tryz.ntmps113
    go_wp2
    go_ret
    exact ⟨rfl, by repeat (first | with_reducible exact Later.refl _ | with_reducible assumption | with_reducible refine Later.ofdrew ?_ | with_reducible refine Later.ofdrewN ?_ | with_reducible refine Later.setCell ?_ ?_ _ | with_reducible refine Later.alloc ?_ _ | with_reducible refine Later.drewN ?_ _ | with_reducible refine Later.drew ?_ | (with_reducible refine Later.trans ?_ (by assumption)) | (simp only [World.size_setCell, World.size_alloc, World.heap_drewN]; omega) | (simp; done) | (simp; omega))⟩
set_option maxHeartbeats 1600000 in
theorem rfields_16 (a b n d : Int)  (w : World) : RF 16 a b n d w ((n == 0 && d == 0) && withinB a 63 && (b == 0)) := by
  by_cases hn : n = 0
  · subst hn
    by_cases hd : d = 0
    · subst hd
      cases ha : withinB a 63
      · have HA := Lib.hid (fun W => (ha ▸ within_any a 63 W : Calls Tryz.prog 162 #[.int .i64 a, .int .i64 63] W fun e w' => e = .returned (.bool false) ∧ W = w'))
        clear ha
        show RF 16 a b 0 0 w false
        unfold RF
        go_enter Tryz.func113, Tryz.ntmps113
        go_wp2_with (go_at_call 162; go_must (refine (HA.out _).mono ?_; rintro e w1 ⟨rfl, rfl⟩))
        go_ret
        exact ⟨rfl, by repeat (first | with_reducible exact Later.refl _ | with_reducible assumption | with_reducible refine Later.ofdrew ?_ | with_reducible refine Later.ofdrewN ?_ | with_reducible refine Later.setCell ?_ ?_ _ | with_reducible refine Later.alloc ?_ _ | with_reducible refine Later.drewN ?_ _ | with_reducible refine Later.drew ?_ | (with_reducible refine Later.trans ?_ (by assumption)) | (simp only [World.size_setCell, World.size_alloc, World.heap_drewN]; omega) | (simp; done) | (simp; omega))⟩
      · have HA := Lib.hid (fun W => (ha ▸ within_any a 63 W : Calls Tryz.prog 162 #[.int .i64 a, .int .i64 63] W fun e w' => e = .returned (.bool true) ∧ W = w'))
        clear ha
        by_cases hb : b = 0
        · subst hb
          show RF 16 a 0 0 0 w true
          unfold RF
          go_enter Tryz.func113, Tryz.ntmps113
          go_wp2_with (go_at_call 162; go_must (refine (HA.out _).mono ?_; rintro e w1 ⟨rfl, rfl⟩))
          go_ret
          exact ⟨rfl, by repeat (first | with_reducible exact Later.refl _ | with_reducible assumption | with_reducible refine Later.ofdrew ?_ | with_reducible refine Later.ofdrewN ?_ | with_reducible refine Later.setCell ?_ ?_ _ | with_reducible refine Later.alloc ?_ _ | with_reducible refine Later.drewN ?_ _ | with_reducible refine Later.drew ?_ | (with_reducible refine Later.trans ?_ (by assumption)) | (simp only [World.size_setCell, World.size_alloc, World.heap_drewN]; omega) | (simp; done) | (simp; omega))⟩
        · have h0 : (b == 0) = false := by simpa using hb
          rw [h0]
          show RF 16 a b 0 0 w false
          clear hb
          unfold RF
          go_enter Tryz.func113, Tryz.ntmps113
          go_wp2_with (go_at_call 162; go_must (refine (HA.out _).mono ?_; rintro e w1 ⟨rfl, rfl⟩))
          go_ret
          exact ⟨rfl, by repeat (first | with_reducible exact Later.refl _ | with_reducible assumption | with_reducible refine Later.ofdrew ?_ | with_reducible refine Later.ofdrewN ?_ | with_reducible refine Later.setCell ?_ ?_ _ | with_reducible refine Later.alloc ?_ _ | with_reducible refine Later.drewN ?_ _ | with_reducible refine Later.drew ?_ | (with_reducible refine Later.trans ?_ (by assumption)) | (simp only [World.size_setCell, World.size_alloc, World.heap_drewN]; omega) | (simp; done) | (simp; omega))⟩
    · have h0 : (d == 0) = false := by simpa using hd
      rw [h0]
      show RF 16 a b 0 d w false
      clear hd
      unfold RF
      go_enter Tryz.func113, Tryz.ntmps113
      go_wp2
      go_ret
      exact ⟨rfl, by repeat (first | with_reducible exact Later.refl _ | with_reducible assumption | with_reducible refine Later.ofdrew ?_ | with_reducible refine Later.ofdrewN ?_ | with_reducible refine Later.setCell ?_ ?_ _ | with_reducible refine Later.alloc ?_ _ | with_reducible refine Later.drewN ?_ _ | with_reducible refine Later.drew ?_ | (with_reducible refine Later.trans ?_ (by assumption)) | (simp only [World.size_setCell, World.size_alloc, World.heap_drewN]; omega) | (simp; done) | (simp; omega))⟩
  · have h0 : (n == 0) = false := by simpa using hn
    rw [h0]
    show RF 16 a b n d w false
    clear hn
    unfold RF
    go_enter Tryz.func113, Tryz.ntmps113
    go_wp2
    go_ret
    exact ⟨rfl, by repeat (first | with_reducible exact Later.refl _ | with_reducible assumption | with_reducible refine Later.ofdrew ?_ | with_reducible refine Later.ofdrewN ?_ | with_reducible refine Later.setCell ?_ ?_ _ | with_reducible refine Later.alloc ?_ _ | with_reducible refine Later.drewN ?_ _ | with_reducible refine Later.drew ?_ | (with_reducible refine Later.trans ?_ (by assumption)) | (simp only [World.size_setCell, World.size_alloc, World.heap_drewN]; omega) | (simp; done) | (simp; omega))⟩
set_option maxHeartbeats 1600000 in
theorem rfields_10 (a b n d : Int)  (w : World) : RF 10 a b n d w ((n == 0 && d == 0) && withinB a 7 && (b == 0)) := by
  by_cases hn : n = 0
  · subst hn
    by_cases hd : d = 0
    · subst hd
      cases ha : withinB a 7
      · have HA := Lib.hid (fun W => (ha ▸ within_any a 7 W : Calls Tryz.prog 162 #[.int .i64 a, .int .i64 7] W fun e w' => e = .returned (.bool false) ∧ W = w'))
        clear ha
        show RF 10 a b 0 0 w false
        unfold RF
        go_enter Tryz.func113, Tryz.ntmps113
        go_wp2_with (go_at_call 162; go_must (refine (HA.out _).mono ?_; rintro e w1 ⟨rfl, rfl⟩))
        go_ret
        exact ⟨rfl, by repeat (first | with_reducible exact Later.refl _ | with_reducible assumption | with_reducible refine Later.ofdrew ?_ | with_reducible refine Later.ofdrewN ?_ | with_reducible refine Later.setCell ?_ ?_ _ | with_reducible refine Later.alloc ?_ _ | with_reducible refine Later.drewN ?_ _ | with_reducible refine Later.drew ?_ | (with_reducible refine Later.trans ?_ (by assumption)) | (simp only [World.size_setCell, World.size_alloc, World.heap_drewN]; omega) | (simp; done) | (simp; omega))⟩
      · have HA := Lib.hid (fun W => (ha ▸ within_any a 7 W : Calls Tryz.prog 162 #[.int .i64 a, .int .i64 7] W fun e w' => e = .returned (.bool true) ∧ W = w'))
        clear ha
        by_cases hb : b = 0
        · subst hb
          show RF 10 a 0 0 0 w true
          unfold RF
          go_enter Tryz.func113, Tryz.ntmps113
          go_wp2_with (go_at_call 162; go_must (refine (HA.out _).mono ?_; rintro e w1 ⟨rfl, rfl⟩))
          go_ret
          exact ⟨rfl, by repeat (first | with_reducible exact Later.refl _ | with_reducible assumption | with_reducible refine Later.ofdrew ?_ | with_reducible refine Later.ofdrewN ?_ | with_reducible refine Later.setCell ?_ ?_ _ | with_reducible refine Later.alloc ?_ _ | with_reducible refine Later.drewN ?_ _ | with_reducible refine Later.drew ?_ | (with_reducible refine Later.trans ?_ (by assumption)) | (simp only [World.size_setCell, World.size_alloc, World.heap_drewN]; omega) | (simp; done) | (simp; omega))⟩
        · have h0 : (b == 0) = false := by simpa using hb
          rw [h0]
          show RF 10 a b 0 0 w false
          clear hb
          unfold RF
          go_enter Tryz.func113, Tryz.ntmps113
          go_wp2_with (go_at_call 162; go_must (refine (HA.out _).mono ?_; rintro e w1 ⟨rfl, rfl⟩))
          go_ret
          exact ⟨rfl, by repeat (first | with_reducible exact Later.refl _ | with_reducible assumption | with_reducible refine Later.ofdrew ?_ | with_reducible refine Later.ofdrewN ?_ | with_reducible refine Later.setCell ?_ ?_ _ | with_reducible refine Later.alloc ?_ _ | with_reducible refine Later.drewN ?_ _ | with_reducible refine Later.drew ?_ | (with_reducible refine Later.trans ?_ (by assumption)) | (simp only [World.size_setCell, World.size_alloc, World.heap_drewN]; omega) | (simp; done) | (simp; omega))⟩
    · have h0 : (d == 0) = false := by simpa using hd
      rw [h0]
      show RF 10 a b 0 d w false
      clear hd
      unfold RF
      go_enter Tryz.func113, Tryz.ntmps113
      go_wp2
      go_ret
      exact ⟨rfl, by repeat (first | with_reducible exact Later.refl _ | with_reducible assumption | with_reducible refine Later.ofdrew ?_ | with_reducible refine Later.ofdrewN ?_ | with_reducible refine Later.setCell ?_ ?_ _ | with_reducible refine Later.alloc ?_ _ | with_reducible refine Later.drewN ?_ _ | with_reducible refine Later.drew ?_ | (with_reducible refine Later.trans ?_ (by assumption)) | (simp only [World.size_setCell, World.size_alloc, World.heap_drewN]; omega) | (simp; done) | (simp; omega))⟩
  · have h0 : (n == 0) = false := by simpa using hn
    rw [h0]
    show RF 10 a b n d w false
    clear hn
    unfold RF
    go_enter Tryz.func113, Tryz.ntmps113
    go_wp2
    go_ret
    exact ⟨rfl, by repeat (first | with_reducible exact Later.refl _ | with_reducible assumption | with_reducible refine Later.ofdrew ?_ | with_reducible refine Later.ofdrewN ?_ | with_reducible refine Later.setCell ?_ ?_ _ | with_reducible refine Later.alloc ?_ _ | with_reducible refine Later.drewN ?_ _ | with_reducible refine Later.drew ?_ | (with_reducible refine Later.trans ?_ (by assumption)) | (simp only [World.size_setCell, World.size_alloc, World.heap_drewN]; omega) | (simp; done) | (simp; omega))⟩
set_option maxHeartbeats 1600000 in
theorem rfields_14 (a b n d : Int)  (w : World) : RF 14 a b n d w ((n == 0 && d == 0) && withinB a 73048 && (b == 0)) := by
  by_cases hn : n = 0
  · subst hn
    by_cases hd : d = 0
    · subst hd
      cases ha : withinB a 73048
      · have HA := Lib.hid (fun W => (ha ▸ within_any a 73048 W : Calls Tryz.prog 162 #[.int .i64 a, .int .i64 73048] W fun e w' => e = .returned (.bool false) ∧ W = w'))
        clear ha
        show RF 14 a b 0 0 w false
        unfold RF
        go_enter Tryz.func113, Tryz.ntmps113
        go_wp2_with (go_at_call 162; go_must (refine (HA.out _).mono ?_; rintro e w1 ⟨rfl, rfl⟩))
        go_ret
        exact ⟨rfl, by repeat (first | with_reducible exact Later.refl _ | with_reducible assumption | with_reducible refine Later.ofdrew ?_ | with_reducible refine Later.ofdrewN ?_ | with_reducible refine Later.setCell ?_ ?_ _ | with_reducible refine Later.alloc ?_ _ | with_reducible refine Later.drewN ?_ _ | with_reducible refine Later.drew ?_ | (with_reducible refine Later.trans ?_ (by assumption)) | (simp only [World.size_setCell, World.size_alloc, World.heap_drewN]; omega) | (simp; done) | (simp; omega))⟩
      · have HA := Lib.hid (fun W => (ha ▸ within_any a 73048 W : Calls Tryz.prog 162 #[.int .i64 a, .int .i64 73048] W fun e w' => e = .returned (.bool true) ∧ W = w'))
        clear ha
        by_cases hb : b = 0
        · subst hb
          show RF 14 a 0 0 0 w true
          unfold RF
          go_enter Tryz.func113, Tryz.ntmps113
          go_wp2_with (go_at_call 162; go_must (refine (HA.out _).mono ?_; rintro e w1 ⟨rfl, rfl⟩))
          go_ret
          exact ⟨rfl, by repeat (first | with_reducible exact Later.refl _ | with_reducible assumption | with_reducible refine Later.ofdrew ?_ | with_reducible refine Later.ofdrewN ?_ | with_reducible refine Later.setCell ?_ ?_ _ | with_reducible refine Later.alloc ?_ _ | with_reducible refine Later.drewN ?_ _ | with_reducible refine Later.drew ?_ | (with_reducible refine Later.trans ?_ (by assumption)) | (simp only [World.size_setCell, World.size_alloc, World.heap_drewN]; omega) | (simp; done) | (simp; omega))⟩
        · have h0 : (b == 0) = false := by simpa using hb
          rw [h0]
          show RF 14 a b 0 0 w false
          clear hb
          unfold RF
          go_enter Tryz.func113, Tryz.ntmps113
          go_wp2_with (go_at_call 162; go_must (refine (HA.out _).mono ?_; rintro e w1 ⟨rfl, rfl⟩))
          go_ret
          exact ⟨rfl, by repeat (first | with_reducible exact Later.refl _ | with_reducible assumption | with_reducible refine Later.ofdrew ?_ | with_reducible refine Later.ofdrewN ?_ | with_reducible refine Later.setCell ?_ ?_ _ | with_reducible refine Later.alloc ?_ _ | with_reducible refine Later.drewN ?_ _ | with_reducible refine Later.drew ?_ | (with_reducible refine Later.trans ?_ (by assumption)) | (simp only [World.size_setCell, World.size_alloc, World.heap_drewN]; omega) | (simp; done) | (simp; omega))⟩
    · have h0 : (d == 0) = false := by simpa using hd
      rw [h0]
      show RF 14 a b 0 d w false
      clear hd
      unfold RF
      go_enter Tryz.func113, Tryz.ntmps113
      go_wp2
      go_ret
      exact ⟨rfl, by repeat (first | with_reducible exact Later.refl _ | with_reducible assumption | with_reducible refine Later.ofdrew ?_ | with_reducible refine Later.ofdrewN ?_ | with_reducible refine Later.setCell ?_ ?_ _ | with_reducible refine Later.alloc ?_ _ | with_reducible refine Later.drewN ?_ _ | with_reducible refine Later.drew ?_ | (with_reducible refine Later.trans ?_ (by assumption)) | (simp only [World.size_setCell, World.size_alloc, World.heap_drewN]; omega) | (simp; done) | (simp; omega))⟩
  · have h0 : (n == 0) = false := by simpa using hn
    rw [h0]
    show RF 14 a b n d w false
    clear hn
    unfold RF
    go_enter Tryz.func113, Tryz.ntmps113
    go_wp2
    go_ret
    exact ⟨rfl, by repeat (first | with_reducible exact Later.refl _ | with_reducible assumption | with_reducible refine Later.ofdrew ?_ | with_reducible refine Later.ofdrewN ?_ | with_reducible refine Later.setCell ?_ ?_ _ | with_reducible refine Later.alloc ?_ _ | with_reducible refine Later.drewN ?_ _ | with_reducible refine Later.drew ?_ | (with_reducible refine Later.trans ?_ (by assumption)) | (simp only [World.size_setCell, World.size_alloc, World.heap_drewN]; omega) | (simp; done) | (simp; omega))⟩
set_option maxHeartbeats 1600000 in
theorem rfields_17 (a b n d : Int)  (w : World) : RF 17 a b n d w ((n == 0 && d == 0) && withinB a 63 && withinB b 73048) := by
  by_cases hn : n = 0
  · subst hn
    by_cases hd : d = 0
    · subst hd
      cases ha : withinB a 63
      · have HA := Lib.hid (fun W => (ha ▸ within_any a 63 W : Calls Tryz.prog 162 #[.int .i64 a, .int .i64 63] W fun e w' => e = .returned (.bool false) ∧ W = w'))
        clear ha
        show RF 17 a b 0 0 w false
        unfold RF
        go_enter Tryz.func113, Tryz.ntmps113
        go_wp2_with (go_at_call 162; go_must (refine (HA.out _).mono ?_; rintro e w1 ⟨rfl, rfl⟩))
        go_ret
        exact ⟨rfl, by repeat (first | with_reducible exact Later.refl _ | with_reducible assumption | with_reducible refine Later.ofdrew ?_ | with_reducible refine Later.ofdrewN ?_ | with_reducible refine Later.setCell ?_ ?_ _ | with_reducible refine Later.alloc ?_ _ | with_reducible refine Later.drewN ?_ _ | with_reducible refine Later.drew ?_ | (with_reducible refine Later.trans ?_ (by assumption)) | (simp only [World.size_setCell, World.size_alloc, World.heap_drewN]; omega) | (simp; done) | (simp; omega))⟩
      · have HA := Lib.hid (fun W => (ha ▸ within_any a 63 W : Calls Tryz.prog 162 #[.int .i64 a, .int .i64 63] W fun e w' => e = .returned (.bool true) ∧ W = w'))
        clear ha
        cases hb : withinB b 73048
        · have HB := Lib.hid (fun W => (hb ▸ within_any b 73048 W : Calls Tryz.prog 162 #[.int .i64 b, .int .i64 73048] W fun e w' => e = .returned (.bool false) ∧ W = w'))
          clear hb
          show RF 17 a b 0 0 w false
          unfold RF
          go_enter Tryz.func113, Tryz.ntmps113
          have tok1 : True := trivial
          go_wp2_with (first | (go_at_call 162; clear tok1; go_must (refine (HA.out _).mono ?_; rintro e w1 ⟨rfl, rfl⟩)) | (go_at_call 162; go_must (refine (HB.out _).mono ?_; rintro e w1 ⟨rfl, rfl⟩)))
          go_ret
          exact ⟨rfl, by repeat (first | with_reducible exact Later.refl _ | with_reducible assumption | with_reducible refine Later.ofdrew ?_ | with_reducible refine Later.ofdrewN ?_ | with_reducible refine Later.setCell ?_ ?_ _ | with_reducible refine Later.alloc ?_ _ | with_reducible refine Later.drewN ?_ _ | with_reducible refine Later.drew ?_ | (with_reducible refine Later.trans ?_ (by assumption)) | (simp only [World.size_setCell, World.size_alloc, World.heap_drewN]; omega) | (simp; done) | (simp; omega))⟩
        · have HB := Lib.hid (fun W => (hb ▸ within_any b 73048 W : Calls Tryz.prog 162 #[.int .i64 b, .int .i64 73048] W fun e w' => e = .returned (.bool true) ∧ W = w'))
          clear hb
          show RF 17 a b 0 0 w true
          unfold RF
          go_enter Tryz.func113, Tryz.ntmps113
          have tok1 : True := trivial
          go_wp2_with (first | (go_at_call 162; clear tok1; go_must (refine (HA.out _).mono ?_; rintro e w1 ⟨rfl, rfl⟩)) | (go_at_call 162; go_must (refine (HB.out _).mono ?_; rintro e w1 ⟨rfl, rfl⟩)))
          go_ret
          exact ⟨rfl, by repeat (first | with_reducible exact Later.refl _ | with_reducible assumption | with_reducible refine Later.ofdrew ?_ | with_reducible refine Later.ofdrewN ?_ | with_reducible refine Later.setCell ?_ ?_ _ | with_reducible refine Later.alloc ?_ _ | with_reducible refine Later.drewN ?_ _ | with_reducible refine Later.drew ?_ | (with_reducible refine Later.trans ?_ (by assumption)) | (simp only [World.size_setCell, World.size_alloc, World.heap_drewN]; omega) | (simp; done) | (simp; omega))⟩
    · have h0 : (d == 0) = false := by simpa using hd
      rw [h0]
      show RF 17 a b 0 d w false
      clear hd
      unfold RF
      go_enter Tryz.func113, Tryz.ntmps113
      go_wp2
      go_ret
      exact ⟨rfl, by repeat (first | with_reducible exact Later.refl _ | with_reducible assumption | with_reducible refine Later.ofdrew ?_ | with_reducible refine Later.ofdrewN ?_ | with_reducible refine Later.setCell ?_ ?_ _ | with_reducible refine Later.alloc ?_ _ | with_reducible refine Later.drewN ?_ _ | with_reducible refine Later.drew ?_ | (with_reducible refine Later.trans ?_ (by assumption)) | (simp only [World.size_setCell, World.size_alloc, World.heap_drewN]; omega) | (simp; done) | (simp; omega))⟩
  · have h0 : (n == 0) = false := by simpa using hn
    rw [h0]
    show RF 17 a b n d w false
    clear hn
    unfold RF
    go_enter Tryz.func113, Tryz.ntmps113
    go_wp2
    go_ret
    exact ⟨rfl, by repeat (first | with_reducible exact Later.refl _ | with_reducible assumption | with_reducible refine Later.ofdrew ?_ | with_reducible refine Later.ofdrewN ?_ | with_reducible refine Later.setCell ?_ ?_ _ | with_reducible refine Later.alloc ?_ _ | with_reducible refine Later.drewN ?_ _ | with_reducible refine Later.drew ?_ | (with_reducible refine Later.trans ?_ (by assumption)) | (simp only [World.size_setCell, World.size_alloc, World.heap_drewN]; omega) | (simp; done) | (simp; omega))⟩
set_option maxHeartbeats 1600000 in
theorem rfields_0 (op a b n d : Int) (o1 : (op == 1) = false) (o2 : (op == 2) = false) (o16 : (op == 16) = false) (o10 : (op == 10) = false) (o14 : (op == 14) = false) (o17 : (op == 17) = false) (w : World) : RF op a b n d w ((n == 0 && d == 0) && (a == 0) && (b == 0)) := by
  by_cases hn : n = 0
  · subst hn
    by_cases hd : d = 0
    · subst hd
      by_cases ha : a = 0
      · subst ha
        by_cases hb : b = 0
        · subst hb
          show RF op 0 0 0 0 w true
          unfold RF
          go_enter Tryz.func113, Tryz.ntmps113
          go_wp2
          go_ret
          exact ⟨rfl, by repeat (first | with_reducible exact Later.refl _ | with_reducible assumption | with_reducible refine Later.ofdrew ?_ | with_reducible refine Later.ofdrewN ?_ | with_reducible refine Later.setCell ?_ ?_ _ | with_reducible refine Later.alloc ?_ _ | with_reducible refine Later.drewN ?_ _ | with_reducible refine Later.drew ?_ | (with_reducible refine Later.trans ?_ (by assumption)) | (simp only [World.size_setCell, World.size_alloc, World.heap_drewN]; omega) | (simp; done) | (simp; omega))⟩
        · have h0 : (b == 0) = false := by simpa using hb
          rw [h0]
          show RF op 0 b 0 0 w false
          clear hb
          unfold RF
          go_enter Tryz.func113, Tryz.ntmps113
          go_wp2
          go_ret
          exact ⟨rfl, by repeat (first | with_reducible exact Later.refl _ | with_reducible assumption | with_reducible refine Later.ofdrew ?_ | with_reducible refine Later.ofdrewN ?_ | with_reducible refine Later.setCell ?_ ?_ _ | with_reducible refine Later.alloc ?_ _ | with_reducible refine Later.drewN ?_ _ | with_reducible refine Later.drew ?_ | (with_reducible refine Later.trans ?_ (by assumption)) | (simp only [World.size_setCell, World.size_alloc, World.heap_drewN]; omega) | (simp; done) | (simp; omega))⟩
      · have h0 : (a == 0) = false := by simpa using ha
        rw [h0]
        show RF op a b 0 0 w false
        clear ha
        unfold RF
        go_enter Tryz.func113, Tryz.ntmps113
        go_wp2
        go_ret
        exact ⟨rfl, by repeat (first | with_reducible exact Later.refl _ | with_reducible assumption | with_reducible refine Later.ofdrew ?_ | with_reducible refine Later.ofdrewN ?_ | with_reducible refine Later.setCell ?_ ?_ _ | with_reducible refine Later.alloc ?_ _ | with_reducible refine Later.drewN ?_ _ | with_reducible refine Later.drew ?_ | (with_reducible refine Later.trans ?_ (by assumption)) | (simp only [World.size_setCell, World.size_alloc, World.heap_drewN]; omega) | (simp; done) | (simp; omega))⟩
    · have h0 : (d == 0) = false := by simpa using hd
      rw [h0]
      show RF op a b 0 d w false
      clear hd
      unfold RF
      go_enter Tryz.func113, Tryz.ntmps113
      go_wp2
      go_ret
      exact ⟨rfl, by repeat (first | with_reducible exact Later.refl _ | with_reducible assumption | with_reducible refine Later.ofdrew ?_ | with_reducible refine Later.ofdrewN ?_ | with_reducible refine Later.setCell ?_ ?_ _ | with_reducible refine Later.alloc ?_ _ | with_reducible refine Later.drewN ?_ _ | with_reducible refine Later.drew ?_ | (with_reducible refine Later.trans ?_ (by assumption)) | (simp only [World.size_setCell, World.size_alloc, World.heap_drewN]; omega) | (simp; done) | (simp; omega))⟩
  · have h0 : (n == 0) = false := by simpa using hn
    rw [h0]
    show RF op a b n d w false
    clear hn
    unfold RF
    go_enter Tryz.func113, Tryz.ntmps113
    go_wp2
    go_ret
    exact ⟨rfl, by repeat (first | with_reducible exact Later.refl _ | with_reducible assumption | with_reducible refine Later.ofdrew ?_ | with_reducible refine Later.ofdrewN ?_ | with_reducible refine Later.setCell ?_ ?_ _ | with_reducible refine Later.alloc ?_ _ | with_reducible refine Later.drewN ?_ _ | with_reducible refine Later.drew ?_ | (with_reducible refine Later.trans ?_ (by assumption)) | (simp only [World.size_setCell, World.size_alloc, World.heap_drewN]; omega) | (simp; done) | (simp; omega))⟩
theorem rfields_any (x : Nd) (w : World) (hx : x.ok) :
    Calls Tryz.prog 113 #[x.val] w fun e w' => e = .returned (.bool (fieldsB x)) ∧ Later w w' := by
  obtain ⟨op, a, b, n, d⟩ := x
  show RF op a b n d w _
  unfold fieldsB limB
  simp only [within_zero]
  have tu : ∀ p q r : Bool, (p && q && r) = (r && p && q) := by decide
  split
  · rename_i h; subst h; exact rfields_1 a b n d w hx.2.2.2.1.1 hx.2.2.2.1.2 hx.2.2.2.2.1 hx.2.2.2.2.2
  split
  · rename_i h
    rw [tu]
    rcases h with rfl | rfl
    · exact rfields_2 a b n d w
    · exact rfields_16 a b n d w
  split
  · rename_i h; subst h; rw [tu]; exact rfields_10 a b n d w
  split
  · rename_i h; subst h; rw [tu]; exact rfields_14 a b n d w
  split
  · rename_i h; subst h; rw [tu]; exact rfields_17 a b n d w
  · rw [tu]
    refine rfields_0 op a b n d ?_ ?_ ?_ ?_ ?_ ?_ w <;> simp <;> omega
end Go.Proofs.YtkjabiabeemfhaaGreatDoor
end
