/- currencies: the table, is, Name, Digits, Of; the reference's Name, Digits -/
import Derived.Test.YtckeaibamgkegaaDoorLib
set_option linter.all false
namespace Go.Proofs.YtckeaibamgkegaaDoor
open Go.RowKit
set_option maxRecDepth 100000

/-- A currency's name. -/
def nmL : Nat → List UInt8
  | 0 => [69, 85, 82]
  | 1 => [85, 83, 68]
  | 2 => [71, 66, 80]
  | 3 => [74, 80, 89]
  | 4 => [67, 72, 70]
  | 5 => [83, 69, 75]
  | 6 => [75, 87, 68]
  | 7 => [88, 65, 85]
  | _ => []
def dgN : Nat → Nat
  | 3 => 0
  | 6 => 3
  | 7 => 6
  | _ => 2
def nmB (c : Nat) : ByteArray := ⟨(nmL c).toArray⟩
theorem lt8 {c : Nat} (h : c < 8) : c = 0 ∨ c = 1 ∨ c = 2 ∨ c = 3 ∨ c = 4 ∨ c = 5 ∨ c = 6 ∨ c = 7 := by omega
theorem nmL_len {c : Nat} (h : c < 8) : (nmL c).length = 3 := by rcases lt8 h with rfl | rfl | rfl | rfl | rfl | rfl | rfl | rfl <;> rfl
theorem nmB_size {c : Nat} (h : c < 8) : (nmB c).size = 3 := by unfold nmB; rw [ba_len, nmL_len h]
theorem nmL_inj {a b : Nat} (ha : a < 8) (hb : b < 8) (h : nmL a = nmL b) : a = b := by
  rcases lt8 ha with rfl | rfl | rfl | rfl | rfl | rfl | rfl | rfl <;> rcases lt8 hb with rfl | rfl | rfl | rfl | rfl | rfl | rfl | rfl <;> first | rfl | (exact absurd h (by decide))
theorem dgN_le (c : Nat) : dgN c ≤ 6 := by unfold dgN; split <;> omega
theorem nmL_abc {c : Nat} (h : c < 8) : ∀ x ∈ nmL c, x ≠ 32 := by rcases lt8 h with rfl | rfl | rfl | rfl | rfl | rfl | rfl | rfl <;> decide
/-- The table of currencies. -/
def CurAt (w : World) : Prop := ∀ c, c < 8 → w.cell? ⟨0, c * 2, none⟩ = some (.string (nmB c)) ∧ w.cell? ⟨0, c * 2 + 1, none⟩ = some (.int .i64 (dgN c))
theorem CurAt.later {w w' : World} (h : CurAt w) (hb : Later w w') : CurAt w' := fun c hc =>
  ⟨((bcell hb).1 _ _ (World.block_lt_of_cell? _ _ (h c hc).1)).trans (h c hc).1, ((bcell hb).1 _ _ (World.block_lt_of_cell? _ _ (h c hc).2)).trans (h c hc).2⟩
theorem CurAt.lt {w : World} (h : CurAt w) : 0 < w.heap.size := World.block_lt_of_cell? _ _ (h 0 (by omega)).1

set_option maxHeartbeats 400000 in
theorem is_yes (c : Nat) (h : c < 8) (w : World) : Calls Tryd.prog 37 #[.int .i64 (c : Int)] w fun e w' => e = .returned (.bool true) ∧ w = w' := by
  have h1 : (c : Int) < 8 := by omega
  have h2 : (0 : Int) ≤ c := by omega
  go_enter Tryd.func37, Tryd.ntmps37
  go_wp2
  go_ret
  exact ⟨rfl, rfl⟩
set_option maxHeartbeats 400000 in
theorem is_no (x : Int) (h : ¬ (0 ≤ x ∧ x < 8)) (w : World) : Calls Tryd.prog 37 #[.int .i64 x] w fun e w' => e = .returned (.bool false) ∧ w = w' := by
  by_cases h0 : 0 ≤ x
  · have h1 : ¬ (x < 8) := fun e => h ⟨h0, e⟩
    clear h
    go_enter Tryd.func37, Tryd.ntmps37
    go_wp2
    go_ret
    exact ⟨rfl, rfl⟩
  · clear h
    go_enter Tryd.func37, Tryd.ntmps37
    go_wp2
    go_ret
    exact ⟨rfl, rfl⟩

set_option maxHeartbeats 800000 in
theorem name_yes (c : Nat) (h : c < 8) (w : World) (hC : CurAt w) : Calls Tryd.prog 20 #[.int .i64 (c : Int)] w fun e w' => e = .returned (.tuple #[.string (nmB c), .int .i64 0]) ∧ Later w w' := by
  have HI := Lib.hid (fun W => is_yes c h W)
  have c1 := (hC c h).1
  have hz := hC.lt
  have h1 : (c : Int) < 8 := by omega
  clear hC
  generalize nmB c = N at *
  go_enter Tryd.func20, Tryd.ntmps20
  go_wp2_with (go_at_call 37; go_must (refine (HI.out _).mono ?_; rintro e w1 ⟨rfl, rfl⟩))
  go_ret2
  exact ⟨rfl, by repeat (first | with_reducible exact Later.refl _ | with_reducible assumption | with_reducible refine Later.ofdrew ?_ | with_reducible refine Later.ofdrewN ?_ | with_reducible refine Later.setCell ?_ ?_ _ | with_reducible refine Later.alloc ?_ _ | with_reducible refine Later.drewN ?_ _ | with_reducible refine Later.drew ?_ | (with_reducible refine Later.trans ?_ (by assumption)) | (simp only [World.size_setCell, World.size_alloc, World.heap_drewN]; omega) | (simp; done) | (simp; omega))⟩
set_option maxHeartbeats 800000 in
theorem name_no (x : Int) (h : ¬ (0 ≤ x ∧ x < 8)) (w : World) : Calls Tryd.prog 20 #[.int .i64 x] w fun e w' => e = .returned (.tuple #[.string ⟨#[]⟩, .int .i64 10]) ∧ Later w w' := by
  have HI := Lib.hid (fun W => is_no x h W)
  clear h
  go_enter Tryd.func20, Tryd.ntmps20
  go_wp2_with (go_at_call 37; go_must (refine (HI.out _).mono ?_; rintro e w1 ⟨rfl, rfl⟩))
  go_ret2
  exact ⟨rfl, by repeat (first | with_reducible exact Later.refl _ | with_reducible assumption | with_reducible refine Later.ofdrew ?_ | with_reducible refine Later.ofdrewN ?_ | with_reducible refine Later.setCell ?_ ?_ _ | with_reducible refine Later.alloc ?_ _ | with_reducible refine Later.drewN ?_ _ | with_reducible refine Later.drew ?_ | (with_reducible refine Later.trans ?_ (by assumption)) | (simp only [World.size_setCell, World.size_alloc, World.heap_drewN]; omega) | (simp; done) | (simp; omega))⟩
set_option maxHeartbeats 800000 in
theorem digits_yes (c : Nat) (h : c < 8) (w : World) (hC : CurAt w) : Calls Tryd.prog 21 #[.int .i64 (c : Int)] w fun e w' => e = .returned (.tuple #[.int .i64 (dgN c), .int .i64 0]) ∧ Later w w' := by
  have HI := Lib.hid (fun W => is_yes c h W)
  have c1 := (hC c h).2
  have hz := hC.lt
  have h1 : (c : Int) < 8 := by omega
  clear hC
  generalize ((dgN c : Nat) : Int) = N at *
  go_enter Tryd.func21, Tryd.ntmps21
  go_wp2_with (go_at_call 37; go_must (refine (HI.out _).mono ?_; rintro e w1 ⟨rfl, rfl⟩))
  go_ret2
  exact ⟨rfl, by repeat (first | with_reducible exact Later.refl _ | with_reducible assumption | with_reducible refine Later.ofdrew ?_ | with_reducible refine Later.ofdrewN ?_ | with_reducible refine Later.setCell ?_ ?_ _ | with_reducible refine Later.alloc ?_ _ | with_reducible refine Later.drewN ?_ _ | with_reducible refine Later.drew ?_ | (with_reducible refine Later.trans ?_ (by assumption)) | (simp only [World.size_setCell, World.size_alloc, World.heap_drewN]; omega) | (simp; done) | (simp; omega))⟩
set_option maxHeartbeats 800000 in
theorem digits_no (x : Int) (h : ¬ (0 ≤ x ∧ x < 8)) (w : World) : Calls Tryd.prog 21 #[.int .i64 x] w fun e w' => e = .returned (.tuple #[.int .i64 0, .int .i64 10]) ∧ Later w w' := by
  have HI := Lib.hid (fun W => is_no x h W)
  clear h
  go_enter Tryd.func21, Tryd.ntmps21
  go_wp2_with (go_at_call 37; go_must (refine (HI.out _).mono ?_; rintro e w1 ⟨rfl, rfl⟩))
  go_ret2
  exact ⟨rfl, by repeat (first | with_reducible exact Later.refl _ | with_reducible assumption | with_reducible refine Later.ofdrew ?_ | with_reducible refine Later.ofdrewN ?_ | with_reducible refine Later.setCell ?_ ?_ _ | with_reducible refine Later.alloc ?_ _ | with_reducible refine Later.drewN ?_ _ | with_reducible refine Later.drew ?_ | (with_reducible refine Later.trans ?_ (by assumption)) | (simp only [World.size_setCell, World.size_alloc, World.heap_drewN]; omega) | (simp; done) | (simp; omega))⟩

set_option maxHeartbeats 800000 in
theorem of1_any (T S : ByteArray) (k : Int) (b : Bool) (hb : (T.toList == S.toList) = b) (B : Nat) (w : World) (hc : w.cell? ⟨B, 0, none⟩ = some (.string S)) :
    Calls Tryd.prog 45 #[.agg #[.string T, .int .i64 k], .pointer (some ⟨B, 0, none⟩)] w fun e w' => e = .returned (.bool b) ∧ Later w w' := by
  have hz := World.block_lt_of_cell? _ _ hc
  cases b <;>
  (go_enter Tryd.func45, Tryd.ntmps45
   go_upto_region 1 with (fail)
   refine wp_opaque (fun W8 hb8 => ?_)
   have hO := Own.one hb8
   have hw8 := hb8.un1
   have c2 := ((bcell hw8).1 _ _ hz).trans hc
   have hz2 := Nat.lt_of_lt_of_le hz (Later.size hw8)
   clear hb8 hc hz
   obtain ⟨⟨z8, d8, f8⟩, -⟩ := hO
   go_wp2
   go_ret
   exact ⟨rfl, by repeat (first | with_reducible exact Later.refl _ | with_reducible assumption | with_reducible refine Later.ofdrew ?_ | with_reducible refine Later.ofdrewN ?_ | with_reducible refine Later.setCell ?_ ?_ _ | with_reducible refine Later.alloc ?_ _ | with_reducible refine Later.drewN ?_ _ | with_reducible refine Later.drew ?_ | (with_reducible refine Later.trans ?_ (by assumption)) | (simp only [World.size_setCell, World.size_alloc, World.heap_drewN]; omega) | (simp; done) | (simp; omega))⟩)
end Go.Proofs.YtckeaibamgkegaaDoor
