/- currencies: the reference's Name, Digits -/
import Derived.Test.YtckeaibamgkegaaDoorCashB
set_option linter.all false
namespace Go.Proofs.YtckeaibamgkegaaDoor
open Go.RowKit
set_option maxRecDepth 100000

theorem nm_lit (w : World) : (Instr.buildSlice 83 8 #[(0, .string ⟨#[69, 85, 82]⟩), (1, .string ⟨#[85, 83, 68]⟩), (2, .string ⟨#[71, 66, 80]⟩), (3, .string ⟨#[74, 80, 89]⟩), (4, .string ⟨#[67, 72, 70]⟩), (5, .string ⟨#[83, 69, 75]⟩), (6, .string ⟨#[75, 87, 68]⟩), (7, .string ⟨#[88, 65, 85]⟩)]).run Tryd.prog w
    = .ok (.slice (some ⟨w.heap.size, 0, none⟩) 8 8) (w.alloc (.cells #[.string ⟨#[69, 85, 82]⟩, .string ⟨#[85, 83, 68]⟩, .string ⟨#[71, 66, 80]⟩, .string ⟨#[74, 80, 89]⟩, .string ⟨#[67, 72, 70]⟩, .string ⟨#[83, 69, 75]⟩, .string ⟨#[75, 87, 68]⟩, .string ⟨#[88, 65, 85]⟩] 9)) := by kernel_rfl
theorem dg_lit (w : World) : (Instr.buildSlice 58 8 #[(0, .int .i64 2), (1, .int .i64 2), (2, .int .i64 2), (3, .int .i64 0), (4, .int .i64 2), (5, .int .i64 2), (6, .int .i64 3), (7, .int .i64 6)]).run Tryd.prog w
    = .ok (.slice (some ⟨w.heap.size, 0, none⟩) 8 8) (w.alloc (.cells #[.int .i64 2, .int .i64 2, .int .i64 2, .int .i64 0, .int .i64 2, .int .i64 2, .int .i64 3, .int .i64 6] 3)) := by kernel_rfl

set_option maxHeartbeats 800000 in
theorem rname_yes (c : Nat) (h : c < 8) (w : World) : Calls Tryd.prog 22 #[.int .i64 (c : Int)] w fun e w' => e = .returned (.string (nmB c)) ∧ Later w w' := by
  have h1 : ¬ ((7 : Int) < c) := by omega
  have h2 : ¬ ((c : Int) < 0) := by omega
  have h3 : (c : Int) < 8 := by omega
  have hcell : ∀ W : World, (W.alloc (.cells #[.string ⟨#[69, 85, 82]⟩, .string ⟨#[85, 83, 68]⟩, .string ⟨#[71, 66, 80]⟩, .string ⟨#[74, 80, 89]⟩, .string ⟨#[67, 72, 70]⟩, .string ⟨#[83, 69, 75]⟩, .string ⟨#[75, 87, 68]⟩, .string ⟨#[88, 65, 85]⟩] 9)).cell? ⟨W.heap.size, c, none⟩ = some (.string (nmB c)) := fun W => by
    rw [(own1 (Later.refl _)).1 c]
    rcases lt8 h with rfl | rfl | rfl | rfl | rfl | rfl | rfl | rfl <;> rfl
  have HCL := Lib.hid hcell
  clear hcell
  generalize nmB c = N at *
  go_enter Tryd.func22, Tryd.ntmps22
  go_upto_region 2 with (refine wpList_builtS (nm_lit _) rfl rfl rfl ?_)
  have hc := HCL.out w
  refine wp_opaque (fun W8 hb8 => ?_)
  have hz : w.heap.size < W8.heap.size := by have := Later.size hb8; simp at this; omega
  have hc8 := ((bcell hb8).1 w.heap.size c (by simp)).trans hc
  have hw8 := hb8.un1
  clear hb8 hc HCL
  go_wp2
  go_ret
  exact ⟨rfl, hw8⟩
set_option maxHeartbeats 800000 in
theorem rname_no (x : Int) (h : x < 0 ∨ 7 < x) (w : World) : Calls Tryd.prog 22 #[.int .i64 x] w fun e w' => e = .returned (.string ⟨#[]⟩) ∧ Later w w' := by
  by_cases h0 : x < 0
  · clear h
    go_enter Tryd.func22, Tryd.ntmps22
    go_wp2_with (refine wpList_builtS (nm_lit _) rfl rfl rfl ?_)
    go_ret
    exact ⟨rfl, by repeat (first | with_reducible exact Later.refl _ | with_reducible assumption | with_reducible refine Later.ofdrew ?_ | with_reducible refine Later.ofdrewN ?_ | with_reducible refine Later.setCell ?_ ?_ _ | with_reducible refine Later.alloc ?_ _ | with_reducible refine Later.drewN ?_ _ | with_reducible refine Later.drew ?_ | (with_reducible refine Later.trans ?_ (by assumption)) | (simp only [World.size_setCell, World.size_alloc, World.heap_drewN]; omega) | (simp; done) | (simp; omega))⟩
  · have h7 : 7 < x := by omega
    clear h
    go_enter Tryd.func22, Tryd.ntmps22
    go_wp2_with (refine wpList_builtS (nm_lit _) rfl rfl rfl ?_)
    go_ret
    exact ⟨rfl, by repeat (first | with_reducible exact Later.refl _ | with_reducible assumption | with_reducible refine Later.ofdrew ?_ | with_reducible refine Later.ofdrewN ?_ | with_reducible refine Later.setCell ?_ ?_ _ | with_reducible refine Later.alloc ?_ _ | with_reducible refine Later.drewN ?_ _ | with_reducible refine Later.drew ?_ | (with_reducible refine Later.trans ?_ (by assumption)) | (simp only [World.size_setCell, World.size_alloc, World.heap_drewN]; omega) | (simp; done) | (simp; omega))⟩
set_option maxHeartbeats 800000 in
theorem rdigits_yes (c : Nat) (h : c < 8) (w : World) : Calls Tryd.prog 24 #[.int .i64 (c : Int)] w fun e w' => e = .returned (.int .i64 (dgN c)) ∧ Later w w' := by
  have h3 : (c : Int) < 8 := by omega
  have hcell : ∀ W : World, (W.alloc (.cells #[.int .i64 2, .int .i64 2, .int .i64 2, .int .i64 0, .int .i64 2, .int .i64 2, .int .i64 3, .int .i64 6] 3)).cell? ⟨W.heap.size, c, none⟩ = some (.int .i64 (dgN c)) := fun W => by
    rw [(own1 (Later.refl _)).1 c]
    rcases lt8 h with rfl | rfl | rfl | rfl | rfl | rfl | rfl | rfl <;> rfl
  have HCL := Lib.hid hcell
  clear hcell
  generalize ((dgN c : Nat) : Int) = N at *
  go_enter Tryd.func24, Tryd.ntmps24
  go_upto_region 2 with (refine wpList_builtS (dg_lit _) rfl rfl rfl ?_)
  have hc := HCL.out w
  refine wp_opaque (fun W8 hb8 => ?_)
  have hz : w.heap.size < W8.heap.size := by have := Later.size hb8; simp at this; omega
  have hc8 := ((bcell hb8).1 w.heap.size c (by simp)).trans hc
  have hw8 := hb8.un1
  clear hb8 hc HCL
  go_wp2
  go_ret
  exact ⟨rfl, hw8⟩
end Go.Proofs.YtckeaibamgkegaaDoor
