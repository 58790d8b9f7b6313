/- periods: New, Span, Locked and what they call -/
import Derived.Test.YtpblfheeeifjcaaDoorRowS
set_option linter.all false
namespace Go.Proofs.YtpblfheeeifjcaaDoor
open Go.RowKit
set_option maxRecDepth 100000

/-- Periods at a pointer: how many days each has, and how many are locked. -/
structure PerAt (w : World) (q b : Nat) (sz lk : Int) : Prop where
  c0 : w.cell? ⟨q, 0, none⟩ = some (.pointer (some ⟨b, 0, none⟩))
  c1 : w.cell? ⟨q, 1, none⟩ = some (.int .i64 lk)
  c2 : w.cell? ⟨b, 0, none⟩ = some (.int .i64 sz)
  s1 : 1 ≤ sz
  s2 : sz ≤ 400
theorem PerAt.later {w w' : World} {q b : Nat} {sz lk : Int} (h : PerAt w q b sz lk) (hb : Later w w') : PerAt w' q b sz lk :=
  ⟨((bcell hb).1 _ _ (World.block_lt_of_cell? _ _ h.c0)).trans h.c0, ((bcell hb).1 _ _ (World.block_lt_of_cell? _ _ h.c1)).trans h.c1, ((bcell hb).1 _ _ (World.block_lt_of_cell? _ _ h.c2)).trans h.c2, h.s1, h.s2⟩
def lastP (sz : Int) : Int := Int.tdiv 73048 sz
theorem lastP_le {sz : Int} (h : 1 ≤ sz) : 0 ≤ lastP sz ∧ lastP sz ≤ 73048 := by
  unfold lastP
  obtain ⟨n, rfl⟩ : ∃ n : Nat, sz = n := ⟨sz.toNat, by omega⟩
  have e : Int.tdiv 73048 (n : Int) = ((73048 / n : Nat) : Int) := rfl
  rw [e]
  have := Nat.div_le_self 73048 n
  generalize 73048 / n = m at *
  omega
/-- What is wrong with a period. -/
def perE (sz period : Int) : Int := if period < 0 ∨ lastP sz < period then 10 else 0

set_option maxHeartbeats 800000 in
theorem spof_any (sz : Int) (h1 : 1 ≤ sz) (w : World) : Calls Tryd.prog 81 #[.agg #[.int .i64 sz], .int .i64 73048] w fun e w' => e = .returned (.int .i64 (lastP sz)) ∧ Later w w' := by
  have hw : IntKind.i64.wrap (Int.tdiv 73048 sz) = lastP sz := by
    have := lastP_le h1
    exact IntWalk.i64_in _ (by unfold lastP at this; omega)
  have h0 : (sz == 0) = false := by simp; omega
  go_enter Tryd.func81, Tryd.ntmps81
  go_wp2
  go_ret
  exact ⟨rfl, by repeat (first | with_reducible exact Later.refl _ | with_reducible assumption | with_reducible refine Later.ofdrew ?_ | with_reducible refine Later.ofdrewN ?_ | with_reducible refine Later.setCell ?_ ?_ _ | with_reducible refine Later.alloc ?_ _ | with_reducible refine Later.drewN ?_ _ | with_reducible refine Later.drew ?_ | (with_reducible refine Later.trans ?_ (by assumption)) | (simp only [World.size_setCell, World.size_alloc, World.heap_drewN]; omega) | (simp; done) | (simp; omega))⟩

set_option maxHeartbeats 800000 in
theorem splast_any (sz : Int) (h1 : 1 ≤ sz) (w : World) : Calls Tryd.prog 75 #[.agg #[.int .i64 sz]] w fun e w' => e = .returned (.int .i64 (lastP sz)) ∧ Later w w' := by
  go_enter Tryd.func75, Tryd.ntmps75
  go_wp2_with (go_at_call 81; go_must (refine (spof_any sz h1 _).mono ?_; rintro e w2 ⟨rfl, hb2⟩))
  go_ret
  exact ⟨rfl, by repeat (first | with_reducible exact Later.refl _ | with_reducible assumption | with_reducible refine Later.ofdrew ?_ | with_reducible refine Later.ofdrewN ?_ | with_reducible refine Later.setCell ?_ ?_ _ | with_reducible refine Later.alloc ?_ _ | with_reducible refine Later.drewN ?_ _ | with_reducible refine Later.drew ?_ | (with_reducible refine Later.trans ?_ (by assumption)) | (simp only [World.size_setCell, World.size_alloc, World.heap_drewN]; omega) | (simp; done) | (simp; omega))⟩

set_option maxHeartbeats 800000 in
theorem plast_any (q b : Nat) (sz lk : Int) (w : World) (h : PerAt w q b sz lk) : Calls Tryd.prog 67 #[.pointer (some ⟨q, 0, none⟩)] w fun e w' => e = .returned (.int .i64 (lastP sz)) ∧ Later w w' := by
  obtain ⟨c0, c1, c2, s1, s2⟩ := h
  go_enter Tryd.func67, Tryd.ntmps67
  go_wp2_with (go_at_call 75; go_must (refine (splast_any sz s1 _).mono ?_; rintro e w2 ⟨rfl, hb2⟩))
  go_ret
  exact ⟨rfl, by repeat (first | with_reducible exact Later.refl _ | with_reducible assumption | with_reducible refine Later.ofdrew ?_ | with_reducible refine Later.ofdrewN ?_ | with_reducible refine Later.setCell ?_ ?_ _ | with_reducible refine Later.alloc ?_ _ | with_reducible refine Later.drewN ?_ _ | with_reducible refine Later.drew ?_ | (with_reducible refine Later.trans ?_ (by assumption)) | (simp only [World.size_setCell, World.size_alloc, World.heap_drewN]; omega) | (simp; done) | (simp; omega))⟩

set_option maxHeartbeats 800000 in
theorem pcheck_any (q b : Nat) (sz lk period : Int) (w : World) (h : PerAt w q b sz lk) : Calls Tryd.prog 51 #[.pointer (some ⟨q, 0, none⟩), .int .i64 period] w fun e w' => e = .returned (.int .i64 (perE sz period)) ∧ Later w w' := by
  have HL := Lib.hid (fun W (hl : Later w W) => plast_any q b sz lk W (h.later hl))
  have hp : perE sz period = if period < 0 ∨ lastP sz < period then 10 else 0 := rfl
  generalize lastP sz = l at *
  generalize perE sz period = r at *
  clear h
  by_cases h1 : period < 0
  · rw [if_pos (.inl h1)] at hp
    subst hp
    go_enter Tryd.func51, Tryd.ntmps51
    go_wp2
    go_ret
    exact ⟨rfl, Later.refl _⟩
  · by_cases h2 : l < period
    · rw [if_pos (.inr h2)] at hp
      subst hp
      go_enter Tryd.func51, Tryd.ntmps51
      go_wp2_with (go_at_call 67; go_must (refine (HL.out _ (by repeat (first | with_reducible exact Later.refl _ | with_reducible assumption | with_reducible refine Later.ofdrew ?_ | with_reducible refine Later.ofdrewN ?_ | with_reducible refine Later.setCell ?_ ?_ _ | with_reducible refine Later.alloc ?_ _ | with_reducible refine Later.drewN ?_ _ | with_reducible refine Later.drew ?_ | (with_reducible refine Later.trans ?_ (by assumption)) | (simp only [World.size_setCell, World.size_alloc, World.heap_drewN]; omega) | (simp; done) | (simp; omega)))).mono ?_; rintro e w2 ⟨rfl, hb2⟩))
      go_ret
      exact ⟨rfl, by repeat (first | with_reducible exact Later.refl _ | with_reducible assumption | with_reducible refine Later.ofdrew ?_ | with_reducible refine Later.ofdrewN ?_ | with_reducible refine Later.setCell ?_ ?_ _ | with_reducible refine Later.alloc ?_ _ | with_reducible refine Later.drewN ?_ _ | with_reducible refine Later.drew ?_ | (with_reducible refine Later.trans ?_ (by assumption)) | (simp only [World.size_setCell, World.size_alloc, World.heap_drewN]; omega) | (simp; done) | (simp; omega))⟩
    · rw [if_neg (by omega)] at hp
      subst hp
      go_enter Tryd.func51, Tryd.ntmps51
      go_wp2_with (go_at_call 67; go_must (refine (HL.out _ (by repeat (first | with_reducible exact Later.refl _ | with_reducible assumption | with_reducible refine Later.ofdrew ?_ | with_reducible refine Later.ofdrewN ?_ | with_reducible refine Later.setCell ?_ ?_ _ | with_reducible refine Later.alloc ?_ _ | with_reducible refine Later.drewN ?_ _ | with_reducible refine Later.drew ?_ | (with_reducible refine Later.trans ?_ (by assumption)) | (simp only [World.size_setCell, World.size_alloc, World.heap_drewN]; omega) | (simp; done) | (simp; omega)))).mono ?_; rintro e w2 ⟨rfl, hb2⟩))
      go_ret
      exact ⟨rfl, by repeat (first | with_reducible exact Later.refl _ | with_reducible assumption | with_reducible refine Later.ofdrew ?_ | with_reducible refine Later.ofdrewN ?_ | with_reducible refine Later.setCell ?_ ?_ _ | with_reducible refine Later.alloc ?_ _ | with_reducible refine Later.drewN ?_ _ | with_reducible refine Later.drew ?_ | (with_reducible refine Later.trans ?_ (by assumption)) | (simp only [World.size_setCell, World.size_alloc, World.heap_drewN]; omega) | (simp; done) | (simp; omega))⟩

set_option maxHeartbeats 1600000 in
theorem span_any (q b : Nat) (sz lk period : Int) (w : World) (h : PerAt w q b sz lk) : Calls Tryd.prog 31 #[.pointer (some ⟨q, 0, none⟩), .int .i64 period] w fun e w' => (∃ x y : Int, e = .returned (.tuple #[.int .i64 x, .int .i64 y, .int .i64 (perE sz period)])) ∧ Later w w' := by
  have HC := Lib.hid (fun W (hl : Later w W) => pcheck_any q b sz lk period W (h.later hl))
  have HK := Lib.hid (fun W (hl : Later w W) => h.later hl)
  have s1 := h.s1
  have s2 := h.s2
  have hll := lastP_le s1
  have hp : perE sz period = if period < 0 ∨ lastP sz < period then 10 else 0 := rfl
  generalize perE sz period = r at *
  clear h
  by_cases h1 : period < 0 ∨ lastP sz < period
  · rw [if_pos h1] at hp
    subst hp
    clear h1
    go_enter Tryd.func31, Tryd.ntmps31
    go_wp2_with (go_at_call 51; go_must (refine (HC.out _ (by repeat (first | with_reducible exact Later.refl _ | with_reducible assumption | with_reducible refine Later.ofdrew ?_ | with_reducible refine Later.ofdrewN ?_ | with_reducible refine Later.setCell ?_ ?_ _ | with_reducible refine Later.alloc ?_ _ | with_reducible refine Later.drewN ?_ _ | with_reducible refine Later.drew ?_ | (with_reducible refine Later.trans ?_ (by assumption)) | (simp only [World.size_setCell, World.size_alloc, World.heap_drewN]; omega) | (simp; done) | (simp; omega)))).mono ?_; rintro e w2 ⟨rfl, hb2⟩))
    go_ret3
    exact ⟨⟨_, _, rfl⟩, by repeat (first | with_reducible exact Later.refl _ | with_reducible assumption | with_reducible refine Later.ofdrew ?_ | with_reducible refine Later.ofdrewN ?_ | with_reducible refine Later.setCell ?_ ?_ _ | with_reducible refine Later.alloc ?_ _ | with_reducible refine Later.drewN ?_ _ | with_reducible refine Later.drew ?_ | (with_reducible refine Later.trans ?_ (by assumption)) | (simp only [World.size_setCell, World.size_alloc, World.heap_drewN]; omega) | (simp; done) | (simp; omega))⟩
  · rw [if_neg h1] at hp
    subst hp
    have hb0 : 0 ≤ period * sz := Int.mul_nonneg (by omega) (by omega)
    have hb1 : period * sz ≤ 73048 * 400 := Int.mul_le_mul (by omega) s2 (by omega) (by omega)
    obtain ⟨m, hm⟩ : ∃ m, period * sz = m := ⟨_, rfl⟩
    have hw : IntKind.i64.wrap (period * sz) = m := by rw [hm]; exact IntWalk.i64_in _ (by omega)
    rw [hm] at hb0 hb1
    clear h1 hll
    go_enter Tryd.func31, Tryd.ntmps31
    go_upto_region 4 with (go_at_call 51; go_must (refine (HC.out _ (by repeat (first | with_reducible exact Later.refl _ | with_reducible assumption | with_reducible refine Later.ofdrew ?_ | with_reducible refine Later.ofdrewN ?_ | with_reducible refine Later.setCell ?_ ?_ _ | with_reducible refine Later.alloc ?_ _ | with_reducible refine Later.drewN ?_ _ | with_reducible refine Later.drew ?_ | (with_reducible refine Later.trans ?_ (by assumption)) | (simp only [World.size_setCell, World.size_alloc, World.heap_drewN]; omega) | (simp; done) | (simp; omega)))).mono ?_; rintro e w2 ⟨rfl, hb2⟩))
    obtain ⟨c0, c1, c2, -, -⟩ := HK.out _ hb2
    go_upto_region 5 with (fail)
    refine wp_region_plan 15 (.one [0, 1, 2, 12] 3 (.one [4, 5] 6 (.one [7, 8, 9, 10] 11 (.done [13, 14])))) (by kernel_rfl) (by kernel_rfl) (fun _ _ d _ _ h => by cases d <;> exact h) ?_
    repeat' (first
      | (refine plan_done (fun K hK => ?_); (first | (simp only [pick_cons, pick_nil, toList_some_append, List.getElem?_toArray, List.getElem?_cons_zero, List.getElem?_cons_succ]; repeat (go_big_quiet_step (fail))) | simp only [pick_nil]); refine wpQuiet_nil (hK _ ?_); clear hK K)
      | (refine plan_one (by rfl) (fun K hK => ?_); (first | (simp only [pick_cons, pick_nil, toList_some_append, List.getElem?_toArray, List.getElem?_cons_zero, List.getElem?_cons_succ]; repeat (go_big_quiet_step (fail))) | simp only [pick_nil]); refine wpQuiet_nil (hK _ ?_); clear hK K)
      | ((with_reducible refine at_list ?_); go_wp2_with (fail); first | refine behind_store (t := 15) (by decide) ?_ | refine behind (by repeat (first | with_reducible exact Later.refl _ | with_reducible assumption | with_reducible refine Later.ofdrew ?_ | with_reducible refine Later.ofdrewN ?_ | with_reducible refine Later.alloc ?_ _ | with_reducible refine Later.drewN ?_ _ | with_reducible refine Later.drew ?_ | (with_reducible refine Later.trans ?_ (by assumption)))) ?_))
    go_wp2
    go_ret3
    exact ⟨⟨_, _, rfl⟩, by repeat (first | with_reducible exact Later.refl _ | with_reducible assumption | with_reducible refine Later.ofdrew ?_ | with_reducible refine Later.ofdrewN ?_ | with_reducible refine Later.setCell ?_ ?_ _ | with_reducible refine Later.alloc ?_ _ | with_reducible refine Later.drewN ?_ _ | with_reducible refine Later.drew ?_ | (with_reducible refine Later.trans ?_ (by assumption)) | (simp only [World.size_setCell, World.size_alloc, World.heap_drewN]; omega) | (simp; done) | (simp; omega))⟩

set_option maxHeartbeats 800000 in
theorem plocked_any (q b : Nat) (sz lk period : Int) (w : World) (h : PerAt w q b sz lk) : Calls Tryd.prog 32 #[.pointer (some ⟨q, 0, none⟩), .int .i64 period] w fun e w' => e = .returned (.bool (decide (perE sz period = 0 ∧ period < lk))) ∧ Later w w' := by
  have HC := Lib.hid (fun W (hl : Later w W) => pcheck_any q b sz lk period W (h.later hl))
  have HK := Lib.hid (fun W (hl : Later w W) => h.later hl)
  generalize perE sz period = r at *
  clear h
  by_cases h1 : r = 0
  · subst h1
    by_cases h2 : period < lk
    · have hd : decide ((0 : Int) = 0 ∧ period < lk) = true := by simp [h2]
      rw [hd]
      clear hd
      go_enter Tryd.func32, Tryd.ntmps32
      go_wp2_with (go_at_call 51; go_must (refine (HC.out _ (by repeat (first | with_reducible exact Later.refl _ | with_reducible assumption | with_reducible refine Later.ofdrew ?_ | with_reducible refine Later.ofdrewN ?_ | with_reducible refine Later.setCell ?_ ?_ _ | with_reducible refine Later.alloc ?_ _ | with_reducible refine Later.drewN ?_ _ | with_reducible refine Later.drew ?_ | (with_reducible refine Later.trans ?_ (by assumption)) | (simp only [World.size_setCell, World.size_alloc, World.heap_drewN]; omega) | (simp; done) | (simp; omega)))).mono ?_; rintro e w2 ⟨rfl, hb2⟩; obtain ⟨c0, c1, c2, -, -⟩ := HK.out _ hb2))
      go_ret
      exact ⟨rfl, by repeat (first | with_reducible exact Later.refl _ | with_reducible assumption | with_reducible refine Later.ofdrew ?_ | with_reducible refine Later.ofdrewN ?_ | with_reducible refine Later.setCell ?_ ?_ _ | with_reducible refine Later.alloc ?_ _ | with_reducible refine Later.drewN ?_ _ | with_reducible refine Later.drew ?_ | (with_reducible refine Later.trans ?_ (by assumption)) | (simp only [World.size_setCell, World.size_alloc, World.heap_drewN]; omega) | (simp; done) | (simp; omega))⟩
    · have hd : decide ((0 : Int) = 0 ∧ period < lk) = false := by simp; omega
      rw [hd]
      clear hd
      go_enter Tryd.func32, Tryd.ntmps32
      go_wp2_with (go_at_call 51; go_must (refine (HC.out _ (by repeat (first | with_reducible exact Later.refl _ | with_reducible assumption | with_reducible refine Later.ofdrew ?_ | with_reducible refine Later.ofdrewN ?_ | with_reducible refine Later.setCell ?_ ?_ _ | with_reducible refine Later.alloc ?_ _ | with_reducible refine Later.drewN ?_ _ | with_reducible refine Later.drew ?_ | (with_reducible refine Later.trans ?_ (by assumption)) | (simp only [World.size_setCell, World.size_alloc, World.heap_drewN]; omega) | (simp; done) | (simp; omega)))).mono ?_; rintro e w2 ⟨rfl, hb2⟩; obtain ⟨c0, c1, c2, -, -⟩ := HK.out _ hb2))
      go_ret
      exact ⟨by simp [h2], by repeat (first | with_reducible exact Later.refl _ | with_reducible assumption | with_reducible refine Later.ofdrew ?_ | with_reducible refine Later.ofdrewN ?_ | with_reducible refine Later.setCell ?_ ?_ _ | with_reducible refine Later.alloc ?_ _ | with_reducible refine Later.drewN ?_ _ | with_reducible refine Later.drew ?_ | (with_reducible refine Later.trans ?_ (by assumption)) | (simp only [World.size_setCell, World.size_alloc, World.heap_drewN]; omega) | (simp; done) | (simp; omega))⟩
  · have hd : decide (r = 0 ∧ period < lk) = false := by simp [h1]
    rw [hd]
    have h2 : (r == 0) = false := by simpa using h1
    clear hd h1
    go_enter Tryd.func32, Tryd.ntmps32
    go_wp2_with (go_at_call 51; go_must (refine (HC.out _ (by repeat (first | with_reducible exact Later.refl _ | with_reducible assumption | with_reducible refine Later.ofdrew ?_ | with_reducible refine Later.ofdrewN ?_ | with_reducible refine Later.setCell ?_ ?_ _ | with_reducible refine Later.alloc ?_ _ | with_reducible refine Later.drewN ?_ _ | with_reducible refine Later.drew ?_ | (with_reducible refine Later.trans ?_ (by assumption)) | (simp only [World.size_setCell, World.size_alloc, World.heap_drewN]; omega) | (simp; done) | (simp; omega)))).mono ?_; rintro e w2 ⟨rfl, hb2⟩))
    go_ret
    exact ⟨rfl, by repeat (first | with_reducible exact Later.refl _ | with_reducible assumption | with_reducible refine Later.ofdrew ?_ | with_reducible refine Later.ofdrewN ?_ | with_reducible refine Later.setCell ?_ ?_ _ | with_reducible refine Later.alloc ?_ _ | with_reducible refine Later.drewN ?_ _ | with_reducible refine Later.drew ?_ | (with_reducible refine Later.trans ?_ (by assumption)) | (simp only [World.size_setCell, World.size_alloc, World.heap_drewN]; omega) | (simp; done) | (simp; omega))⟩

set_option maxHeartbeats 800000 in
theorem pnew_any (sz : Int) (h1 : 1 ≤ sz) (h2 : sz ≤ 400) (w : World) : Calls Tryd.prog 18 #[.int .i64 sz] w fun e w' => ∃ q b, e = .returned (.tuple #[.pointer (some ⟨q, 0, none⟩), .int .i64 0]) ∧ PerAt w' q b sz 0 ∧ w.heap.size ≤ q ∧ w.heap.size ≤ b ∧ Later w w' := by
  go_enter Tryd.func18, Tryd.ntmps18
  go_wp2
  go_ret2
  refine ⟨w.heap.size + 1, w.heap.size, rfl, ?_, by omega, by omega, by repeat (first | with_reducible exact Later.refl _ | with_reducible assumption | with_reducible refine Later.ofdrew ?_ | with_reducible refine Later.ofdrewN ?_ | with_reducible refine Later.setCell ?_ ?_ _ | with_reducible refine Later.alloc ?_ _ | with_reducible refine Later.drewN ?_ _ | with_reducible refine Later.drew ?_ | (with_reducible refine Later.trans ?_ (by assumption)) | (simp only [World.size_setCell, World.size_alloc, World.heap_drewN]; omega) | (simp; done) | (simp; omega))⟩
  have hO := Own.two (Later.refl ((w.alloc (.cells #[.int .i64 sz] 75)).alloc (.cells #[.pointer (some ⟨w.heap.size, 0, none⟩), .int .i64 0] 77)))
  exact ⟨hO.2.1.2.1 0, hO.2.1.2.1 1, hO.1.2.1 0, h1, h2⟩
end Go.Proofs.YtpblfheeeifjcaaDoor
