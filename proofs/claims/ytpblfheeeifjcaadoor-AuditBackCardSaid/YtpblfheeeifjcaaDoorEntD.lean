/- entry.Check by its table of rules -/
import Derived.Test.YtpblfheeeifjcaaDoorEntC
import Derived.Laws.EntriesVeiled
set_option linter.all false
namespace Go.Proofs.YtpblfheeeifjcaaDoor
open Go.RowKit
set_option maxRecDepth 100000


/-- The table of rules. -/
def rulesA : Array Value := #[.func (.func 109) #[] #[], .int .i64 10, .func (.func 110) #[] #[], .int .i64 1, .func (.func 111) #[] #[], .int .i64 12, .func (.func 112) #[] #[], .int .i64 11, .func (.func 104) #[] #[], .int .i64 20]
def RulesAt (w : World) : Prop := ∃ t fr, w.heap[0]? = some (.cells rulesA t fr)
theorem RulesAt.later {w w' : World} (h : RulesAt w) (hb : Later w w') : RulesAt w' := by
  obtain ⟨t, fr, h1⟩ := h
  exact ⟨t, fr, (hb.block 0 (Array.getElem?_eq_some_iff.1 h1).1).trans h1⟩
theorem run_rule {P : Program} (t e : TypeId) (n : Nat) (cs : Array Value) (k : Nat) (w : World) (h : P.underlying t = some (.array n e)) (hk : k < n) (hs : ∀ w, (sizeOf e).run P w = .ok 2 w) (ha : ∀ w, (isAgg e).run P w = .ok true w) :
    (Instr.index t (.agg cs) (.int .i64 (k : Int))).run P w = .ok (.agg (cs.extract (k * 2) (k * 2 + 2))) w := by
  have h1 : (0 : Int) ≤ (k : Int) ∧ (k : Int) < (n : Int) := by omega
  simp [Instr.index, run_underlying h, asIntOf, hk, hs, part, ha, Result.andThen]
theorem rule_0 (W : World) : (Instr.index 119 (.agg rulesA) (.int .i64 0)).run Tryd.prog W = .ok (.agg #[.func (.func 109) #[] #[], .int .i64 10]) W := by
  have h := run_rule 119 _ 5 rulesA 0 W Tryd.underlying119 (by decide) (fun w => by kernel_rfl) (fun w => by kernel_rfl)
  exact h
theorem rule_1 (W : World) : (Instr.index 119 (.agg rulesA) (.int .i64 1)).run Tryd.prog W = .ok (.agg #[.func (.func 110) #[] #[], .int .i64 1]) W := by
  have h := run_rule 119 _ 5 rulesA 1 W Tryd.underlying119 (by decide) (fun w => by kernel_rfl) (fun w => by kernel_rfl)
  exact h
theorem rule_2 (W : World) : (Instr.index 119 (.agg rulesA) (.int .i64 2)).run Tryd.prog W = .ok (.agg #[.func (.func 111) #[] #[], .int .i64 12]) W := by
  have h := run_rule 119 _ 5 rulesA 2 W Tryd.underlying119 (by decide) (fun w => by kernel_rfl) (fun w => by kernel_rfl)
  exact h
theorem rule_3 (W : World) : (Instr.index 119 (.agg rulesA) (.int .i64 3)).run Tryd.prog W = .ok (.agg #[.func (.func 112) #[] #[], .int .i64 11]) W := by
  have h := run_rule 119 _ 5 rulesA 3 W Tryd.underlying119 (by decide) (fun w => by kernel_rfl) (fun w => by kernel_rfl)
  exact h
theorem rule_4 (W : World) : (Instr.index 119 (.agg rulesA) (.int .i64 4)).run Tryd.prog W = .ok (.agg #[.func (.func 104) #[] #[], .int .i64 20]) W := by
  have h := run_rule 119 _ 5 rulesA 4 W Tryd.underlying119 (by decide) (fun w => by kernel_rfl) (fun w => by kernel_rfl)
  exact h

set_option maxHeartbeats 4000000 in
theorem check_any (con day cur seq per ref : Int) (u : Value) (ls : List Ln) (hlen : ls.length ≤ 100000) (w : World) (hN : IsLines w u ls) (hwd : ∀ y ∈ ls, y.ok) (hR : RulesAt w) : Calls Tryd.prog 54 #[.agg #[.int .i64 con, .int .i64 day, .int .i64 cur, .int .i64 seq, .int .i64 per, .int .i64 ref, u]] w fun e w' => e = .returned (.int .i64 (entryE ⟨con, day, cur, seq, per, ref, ls⟩)) ∧ Later w w' := by
  have H0 := Lib.hid (fun W (hl : Later w W) => ranges_any con day cur seq per ref u ls hlen W (IsRow.later hN hl))
  have H1 := Lib.hid (fun W (hl : Later w W) => lines_any con day cur seq per ref u ls hlen W (IsRow.later hN hl))
  have H2 := Lib.hid (fun W (hl : Later w W) => some_any con day cur seq per ref u ls hlen W (IsRow.later hN hl))
  have H3 := Lib.hid (fun W (hl : Later w W) => fits_any con day cur seq per ref u ls hlen W (IsRow.later hN hl))
  have H4 := Lib.hid (fun W (hl : Later w W) => even_any con day cur seq per ref u ls hlen W (IsRow.later hN hl) hwd)
  obtain ⟨r, hr⟩ : ∃ r, entryE ⟨con, day, cur, seq, per, ref, ls⟩ = r := ⟨_, rfl⟩
  rw [hr]
  unfold entryE at hr
  generalize rangesB ⟨con, day, cur, seq, per, ref, ls⟩ = b0 at *
  generalize linesB ⟨con, day, cur, seq, per, ref, ls⟩ = b1 at *
  generalize someB ⟨con, day, cur, seq, per, ref, ls⟩ = b2 at *
  generalize fitsB ⟨con, day, cur, seq, per, ref, ls⟩ = b3 at *
  generalize evenB ⟨con, day, cur, seq, per, ref, ls⟩ = b4 at *
  have hr := Lib.hid hr
  obtain ⟨p, cp, rfl⟩ := hN.form
  clear hN hlen hwd
  go_enter Tryd.func54, Tryd.ntmps54
  go_upto_region 1 with (fail)
  refine wp_opaque (fun w0 hb0 => ?_)
  have hO := Own.one hb0
  have hb1 := hb0.un1
  obtain ⟨tr, fr, hrow⟩ := hR.later hb1
  clear hR
  go_wp2_with (refine wpList_load_row rfl 119 _ rfl 0 rfl tr rulesA fr _ hrow Tryd.underlying119 rfl (by kernel_rfl) ?_)
  go_loopw [6] (fun s6 wr => ∃ j : Nat, j ≤ 5 ∧ s6 = .int .i64 j ∧ Hid ((1 ≤ j → b0 = true) ∧ (2 ≤ j → b1 = true) ∧ (3 ≤ j → b2 = true) ∧ (4 ≤ j → b3 = true) ∧ (5 ≤ j → b4 = true)) ∧ Later w0 wr) (fun s6 _ => 5 - (intOf s6).toNat)
  case atStart => exact ⟨0, Nat.zero_le _, rfl, Lib.hid ⟨by omega, by omega, by omega, by omega, by omega⟩, Later.refl _⟩
  case round =>
    obtain ⟨j, hj, rfl, hall, hlat⟩ := hrel
    obtain ⟨⟨z1, c1, -⟩, -⟩ := hO.later hlat
    have hlw := hb1.trans hlat
    have hj' : j = 0 ∨ j = 1 ∨ j = 2 ∨ j = 3 ∨ j = 4 ∨ j = 5 := by omega
    clear hrow hb0 hj
    rcases hj' with rfl | rfl | rfl | rfl | rfl | rfl
    ·
      cases b0 with
      | false =>
        have hr2 : r = 10 := by rw [← hr.out]; simp [hall.out]
        subst hr2
        clear hall hr H1 H2 H3 H4
        go_wp2_with (first | refine wpList_idx (rule_0 _) rfl rfl rfl rfl ?_ | (go_at_call 109; go_must (refine (H0.out _ (by repeat (first | with_reducible exact Later.refl _ | with_reducible assumption | with_reducible refine Later.ofdrew ?_ | with_reducible refine Later.ofdrewN ?_ | with_reducible refine Later.setCell ?_ ?_ _ | with_reducible refine Later.alloc ?_ _ | with_reducible refine Later.drewN ?_ _ | with_reducible refine Later.drew ?_ | (with_reducible refine Later.trans ?_ (by assumption)) | (simp only [World.size_setCell, World.size_alloc, World.heap_drewN]; omega) | (simp; done) | (simp; omega)))).mono ?_; rintro e w2 ⟨rfl, hb2⟩; obtain ⟨z3, c3⟩ := Own.one hb2)))
        go_ret
        exact ⟨rfl, by repeat (first | with_reducible exact Later.refl _ | with_reducible assumption | with_reducible refine Later.ofdrew ?_ | with_reducible refine Later.ofdrewN ?_ | with_reducible refine Later.setCell ?_ ?_ _ | with_reducible refine Later.alloc ?_ _ | with_reducible refine Later.drewN ?_ _ | with_reducible refine Later.drew ?_ | (with_reducible refine Later.trans ?_ (by assumption)) | (simp only [World.size_setCell, World.size_alloc, World.heap_drewN]; omega) | (simp; done) | (simp; omega))⟩
      | true =>
        have HA : Hid ((1 ≤ 1 → true = true) ∧ (2 ≤ 1 → b1 = true) ∧ (3 ≤ 1 → b2 = true) ∧ (4 ≤ 1 → b3 = true) ∧ (5 ≤ 1 → b4 = true)) := Lib.hid (by simpa using hall.out)
        clear hall hr H1 H2 H3 H4
        go_wp2_with (first | refine wpList_idx (rule_0 _) rfl rfl rfl rfl ?_ | (go_at_call 109; go_must (refine (H0.out _ (by repeat (first | with_reducible exact Later.refl _ | with_reducible assumption | with_reducible refine Later.ofdrew ?_ | with_reducible refine Later.ofdrewN ?_ | with_reducible refine Later.setCell ?_ ?_ _ | with_reducible refine Later.alloc ?_ _ | with_reducible refine Later.drewN ?_ _ | with_reducible refine Later.drew ?_ | (with_reducible refine Later.trans ?_ (by assumption)) | (simp only [World.size_setCell, World.size_alloc, World.heap_drewN]; omega) | (simp; done) | (simp; omega)))).mono ?_; rintro e w2 ⟨rfl, hb2⟩; obtain ⟨z3, c3⟩ := Own.one hb2)))
        go_roundw
        case rel => exact ⟨1, by omega, rfl, HA, by repeat (first | with_reducible exact Later.refl _ | with_reducible assumption | with_reducible refine Later.ofdrew ?_ | with_reducible refine Later.ofdrewN ?_ | with_reducible refine Later.setCell ?_ ?_ _ | with_reducible refine Later.alloc ?_ _ | with_reducible refine Later.drewN ?_ _ | with_reducible refine Later.drew ?_ | (with_reducible refine Later.trans ?_ (by assumption)) | (simp only [World.size_setCell, World.size_alloc, World.heap_drewN]; omega) | (simp; done) | (simp; omega))⟩
        case measure => simp [intOf]
    ·
      cases b1 with
      | false =>
        have hr2 : r = 1 := by rw [← hr.out]; simp [hall.out]
        subst hr2
        clear hall hr H0 H2 H3 H4
        go_wp2_with (first | refine wpList_idx (rule_1 _) rfl rfl rfl rfl ?_ | (go_at_call 110; go_must (refine (H1.out _ (by repeat (first | with_reducible exact Later.refl _ | with_reducible assumption | with_reducible refine Later.ofdrew ?_ | with_reducible refine Later.ofdrewN ?_ | with_reducible refine Later.setCell ?_ ?_ _ | with_reducible refine Later.alloc ?_ _ | with_reducible refine Later.drewN ?_ _ | with_reducible refine Later.drew ?_ | (with_reducible refine Later.trans ?_ (by assumption)) | (simp only [World.size_setCell, World.size_alloc, World.heap_drewN]; omega) | (simp; done) | (simp; omega)))).mono ?_; rintro e w2 ⟨rfl, hb2⟩; obtain ⟨z3, c3⟩ := Own.one hb2)))
        go_ret
        exact ⟨rfl, by repeat (first | with_reducible exact Later.refl _ | with_reducible assumption | with_reducible refine Later.ofdrew ?_ | with_reducible refine Later.ofdrewN ?_ | with_reducible refine Later.setCell ?_ ?_ _ | with_reducible refine Later.alloc ?_ _ | with_reducible refine Later.drewN ?_ _ | with_reducible refine Later.drew ?_ | (with_reducible refine Later.trans ?_ (by assumption)) | (simp only [World.size_setCell, World.size_alloc, World.heap_drewN]; omega) | (simp; done) | (simp; omega))⟩
      | true =>
        have HA : Hid ((1 ≤ 2 → b0 = true) ∧ (2 ≤ 2 → true = true) ∧ (3 ≤ 2 → b2 = true) ∧ (4 ≤ 2 → b3 = true) ∧ (5 ≤ 2 → b4 = true)) := Lib.hid (by simpa using hall.out)
        clear hall hr H0 H2 H3 H4
        go_wp2_with (first | refine wpList_idx (rule_1 _) rfl rfl rfl rfl ?_ | (go_at_call 110; go_must (refine (H1.out _ (by repeat (first | with_reducible exact Later.refl _ | with_reducible assumption | with_reducible refine Later.ofdrew ?_ | with_reducible refine Later.ofdrewN ?_ | with_reducible refine Later.setCell ?_ ?_ _ | with_reducible refine Later.alloc ?_ _ | with_reducible refine Later.drewN ?_ _ | with_reducible refine Later.drew ?_ | (with_reducible refine Later.trans ?_ (by assumption)) | (simp only [World.size_setCell, World.size_alloc, World.heap_drewN]; omega) | (simp; done) | (simp; omega)))).mono ?_; rintro e w2 ⟨rfl, hb2⟩; obtain ⟨z3, c3⟩ := Own.one hb2)))
        go_roundw
        case rel => exact ⟨2, by omega, rfl, HA, by repeat (first | with_reducible exact Later.refl _ | with_reducible assumption | with_reducible refine Later.ofdrew ?_ | with_reducible refine Later.ofdrewN ?_ | with_reducible refine Later.setCell ?_ ?_ _ | with_reducible refine Later.alloc ?_ _ | with_reducible refine Later.drewN ?_ _ | with_reducible refine Later.drew ?_ | (with_reducible refine Later.trans ?_ (by assumption)) | (simp only [World.size_setCell, World.size_alloc, World.heap_drewN]; omega) | (simp; done) | (simp; omega))⟩
        case measure => simp [intOf]
    ·
      cases b2 with
      | false =>
        have hr2 : r = 12 := by rw [← hr.out]; simp [hall.out]
        subst hr2
        clear hall hr H0 H1 H3 H4
        go_wp2_with (first | refine wpList_idx (rule_2 _) rfl rfl rfl rfl ?_ | (go_at_call 111; go_must (refine (H2.out _ (by repeat (first | with_reducible exact Later.refl _ | with_reducible assumption | with_reducible refine Later.ofdrew ?_ | with_reducible refine Later.ofdrewN ?_ | with_reducible refine Later.setCell ?_ ?_ _ | with_reducible refine Later.alloc ?_ _ | with_reducible refine Later.drewN ?_ _ | with_reducible refine Later.drew ?_ | (with_reducible refine Later.trans ?_ (by assumption)) | (simp only [World.size_setCell, World.size_alloc, World.heap_drewN]; omega) | (simp; done) | (simp; omega)))).mono ?_; rintro e w2 ⟨rfl, hb2⟩; obtain ⟨z3, c3⟩ := Own.one hb2)))
        go_ret
        exact ⟨rfl, by repeat (first | with_reducible exact Later.refl _ | with_reducible assumption | with_reducible refine Later.ofdrew ?_ | with_reducible refine Later.ofdrewN ?_ | with_reducible refine Later.setCell ?_ ?_ _ | with_reducible refine Later.alloc ?_ _ | with_reducible refine Later.drewN ?_ _ | with_reducible refine Later.drew ?_ | (with_reducible refine Later.trans ?_ (by assumption)) | (simp only [World.size_setCell, World.size_alloc, World.heap_drewN]; omega) | (simp; done) | (simp; omega))⟩
      | true =>
        have HA : Hid ((1 ≤ 3 → b0 = true) ∧ (2 ≤ 3 → b1 = true) ∧ (3 ≤ 3 → true = true) ∧ (4 ≤ 3 → b3 = true) ∧ (5 ≤ 3 → b4 = true)) := Lib.hid (by simpa using hall.out)
        clear hall hr H0 H1 H3 H4
        go_wp2_with (first | refine wpList_idx (rule_2 _) rfl rfl rfl rfl ?_ | (go_at_call 111; go_must (refine (H2.out _ (by repeat (first | with_reducible exact Later.refl _ | with_reducible assumption | with_reducible refine Later.ofdrew ?_ | with_reducible refine Later.ofdrewN ?_ | with_reducible refine Later.setCell ?_ ?_ _ | with_reducible refine Later.alloc ?_ _ | with_reducible refine Later.drewN ?_ _ | with_reducible refine Later.drew ?_ | (with_reducible refine Later.trans ?_ (by assumption)) | (simp only [World.size_setCell, World.size_alloc, World.heap_drewN]; omega) | (simp; done) | (simp; omega)))).mono ?_; rintro e w2 ⟨rfl, hb2⟩; obtain ⟨z3, c3⟩ := Own.one hb2)))
        go_roundw
        case rel => exact ⟨3, by omega, rfl, HA, by repeat (first | with_reducible exact Later.refl _ | with_reducible assumption | with_reducible refine Later.ofdrew ?_ | with_reducible refine Later.ofdrewN ?_ | with_reducible refine Later.setCell ?_ ?_ _ | with_reducible refine Later.alloc ?_ _ | with_reducible refine Later.drewN ?_ _ | with_reducible refine Later.drew ?_ | (with_reducible refine Later.trans ?_ (by assumption)) | (simp only [World.size_setCell, World.size_alloc, World.heap_drewN]; omega) | (simp; done) | (simp; omega))⟩
        case measure => simp [intOf]
    ·
      cases b3 with
      | false =>
        have hr2 : r = 11 := by rw [← hr.out]; simp [hall.out]
        subst hr2
        clear hall hr H0 H1 H2 H4
        go_wp2_with (first | refine wpList_idx (rule_3 _) rfl rfl rfl rfl ?_ | (go_at_call 112; go_must (refine (H3.out _ (by repeat (first | with_reducible exact Later.refl _ | with_reducible assumption | with_reducible refine Later.ofdrew ?_ | with_reducible refine Later.ofdrewN ?_ | with_reducible refine Later.setCell ?_ ?_ _ | with_reducible refine Later.alloc ?_ _ | with_reducible refine Later.drewN ?_ _ | with_reducible refine Later.drew ?_ | (with_reducible refine Later.trans ?_ (by assumption)) | (simp only [World.size_setCell, World.size_alloc, World.heap_drewN]; omega) | (simp; done) | (simp; omega)))).mono ?_; rintro e w2 ⟨rfl, hb2⟩; obtain ⟨z3, c3⟩ := Own.one hb2)))
        go_ret
        exact ⟨rfl, by repeat (first | with_reducible exact Later.refl _ | with_reducible assumption | with_reducible refine Later.ofdrew ?_ | with_reducible refine Later.ofdrewN ?_ | with_reducible refine Later.setCell ?_ ?_ _ | with_reducible refine Later.alloc ?_ _ | with_reducible refine Later.drewN ?_ _ | with_reducible refine Later.drew ?_ | (with_reducible refine Later.trans ?_ (by assumption)) | (simp only [World.size_setCell, World.size_alloc, World.heap_drewN]; omega) | (simp; done) | (simp; omega))⟩
      | true =>
        have HA : Hid ((1 ≤ 4 → b0 = true) ∧ (2 ≤ 4 → b1 = true) ∧ (3 ≤ 4 → b2 = true) ∧ (4 ≤ 4 → true = true) ∧ (5 ≤ 4 → b4 = true)) := Lib.hid (by simpa using hall.out)
        clear hall hr H0 H1 H2 H4
        go_wp2_with (first | refine wpList_idx (rule_3 _) rfl rfl rfl rfl ?_ | (go_at_call 112; go_must (refine (H3.out _ (by repeat (first | with_reducible exact Later.refl _ | with_reducible assumption | with_reducible refine Later.ofdrew ?_ | with_reducible refine Later.ofdrewN ?_ | with_reducible refine Later.setCell ?_ ?_ _ | with_reducible refine Later.alloc ?_ _ | with_reducible refine Later.drewN ?_ _ | with_reducible refine Later.drew ?_ | (with_reducible refine Later.trans ?_ (by assumption)) | (simp only [World.size_setCell, World.size_alloc, World.heap_drewN]; omega) | (simp; done) | (simp; omega)))).mono ?_; rintro e w2 ⟨rfl, hb2⟩; obtain ⟨z3, c3⟩ := Own.one hb2)))
        go_roundw
        case rel => exact ⟨4, by omega, rfl, HA, by repeat (first | with_reducible exact Later.refl _ | with_reducible assumption | with_reducible refine Later.ofdrew ?_ | with_reducible refine Later.ofdrewN ?_ | with_reducible refine Later.setCell ?_ ?_ _ | with_reducible refine Later.alloc ?_ _ | with_reducible refine Later.drewN ?_ _ | with_reducible refine Later.drew ?_ | (with_reducible refine Later.trans ?_ (by assumption)) | (simp only [World.size_setCell, World.size_alloc, World.heap_drewN]; omega) | (simp; done) | (simp; omega))⟩
        case measure => simp [intOf]
    ·
      cases b4 with
      | false =>
        have hr2 : r = 20 := by rw [← hr.out]; simp [hall.out]
        subst hr2
        clear hall hr H0 H1 H2 H3
        go_wp2_with (first | refine wpList_idx (rule_4 _) rfl rfl rfl rfl ?_ | (go_at_call 104; go_must (refine (H4.out _ (by repeat (first | with_reducible exact Later.refl _ | with_reducible assumption | with_reducible refine Later.ofdrew ?_ | with_reducible refine Later.ofdrewN ?_ | with_reducible refine Later.setCell ?_ ?_ _ | with_reducible refine Later.alloc ?_ _ | with_reducible refine Later.drewN ?_ _ | with_reducible refine Later.drew ?_ | (with_reducible refine Later.trans ?_ (by assumption)) | (simp only [World.size_setCell, World.size_alloc, World.heap_drewN]; omega) | (simp; done) | (simp; omega)))).mono ?_; rintro e w2 ⟨rfl, hb2⟩; obtain ⟨z3, c3⟩ := Own.one hb2)))
        go_ret
        exact ⟨rfl, by repeat (first | with_reducible exact Later.refl _ | with_reducible assumption | with_reducible refine Later.ofdrew ?_ | with_reducible refine Later.ofdrewN ?_ | with_reducible refine Later.setCell ?_ ?_ _ | with_reducible refine Later.alloc ?_ _ | with_reducible refine Later.drewN ?_ _ | with_reducible refine Later.drew ?_ | (with_reducible refine Later.trans ?_ (by assumption)) | (simp only [World.size_setCell, World.size_alloc, World.heap_drewN]; omega) | (simp; done) | (simp; omega))⟩
      | true =>
        have HA : Hid ((1 ≤ 5 → b0 = true) ∧ (2 ≤ 5 → b1 = true) ∧ (3 ≤ 5 → b2 = true) ∧ (4 ≤ 5 → b3 = true) ∧ (5 ≤ 5 → true = true)) := Lib.hid (by simpa using hall.out)
        clear hall hr H0 H1 H2 H3
        go_wp2_with (first | refine wpList_idx (rule_4 _) rfl rfl rfl rfl ?_ | (go_at_call 104; go_must (refine (H4.out _ (by repeat (first | with_reducible exact Later.refl _ | with_reducible assumption | with_reducible refine Later.ofdrew ?_ | with_reducible refine Later.ofdrewN ?_ | with_reducible refine Later.setCell ?_ ?_ _ | with_reducible refine Later.alloc ?_ _ | with_reducible refine Later.drewN ?_ _ | with_reducible refine Later.drew ?_ | (with_reducible refine Later.trans ?_ (by assumption)) | (simp only [World.size_setCell, World.size_alloc, World.heap_drewN]; omega) | (simp; done) | (simp; omega)))).mono ?_; rintro e w2 ⟨rfl, hb2⟩; obtain ⟨z3, c3⟩ := Own.one hb2)))
        go_roundw
        case rel => exact ⟨5, by omega, rfl, HA, by repeat (first | with_reducible exact Later.refl _ | with_reducible assumption | with_reducible refine Later.ofdrew ?_ | with_reducible refine Later.ofdrewN ?_ | with_reducible refine Later.setCell ?_ ?_ _ | with_reducible refine Later.alloc ?_ _ | with_reducible refine Later.drewN ?_ _ | with_reducible refine Later.drew ?_ | (with_reducible refine Later.trans ?_ (by assumption)) | (simp only [World.size_setCell, World.size_alloc, World.heap_drewN]; omega) | (simp; done) | (simp; omega))⟩
        case measure => simp [intOf]
    ·
      have hr2 : r = 0 := by rw [← hr.out]; simp [hall.out]
      subst hr2
      clear hall hr H0 H1 H2 H3 H4
      go_wp2
      go_ret
      exact ⟨rfl, by repeat (first | with_reducible exact Later.refl _ | with_reducible assumption | with_reducible refine Later.ofdrew ?_ | with_reducible refine Later.ofdrewN ?_ | with_reducible refine Later.setCell ?_ ?_ _ | with_reducible refine Later.alloc ?_ _ | with_reducible refine Later.drewN ?_ _ | with_reducible refine Later.drew ?_ | (with_reducible refine Later.trans ?_ (by assumption)) | (simp only [World.size_setCell, World.size_alloc, World.heap_drewN]; omega) | (simp; done) | (simp; omega))⟩
end Go.Proofs.YtpblfheeeifjcaaDoor
