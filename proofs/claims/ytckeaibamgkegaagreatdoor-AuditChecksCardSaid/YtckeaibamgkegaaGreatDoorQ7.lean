/- rows of a type of their own; clones -/
import Derived.Test.YtckeaibamgkegaaGreatDoorQ6
import Derived.Laws.EntriesVeiled
import Derived.Shelf.SlMaps.Clone
set_option linter.all false
set_option linter.all false
section
/- entry.Check by its table of rules -/
namespace Go.Proofs.YtckeaibamgkegaaGreatDoor
open Go.RowKit
set_option maxRecDepth 100000


/-- The table of rules. -/
def rulesA : Array Value := #[.func (.func 121) #[] #[], .int .i64 10, .func (.func 122) #[] #[], .int .i64 1, .func (.func 123) #[] #[], .int .i64 12, .func (.func 124) #[] #[], .int .i64 11, .func (.func 117) #[] #[], .int .i64 20]
def RulesAt (w : World) : Prop := ∃ t fr, w.heap[0]? = some (.cells rulesA t fr)
theorem RulesAt.later {w w' : World} (h : RulesAt w) (hb : Later w w') : RulesAt w' := by
  obtain ⟨t, fr, h1⟩ := h
  exact ⟨t, fr, (hb.block 0 (Array.getElem?_eq_some_iff.1 h1).1).trans h1⟩
theorem run_rule {P : Program} (t e : TypeId) (n : Nat) (cs : Array Value) (k : Nat) (w : World) (h : P.underlying t = some (.array n e)) (hk : k < n) (hs : ∀ w, (sizeOf e).run P w = .ok 2 w) (ha : ∀ w, (isAgg e).run P w = .ok true w) :
    (Instr.index t (.agg cs) (.int .i64 (k : Int))).run P w = .ok (.agg (cs.extract (k * 2) (k * 2 + 2))) w := by
  have h1 : (0 : Int) ≤ (k : Int) ∧ (k : Int) < (n : Int) := by omega
  simp [Instr.index, run_underlying h, asIntOf, hk, hs, part, ha, Result.andThen]
theorem rule_0 (W : World) : (Instr.index 138 (.agg rulesA) (.int .i64 0)).run Tryz.prog W = .ok (.agg #[.func (.func 121) #[] #[], .int .i64 10]) W := by
  have h := run_rule 138 _ 5 rulesA 0 W Tryz.underlying138 (by decide) (fun w => by kernel_rfl) (fun w => by kernel_rfl)
  exact h
theorem rule_1 (W : World) : (Instr.index 138 (.agg rulesA) (.int .i64 1)).run Tryz.prog W = .ok (.agg #[.func (.func 122) #[] #[], .int .i64 1]) W := by
  have h := run_rule 138 _ 5 rulesA 1 W Tryz.underlying138 (by decide) (fun w => by kernel_rfl) (fun w => by kernel_rfl)
  exact h
theorem rule_2 (W : World) : (Instr.index 138 (.agg rulesA) (.int .i64 2)).run Tryz.prog W = .ok (.agg #[.func (.func 123) #[] #[], .int .i64 12]) W := by
  have h := run_rule 138 _ 5 rulesA 2 W Tryz.underlying138 (by decide) (fun w => by kernel_rfl) (fun w => by kernel_rfl)
  exact h
theorem rule_3 (W : World) : (Instr.index 138 (.agg rulesA) (.int .i64 3)).run Tryz.prog W = .ok (.agg #[.func (.func 124) #[] #[], .int .i64 11]) W := by
  have h := run_rule 138 _ 5 rulesA 3 W Tryz.underlying138 (by decide) (fun w => by kernel_rfl) (fun w => by kernel_rfl)
  exact h
theorem rule_4 (W : World) : (Instr.index 138 (.agg rulesA) (.int .i64 4)).run Tryz.prog W = .ok (.agg #[.func (.func 117) #[] #[], .int .i64 20]) W := by
  have h := run_rule 138 _ 5 rulesA 4 W Tryz.underlying138 (by decide) (fun w => by kernel_rfl) (fun w => by kernel_rfl)
  exact h

set_option maxHeartbeats 4000000 in
theorem check_any (con day cur seq per ref : Int) (u : Value) (ls : List Ln) (hlen : ls.length ≤ 100000) (w : World) (hN : IsLines w u ls) (hwd : ∀ y ∈ ls, y.ok) (hR : RulesAt w) : Calls Tryz.prog 63 #[.agg #[.int .i64 con, .int .i64 day, .int .i64 cur, .int .i64 seq, .int .i64 per, .int .i64 ref, u]] w fun e w' => e = .returned (.int .i64 (entryE ⟨con, day, cur, seq, per, ref, ls⟩)) ∧ Later w w' := by
  have H0 := Lib.hid (fun W (hl : Later w W) => ranges_any con day cur seq per ref u ls hlen W (IsRow.later hN hl))
  have H1 := Lib.hid (fun W (hl : Later w W) => lines_any con day cur seq per ref u ls hlen W (IsRow.later hN hl))
  have H2 := Lib.hid (fun W (hl : Later w W) => some_any con day cur seq per ref u ls hlen W (IsRow.later hN hl))
  have H3 := Lib.hid (fun W (hl : Later w W) => fits_any con day cur seq per ref u ls hlen W (IsRow.later hN hl))
  have H4 := Lib.hid (fun W (hl : Later w W) => even_any con day cur seq per ref u ls hlen W (IsRow.later hN hl) hwd)
  obtain ⟨r, hr⟩ : ∃ r, entryE ⟨con, day, cur, seq, per, ref, ls⟩ = r := ⟨_, rfl⟩
  rw [hr]
  unfold entryE at hr
  generalize rangesB ⟨con, day, cur, seq, per, ref, ls⟩ = b0 at *
  generalize linesB ⟨con, day, cur, seq, per, ref, ls⟩ = b1 at *
  generalize someB ⟨con, day, cur, seq, per, ref, ls⟩ = b2 at *
  generalize amtB ⟨con, day, cur, seq, per, ref, ls⟩ = b3 at *
  generalize evenB ⟨con, day, cur, seq, per, ref, ls⟩ = b4 at *
  have hr := Lib.hid hr
  obtain ⟨p, cp, rfl⟩ := hN.form
  clear hN hlen hwd
  go_enter Tryz.func63, Tryz.ntmps63
  go_upto_region 1 with (fail)
  refine wp_opaque (fun w0 hb0 => ?_)
  have hO := Own.one hb0
  have hb1 := hb0.un1
  obtain ⟨tr, fr, hrow⟩ := hR.later hb1
  clear hR
  go_wp2_with (refine wpList_load_row rfl 138 _ rfl 0 rfl tr rulesA fr _ hrow Tryz.underlying138 rfl (by kernel_rfl) ?_)
  go_loopw [6] (fun s6 wr => ∃ j : Nat, j ≤ 5 ∧ s6 = .int .i64 j ∧ Hid ((1 ≤ j → b0 = true) ∧ (2 ≤ j → b1 = true) ∧ (3 ≤ j → b2 = true) ∧ (4 ≤ j → b3 = true) ∧ (5 ≤ j → b4 = true)) ∧ Later w0 wr) (fun s6 _ => 5 - (intOf s6).toNat)
  case atStart => exact ⟨0, Nat.zero_le _, rfl, Lib.hid ⟨by omega, by omega, by omega, by omega, by omega⟩, Later.refl _⟩
  case round =>
    obtain ⟨j, hj, rfl, hall, hlat⟩ := hrel
    obtain ⟨⟨z1, c1, -⟩, -⟩ := hO.later hlat
    have hlw := hb1.trans hlat
    have hj' : j = 0 ∨ j = 1 ∨ j = 2 ∨ j = 3 ∨ j = 4 ∨ j = 5 := by omega
    clear hrow hb0 hj
    rcases hj' with rfl | rfl | rfl | rfl | rfl | rfl
    ·
      cases b0 with
      | false =>
        have hr2 : r = 10 := by rw [← hr.out]; simp [hall.out]
        subst hr2
        clear hall hr H1 H2 H3 H4
        go_wp2_with (first | refine wpList_idx (rule_0 _) rfl rfl rfl rfl ?_ | (go_at_call 121; go_must (refine (H0.out _ (by repeat (first | with_reducible exact Later.refl _ | with_reducible assumption | with_reducible refine Later.ofdrew ?_ | with_reducible refine Later.ofdrewN ?_ | with_reducible refine Later.setCell ?_ ?_ _ | with_reducible refine Later.alloc ?_ _ | with_reducible refine Later.drewN ?_ _ | with_reducible refine Later.drew ?_ | (with_reducible refine Later.trans ?_ (by assumption)) | (simp only [World.size_setCell, World.size_alloc, World.heap_drewN]; omega) | (simp; done) | (simp; omega)))).mono ?_; rintro e w2 ⟨rfl, hb2⟩; obtain ⟨z3, c3⟩ := Own.one hb2)))
        go_ret
        exact ⟨rfl, by repeat (first | with_reducible exact Later.refl _ | with_reducible assumption | with_reducible refine Later.ofdrew ?_ | with_reducible refine Later.ofdrewN ?_ | with_reducible refine Later.setCell ?_ ?_ _ | with_reducible refine Later.alloc ?_ _ | with_reducible refine Later.drewN ?_ _ | with_reducible refine Later.drew ?_ | (with_reducible refine Later.trans ?_ (by assumption)) | (simp only [World.size_setCell, World.size_alloc, World.heap_drewN]; omega) | (simp; done) | (simp; omega))⟩
      | true =>
        have HA : Hid ((1 ≤ 1 → true = true) ∧ (2 ≤ 1 → b1 = true) ∧ (3 ≤ 1 → b2 = true) ∧ (4 ≤ 1 → b3 = true) ∧ (5 ≤ 1 → b4 = true)) := Lib.hid (by simpa using hall.out)
        clear hall hr H1 H2 H3 H4
        go_wp2_with (first | refine wpList_idx (rule_0 _) rfl rfl rfl rfl ?_ | (go_at_call 121; go_must (refine (H0.out _ (by repeat (first | with_reducible exact Later.refl _ | with_reducible assumption | with_reducible refine Later.ofdrew ?_ | with_reducible refine Later.ofdrewN ?_ | with_reducible refine Later.setCell ?_ ?_ _ | with_reducible refine Later.alloc ?_ _ | with_reducible refine Later.drewN ?_ _ | with_reducible refine Later.drew ?_ | (with_reducible refine Later.trans ?_ (by assumption)) | (simp only [World.size_setCell, World.size_alloc, World.heap_drewN]; omega) | (simp; done) | (simp; omega)))).mono ?_; rintro e w2 ⟨rfl, hb2⟩; obtain ⟨z3, c3⟩ := Own.one hb2)))
        go_roundw
        case rel => exact ⟨1, by omega, rfl, HA, by repeat (first | with_reducible exact Later.refl _ | with_reducible assumption | with_reducible refine Later.ofdrew ?_ | with_reducible refine Later.ofdrewN ?_ | with_reducible refine Later.setCell ?_ ?_ _ | with_reducible refine Later.alloc ?_ _ | with_reducible refine Later.drewN ?_ _ | with_reducible refine Later.drew ?_ | (with_reducible refine Later.trans ?_ (by assumption)) | (simp only [World.size_setCell, World.size_alloc, World.heap_drewN]; omega) | (simp; done) | (simp; omega))⟩
        case measure => simp [intOf]
    ·
      cases b1 with
      | false =>
        have hr2 : r = 1 := by rw [← hr.out]; simp [hall.out]
        subst hr2
        clear hall hr H0 H2 H3 H4
        go_wp2_with (first | refine wpList_idx (rule_1 _) rfl rfl rfl rfl ?_ | (go_at_call 122; go_must (refine (H1.out _ (by repeat (first | with_reducible exact Later.refl _ | with_reducible assumption | with_reducible refine Later.ofdrew ?_ | with_reducible refine Later.ofdrewN ?_ | with_reducible refine Later.setCell ?_ ?_ _ | with_reducible refine Later.alloc ?_ _ | with_reducible refine Later.drewN ?_ _ | with_reducible refine Later.drew ?_ | (with_reducible refine Later.trans ?_ (by assumption)) | (simp only [World.size_setCell, World.size_alloc, World.heap_drewN]; omega) | (simp; done) | (simp; omega)))).mono ?_; rintro e w2 ⟨rfl, hb2⟩; obtain ⟨z3, c3⟩ := Own.one hb2)))
        go_ret
        exact ⟨rfl, by repeat (first | with_reducible exact Later.refl _ | with_reducible assumption | with_reducible refine Later.ofdrew ?_ | with_reducible refine Later.ofdrewN ?_ | with_reducible refine Later.setCell ?_ ?_ _ | with_reducible refine Later.alloc ?_ _ | with_reducible refine Later.drewN ?_ _ | with_reducible refine Later.drew ?_ | (with_reducible refine Later.trans ?_ (by assumption)) | (simp only [World.size_setCell, World.size_alloc, World.heap_drewN]; omega) | (simp; done) | (simp; omega))⟩
      | true =>
        have HA : Hid ((1 ≤ 2 → b0 = true) ∧ (2 ≤ 2 → true = true) ∧ (3 ≤ 2 → b2 = true) ∧ (4 ≤ 2 → b3 = true) ∧ (5 ≤ 2 → b4 = true)) := Lib.hid (by simpa using hall.out)
        clear hall hr H0 H2 H3 H4
        go_wp2_with (first | refine wpList_idx (rule_1 _) rfl rfl rfl rfl ?_ | (go_at_call 122; go_must (refine (H1.out _ (by repeat (first | with_reducible exact Later.refl _ | with_reducible assumption | with_reducible refine Later.ofdrew ?_ | with_reducible refine Later.ofdrewN ?_ | with_reducible refine Later.setCell ?_ ?_ _ | with_reducible refine Later.alloc ?_ _ | with_reducible refine Later.drewN ?_ _ | with_reducible refine Later.drew ?_ | (with_reducible refine Later.trans ?_ (by assumption)) | (simp only [World.size_setCell, World.size_alloc, World.heap_drewN]; omega) | (simp; done) | (simp; omega)))).mono ?_; rintro e w2 ⟨rfl, hb2⟩; obtain ⟨z3, c3⟩ := Own.one hb2)))
        go_roundw
        case rel => exact ⟨2, by omega, rfl, HA, by repeat (first | with_reducible exact Later.refl _ | with_reducible assumption | with_reducible refine Later.ofdrew ?_ | with_reducible refine Later.ofdrewN ?_ | with_reducible refine Later.setCell ?_ ?_ _ | with_reducible refine Later.alloc ?_ _ | with_reducible refine Later.drewN ?_ _ | with_reducible refine Later.drew ?_ | (with_reducible refine Later.trans ?_ (by assumption)) | (simp only [World.size_setCell, World.size_alloc, World.heap_drewN]; omega) | (simp; done) | (simp; omega))⟩
        case measure => simp [intOf]
    ·
      cases b2 with
      | false =>
        have hr2 : r = 12 := by rw [← hr.out]; simp [hall.out]
        subst hr2
        clear hall hr H0 H1 H3 H4
        go_wp2_with (first | refine wpList_idx (rule_2 _) rfl rfl rfl rfl ?_ | (go_at_call 123; go_must (refine (H2.out _ (by repeat (first | with_reducible exact Later.refl _ | with_reducible assumption | with_reducible refine Later.ofdrew ?_ | with_reducible refine Later.ofdrewN ?_ | with_reducible refine Later.setCell ?_ ?_ _ | with_reducible refine Later.alloc ?_ _ | with_reducible refine Later.drewN ?_ _ | with_reducible refine Later.drew ?_ | (with_reducible refine Later.trans ?_ (by assumption)) | (simp only [World.size_setCell, World.size_alloc, World.heap_drewN]; omega) | (simp; done) | (simp; omega)))).mono ?_; rintro e w2 ⟨rfl, hb2⟩; obtain ⟨z3, c3⟩ := Own.one hb2)))
        go_ret
        exact ⟨rfl, by repeat (first | with_reducible exact Later.refl _ | with_reducible assumption | with_reducible refine Later.ofdrew ?_ | with_reducible refine Later.ofdrewN ?_ | with_reducible refine Later.setCell ?_ ?_ _ | with_reducible refine Later.alloc ?_ _ | with_reducible refine Later.drewN ?_ _ | with_reducible refine Later.drew ?_ | (with_reducible refine Later.trans ?_ (by assumption)) | (simp only [World.size_setCell, World.size_alloc, World.heap_drewN]; omega) | (simp; done) | (simp; omega))⟩
      | true =>
        have HA : Hid ((1 ≤ 3 → b0 = true) ∧ (2 ≤ 3 → b1 = true) ∧ (3 ≤ 3 → true = true) ∧ (4 ≤ 3 → b3 = true) ∧ (5 ≤ 3 → b4 = true)) := Lib.hid (by simpa using hall.out)
        clear hall hr H0 H1 H3 H4
        go_wp2_with (first | refine wpList_idx (rule_2 _) rfl rfl rfl rfl ?_ | (go_at_call 123; go_must (refine (H2.out _ (by repeat (first | with_reducible exact Later.refl _ | with_reducible assumption | with_reducible refine Later.ofdrew ?_ | with_reducible refine Later.ofdrewN ?_ | with_reducible refine Later.setCell ?_ ?_ _ | with_reducible refine Later.alloc ?_ _ | with_reducible refine Later.drewN ?_ _ | with_reducible refine Later.drew ?_ | (with_reducible refine Later.trans ?_ (by assumption)) | (simp only [World.size_setCell, World.size_alloc, World.heap_drewN]; omega) | (simp; done) | (simp; omega)))).mono ?_; rintro e w2 ⟨rfl, hb2⟩; obtain ⟨z3, c3⟩ := Own.one hb2)))
        go_roundw
        case rel => exact ⟨3, by omega, rfl, HA, by repeat (first | with_reducible exact Later.refl _ | with_reducible assumption | with_reducible refine Later.ofdrew ?_ | with_reducible refine Later.ofdrewN ?_ | with_reducible refine Later.setCell ?_ ?_ _ | with_reducible refine Later.alloc ?_ _ | with_reducible refine Later.drewN ?_ _ | with_reducible refine Later.drew ?_ | (with_reducible refine Later.trans ?_ (by assumption)) | (simp only [World.size_setCell, World.size_alloc, World.heap_drewN]; omega) | (simp; done) | (simp; omega))⟩
        case measure => simp [intOf]
    ·
      cases b3 with
      | false =>
        have hr2 : r = 11 := by rw [← hr.out]; simp [hall.out]
        subst hr2
        clear hall hr H0 H1 H2 H4
        go_wp2_with (first | refine wpList_idx (rule_3 _) rfl rfl rfl rfl ?_ | (go_at_call 124; go_must (refine (H3.out _ (by repeat (first | with_reducible exact Later.refl _ | with_reducible assumption | with_reducible refine Later.ofdrew ?_ | with_reducible refine Later.ofdrewN ?_ | with_reducible refine Later.setCell ?_ ?_ _ | with_reducible refine Later.alloc ?_ _ | with_reducible refine Later.drewN ?_ _ | with_reducible refine Later.drew ?_ | (with_reducible refine Later.trans ?_ (by assumption)) | (simp only [World.size_setCell, World.size_alloc, World.heap_drewN]; omega) | (simp; done) | (simp; omega)))).mono ?_; rintro e w2 ⟨rfl, hb2⟩; obtain ⟨z3, c3⟩ := Own.one hb2)))
        go_ret
        exact ⟨rfl, by repeat (first | with_reducible exact Later.refl _ | with_reducible assumption | with_reducible refine Later.ofdrew ?_ | with_reducible refine Later.ofdrewN ?_ | with_reducible refine Later.setCell ?_ ?_ _ | with_reducible refine Later.alloc ?_ _ | with_reducible refine Later.drewN ?_ _ | with_reducible refine Later.drew ?_ | (with_reducible refine Later.trans ?_ (by assumption)) | (simp only [World.size_setCell, World.size_alloc, World.heap_drewN]; omega) | (simp; done) | (simp; omega))⟩
      | true =>
        have HA : Hid ((1 ≤ 4 → b0 = true) ∧ (2 ≤ 4 → b1 = true) ∧ (3 ≤ 4 → b2 = true) ∧ (4 ≤ 4 → true = true) ∧ (5 ≤ 4 → b4 = true)) := Lib.hid (by simpa using hall.out)
        clear hall hr H0 H1 H2 H4
        go_wp2_with (first | refine wpList_idx (rule_3 _) rfl rfl rfl rfl ?_ | (go_at_call 124; go_must (refine (H3.out _ (by repeat (first | with_reducible exact Later.refl _ | with_reducible assumption | with_reducible refine Later.ofdrew ?_ | with_reducible refine Later.ofdrewN ?_ | with_reducible refine Later.setCell ?_ ?_ _ | with_reducible refine Later.alloc ?_ _ | with_reducible refine Later.drewN ?_ _ | with_reducible refine Later.drew ?_ | (with_reducible refine Later.trans ?_ (by assumption)) | (simp only [World.size_setCell, World.size_alloc, World.heap_drewN]; omega) | (simp; done) | (simp; omega)))).mono ?_; rintro e w2 ⟨rfl, hb2⟩; obtain ⟨z3, c3⟩ := Own.one hb2)))
        go_roundw
        case rel => exact ⟨4, by omega, rfl, HA, by repeat (first | with_reducible exact Later.refl _ | with_reducible assumption | with_reducible refine Later.ofdrew ?_ | with_reducible refine Later.ofdrewN ?_ | with_reducible refine Later.setCell ?_ ?_ _ | with_reducible refine Later.alloc ?_ _ | with_reducible refine Later.drewN ?_ _ | with_reducible refine Later.drew ?_ | (with_reducible refine Later.trans ?_ (by assumption)) | (simp only [World.size_setCell, World.size_alloc, World.heap_drewN]; omega) | (simp; done) | (simp; omega))⟩
        case measure => simp [intOf]
    ·
      cases b4 with
      | false =>
        have hr2 : r = 20 := by rw [← hr.out]; simp [hall.out]
        subst hr2
        clear hall hr H0 H1 H2 H3
        go_wp2_with (first | refine wpList_idx (rule_4 _) rfl rfl rfl rfl ?_ | (go_at_call 117; go_must (refine (H4.out _ (by repeat (first | with_reducible exact Later.refl _ | with_reducible assumption | with_reducible refine Later.ofdrew ?_ | with_reducible refine Later.ofdrewN ?_ | with_reducible refine Later.setCell ?_ ?_ _ | with_reducible refine Later.alloc ?_ _ | with_reducible refine Later.drewN ?_ _ | with_reducible refine Later.drew ?_ | (with_reducible refine Later.trans ?_ (by assumption)) | (simp only [World.size_setCell, World.size_alloc, World.heap_drewN]; omega) | (simp; done) | (simp; omega)))).mono ?_; rintro e w2 ⟨rfl, hb2⟩; obtain ⟨z3, c3⟩ := Own.one hb2)))
        go_ret
        exact ⟨rfl, by repeat (first | with_reducible exact Later.refl _ | with_reducible assumption | with_reducible refine Later.ofdrew ?_ | with_reducible refine Later.ofdrewN ?_ | with_reducible refine Later.setCell ?_ ?_ _ | with_reducible refine Later.alloc ?_ _ | with_reducible refine Later.drewN ?_ _ | with_reducible refine Later.drew ?_ | (with_reducible refine Later.trans ?_ (by assumption)) | (simp only [World.size_setCell, World.size_alloc, World.heap_drewN]; omega) | (simp; done) | (simp; omega))⟩
      | true =>
        have HA : Hid ((1 ≤ 5 → b0 = true) ∧ (2 ≤ 5 → b1 = true) ∧ (3 ≤ 5 → b2 = true) ∧ (4 ≤ 5 → b3 = true) ∧ (5 ≤ 5 → true = true)) := Lib.hid (by simpa using hall.out)
        clear hall hr H0 H1 H2 H3
        go_wp2_with (first | refine wpList_idx (rule_4 _) rfl rfl rfl rfl ?_ | (go_at_call 117; go_must (refine (H4.out _ (by repeat (first | with_reducible exact Later.refl _ | with_reducible assumption | with_reducible refine Later.ofdrew ?_ | with_reducible refine Later.ofdrewN ?_ | with_reducible refine Later.setCell ?_ ?_ _ | with_reducible refine Later.alloc ?_ _ | with_reducible refine Later.drewN ?_ _ | with_reducible refine Later.drew ?_ | (with_reducible refine Later.trans ?_ (by assumption)) | (simp only [World.size_setCell, World.size_alloc, World.heap_drewN]; omega) | (simp; done) | (simp; omega)))).mono ?_; rintro e w2 ⟨rfl, hb2⟩; obtain ⟨z3, c3⟩ := Own.one hb2)))
        go_roundw
        case rel => exact ⟨5, by omega, rfl, HA, by repeat (first | with_reducible exact Later.refl _ | with_reducible assumption | with_reducible refine Later.ofdrew ?_ | with_reducible refine Later.ofdrewN ?_ | with_reducible refine Later.setCell ?_ ?_ _ | with_reducible refine Later.alloc ?_ _ | with_reducible refine Later.drewN ?_ _ | with_reducible refine Later.drew ?_ | (with_reducible refine Later.trans ?_ (by assumption)) | (simp only [World.size_setCell, World.size_alloc, World.heap_drewN]; omega) | (simp; done) | (simp; omega))⟩
        case measure => simp [intOf]
    ·
      have hr2 : r = 0 := by rw [← hr.out]; simp [hall.out]
      subst hr2
      clear hall hr H0 H1 H2 H3 H4
      go_wp2
      go_ret
      exact ⟨rfl, by repeat (first | with_reducible exact Later.refl _ | with_reducible assumption | with_reducible refine Later.ofdrew ?_ | with_reducible refine Later.ofdrewN ?_ | with_reducible refine Later.setCell ?_ ?_ _ | with_reducible refine Later.alloc ?_ _ | with_reducible refine Later.drewN ?_ _ | with_reducible refine Later.drew ?_ | (with_reducible refine Later.trans ?_ (by assumption)) | (simp only [World.size_setCell, World.size_alloc, World.heap_drewN]; omega) | (simp; done) | (simp; omega))⟩
end Go.Proofs.YtckeaibamgkegaaGreatDoor
end
section
/- rows of a type of their own; clones -/
namespace Go.Proofs.YtckeaibamgkegaaGreatDoor
open Go.RowKit
set_option maxRecDepth 100000

/-- A row in a block of cells of its type. -/
def RowT {α : Type} (t : TypeId) (sz : Nat) (f : α → Nat → Value) (w : World) (v : Value) (xs : List α) : Prop :=
  IsRow sz f w v xs ∧ ∀ b, v.ownBlock = some b → ∃ cs fr, w.heap[b]? = some (.cells cs t fr)
section
variable {α : Type} {t : TypeId} {sz : Nat} {f : α → Nat → Value} {w w' : World} {v : Value} {xs : List α}
theorem RowT.later (h : RowT t sz f w v xs) (hb : Later w w') : RowT t sz f w' v xs :=
  ⟨h.1.later hb, fun b e => by
    obtain ⟨cs, fr, h1⟩ := h.2 b e
    exact ⟨cs, fr, (hb.block b (Array.getElem?_eq_some_iff.1 h1).1).trans h1⟩⟩
theorem RowT.grown (h : RowT t sz f w v xs) {q : Nat} (hg : w.grownBy w' (some q)) (hq : ∀ cs fr, w.heap[q]? ≠ some (.cells cs t fr)) : RowT t sz f w' v xs := by
  have hb : ∀ b, v.ownBlock = some b → w'.heap[b]? = w.heap[b]? := by
    intro b e
    obtain ⟨cs, fr, h1⟩ := h.2 b e
    exact hg.block b (Array.getElem?_eq_some_iff.1 h1).1 (fun e2 => by cases e2; exact hq _ _ h1)
  refine ⟨?_, fun b e => ?_⟩
  · rcases h.1 with h1 | ⟨b, o, cap, h1, h2, h3, h4, h5⟩
    · exact .inl h1
    · refine .inr ⟨b, o, cap, h1, Nat.lt_of_lt_of_le h2 hg.size, h3, h4, fun i hi j hj => ?_⟩
      rw [World.cell?_of_block (hb b (by rw [h1]; rfl))]
      exact h5 i hi j hj
  · obtain ⟨cs, fr, h1⟩ := h.2 b e
    exact ⟨cs, fr, (hb b e).trans h1⟩
theorem RowT.nil (w : World) : RowT t sz f w (.slice none 0 0) [] := ⟨IsRow.nil w, fun b e => by cases e⟩
theorem Mine.rowT {w0 : World} {n : Nat} (cs : α → List Value) (hcs : ∀ x, (cs x).length = sz) (hf : ∀ x j, j < sz → (cs x)[j]? = some (f x j)) (hsz : 0 < sz) (h : Mine w0 t sz w v n (xs.flatMap cs)) : RowT t sz f w v xs ∧ n = xs.length := by
  have h1 := h.row_ cs hcs hf hsz
  refine ⟨⟨h1.1, fun b e => ?_⟩, h1.2⟩
  rcases h.1.2 with ⟨h2, _⟩ | ⟨g, cap, cur, h2, _, h4, _⟩
  · rw [h2] at e; cases e
  · rw [h2] at e; cases e; exact ⟨_, _, h4⟩
theorem IsRow.cellsAt (h : IsRow sz f w v xs) (cs : α → List Value) (hcs : ∀ x, (cs x).length = sz) (hf : ∀ x j, j < sz → (cs x)[j]? = some (f x j)) (hsz : 0 < sz) (h0 : v ≠ .slice none 0 0) :
    ∃ ad cap, v = .slice (some ad) xs.length cap ∧ xs.length ≤ maxLen ∧ ∀ W, Later w W → ∀ j u, (xs.flatMap cs)[j]? = some u → W.cell? (ad.add j) = some u := by
  rcases h with ⟨⟨p, h1⟩, h2⟩ | ⟨b, o, cap, h1, h2, h3, h4, h5⟩
  · subst h2
    cases p with
    | none => exact absurd h1 h0
    | some ad => exact ⟨ad, 0, h1, by simp, fun W _ j u hj => by simp at hj⟩
  · refine ⟨⟨b, o, none⟩, cap, h1, Nat.le_trans h3 h4, fun W hl j u hj => ?_⟩
    have hjl : j < (xs.flatMap cs).length := (List.getElem?_eq_some_iff.1 hj).1
    rw [flat_len cs hcs] at hjl
    have hi : j / sz < xs.length := by rw [Nat.div_lt_iff_lt_mul hsz]; exact hjl
    have hm := Nat.mod_lt j hsz
    have e : j = j / sz * sz + j % sz := by rw [Nat.mul_comm]; exact (Nat.div_add_mod j sz).symm
    have e2 := h5 (j / sz) hi (j % sz) hm
    have e3 := ((bcell hl).1 _ _ h2).trans e2
    rw [add_plain, ← hj]
    rw [e, flat_get cs hcs xs (j / sz) hi (j % sz) hm, hf _ _ hm, ← Nat.add_assoc]
    exact e3
theorem wpList_appA {P : Program} {w0 w : World} {e sz : Nat} {v : Value} {n : Nat} {xs : List Value} {ops : Array Oper} {rest : List Oper} {o : Oper} {a : Act} {Q : Exit → Act → World → Prop} {t bytes : Nat} (T : SliceOf P t e sz bytes) (hM : Mine w0 e sz w v n xs) (hgd : o.guard = none) (s x : Operand)
    (ho : o.op = .call { callee := .builtin .append, args := #[s, x], argTypes := #[t, t] }) (hs : a.eval s = v)
    (ad : Addr) (m c : Nat) (news : List Value) (hx : a.eval x = .slice (some ad) m c) (hl : news.length = m * sz) (hc : ∀ j u, news[j]? = some u → w.cell? (ad.add j) = some u) (h1 : ∀ u ∈ news, u.oneCell' = true)
    (h63 : (n + m) * bytes ≤ 140737488355328) (h64 : n + m ≤ maxLen)
    (h : ∀ v' w', Mine w0 e sz w' v' (n + m) (xs ++ news) → w.grownBy w' v.ownBlock → wpList P ops Q rest (a.put o.dst v') w') : wpList P ops Q (o :: rest) a w := by
  obtain ⟨i, z, t1, t2, t3, t4, t5, t6, t7⟩ := T
  exact wpList_append_own _ hgd s x t ho w0.heap.size e i z sz bytes t1 t2 t3 t4 t5 t6 t7 v n xs hs hM.1 ad m c news hx hl hc h1 h64 h63 (Later.size hM.2) (fun v' w' h1' h2' _ => h v' w' ⟨h1', Later.grown hM.2 h2' (fun k hk => (hM.1.lt k hk).1)⟩ h2')
end
theorem lnInfo : (Tryz.prog.info? 92).map (fun i => (i.zero, i.size, i.bytes)) = some (some (.agg #[.int .i64 0, .int .i64 0, .int .i64 0]), 3, 24) := by kernel_rfl
theorem sliceLn : SliceOf Tryz.prog 46 92 3 24 := sliceOf_mk Tryz.underlying46 lnInfo rfl (by decide)
theorem enInfo : (Tryz.prog.info? 48).map (fun i => (i.zero, i.size, i.bytes)) = some (some (.agg #[.int .i64 0, .int .i64 0, .int .i64 0, .int .i64 0, .int .i64 0, .int .i64 0, .slice none 0 0]), 7, 72) := by kernel_rfl
theorem sliceEn : SliceOf Tryz.prog 82 48 7 72 := sliceOf_mk Tryz.underlying82 enInfo rfl (by decide)
theorem enCs_len (x : En × Value) : (enCs x).length = 7 := rfl
theorem lnCs_len (x : Ln) : (lnCs x).length = 3 := rfl
theorem enF_one (x : En × Value) (h : ∃ p n c, x.2 = .slice p n c) : ∀ u ∈ enCs x, u.oneCell' = true := by
  obtain ⟨x, v⟩ := x
  obtain ⟨p, n, c, rfl⟩ := h
  intro u hu
  simp only [enCs, List.mem_cons, List.not_mem_nil, or_false] at hu
  rcases hu with rfl | rfl | rfl | rfl | rfl | rfl | rfl <;> rfl


set_option maxHeartbeats 1600000 in
theorem lines_clone (xs : List (Ln)) (hlen : xs.length ≤ 100000) (h1 : ∀ x ∈ xs, ∀ u ∈ lnCs x, u.oneCell' = true) (v : Value) (w : World) (hN : IsRow 3 lnF w v xs) :
    Calls Tryz.prog 41 #[v] w fun e w' => ∃ v', e = .returned v' ∧ Mine w 92 3 w' v' xs.length (xs.flatMap lnCs) := by
  by_cases h0 : v = .slice none 0 0
  · have hx : xs = [] := by
      rcases hN with h | ⟨b, o, cap, h, _⟩
      · exact h.2
      · rw [h0] at h; cases h
    subst hx h0
    have he : ∀ W : World, (binOp .eql 46 (.slice none 0 0) (.slice none 0 0)).run Tryz.prog W = .ok (.bool true) W := fun _ => rfl
    go_enter Tryz.func41, Tryz.ntmps41
    go_wp2
    go_ret
    exact ⟨_, rfl, Mine.nil (by repeat (first | with_reducible exact Later.refl _ | with_reducible assumption | with_reducible refine Later.ofdrew ?_ | with_reducible refine Later.ofdrewN ?_ | with_reducible refine Later.setCell ?_ ?_ _ | with_reducible refine Later.alloc ?_ _ | with_reducible refine Later.drewN ?_ _ | with_reducible refine Later.drew ?_ | (with_reducible refine Later.trans ?_ (by assumption)) | (simp only [World.size_setCell, World.size_alloc, World.heap_drewN]; omega) | (simp; done) | (simp; omega)))⟩
  · obtain ⟨ad, cap, rfl, hl, hC⟩ := hN.cellsAt lnCs lnCs_len lnCs_cell (by decide) h0
    have hC := Lib.hid hC
    have h1 : ∀ u ∈ xs.flatMap lnCs, u.oneCell' = true := fun u hu => by
      obtain ⟨x, hx, hu⟩ := List.mem_flatMap.1 hu
      exact h1 x hx u hu
    have h1 := Lib.hid h1
    have hF := Lib.hid (flat_len lnCs lnCs_len xs)
    clear h0 hN
    generalize xs.length = L at *
    generalize xs.flatMap lnCs = cells at *
    have he : ∀ W : World, (binOp .eql 46 (.slice (some ad) L cap) (.slice none 0 0)).run Tryz.prog W = .ok (.bool false) W := fun _ => rfl
    go_enter Tryz.func41, Tryz.ntmps41
    go_wp2_with (at_builtin; go_must (refine wpList_appA sliceLn (Mine.lit (n := 0) (cur := #[]) (Later.refl w) rfl (by decide)) rfl _ _ rfl rfl ad L cap cells rfl hF.out (hC.out _ ((Later.refl _).alloc _)) h1.out (by omega) (by unfold maxLen; omega) ?_; intro v5 w5 hM5 hg5; obtain ⟨p5, cp5, rfl⟩ := hM5.form))
    go_ret
    exact ⟨_, rfl, by simpa using hM5⟩

set_option maxHeartbeats 1600000 in
theorem entries_clone (xs : List (En × Value)) (hlen : xs.length ≤ 100000) (h1 : ∀ x ∈ xs, ∀ u ∈ enCs x, u.oneCell' = true) (v : Value) (w : World) (hN : IsRow 7 enF w v xs) :
    Calls Tryz.prog 61 #[v] w fun e w' => ∃ v', e = .returned v' ∧ Mine w 48 7 w' v' xs.length (xs.flatMap enCs) := by
  by_cases h0 : v = .slice none 0 0
  · have hx : xs = [] := by
      rcases hN with h | ⟨b, o, cap, h, _⟩
      · exact h.2
      · rw [h0] at h; cases h
    subst hx h0
    have he : ∀ W : World, (binOp .eql 82 (.slice none 0 0) (.slice none 0 0)).run Tryz.prog W = .ok (.bool true) W := fun _ => rfl
    go_enter Tryz.func61, Tryz.ntmps61
    go_wp2
    go_ret
    exact ⟨_, rfl, Mine.nil (by repeat (first | with_reducible exact Later.refl _ | with_reducible assumption | with_reducible refine Later.ofdrew ?_ | with_reducible refine Later.ofdrewN ?_ | with_reducible refine Later.setCell ?_ ?_ _ | with_reducible refine Later.alloc ?_ _ | with_reducible refine Later.drewN ?_ _ | with_reducible refine Later.drew ?_ | (with_reducible refine Later.trans ?_ (by assumption)) | (simp only [World.size_setCell, World.size_alloc, World.heap_drewN]; omega) | (simp; done) | (simp; omega)))⟩
  · obtain ⟨ad, cap, rfl, hl, hC⟩ := hN.cellsAt enCs enCs_len enCs_cell (by decide) h0
    have hC := Lib.hid hC
    have h1 : ∀ u ∈ xs.flatMap enCs, u.oneCell' = true := fun u hu => by
      obtain ⟨x, hx, hu⟩ := List.mem_flatMap.1 hu
      exact h1 x hx u hu
    have h1 := Lib.hid h1
    have hF := Lib.hid (flat_len enCs enCs_len xs)
    clear h0 hN
    generalize xs.length = L at *
    generalize xs.flatMap enCs = cells at *
    have he : ∀ W : World, (binOp .eql 82 (.slice (some ad) L cap) (.slice none 0 0)).run Tryz.prog W = .ok (.bool false) W := fun _ => rfl
    go_enter Tryz.func61, Tryz.ntmps61
    go_wp2_with (at_builtin; go_must (refine wpList_appA sliceEn (Mine.lit (n := 0) (cur := #[]) (Later.refl w) rfl (by decide)) rfl _ _ rfl rfl ad L cap cells rfl hF.out (hC.out _ ((Later.refl _).alloc _)) h1.out (by omega) (by unfold maxLen; omega) ?_; intro v5 w5 hM5 hg5; obtain ⟨p5, cp5, rfl⟩ := hM5.form))
    go_ret
    exact ⟨_, rfl, by simpa using hM5⟩

theorem IsLines.clone {ls : List Ln} (hlen : ls.length ≤ 100000) {v : Value} {w : World} (hN : IsLines w v ls) :
    Calls Tryz.prog 41 #[v] w fun e w' => ∃ v', e = .returned v' ∧ RowT 92 3 lnF w' v' ls ∧ Mine w 92 3 w' v' ls.length (ls.flatMap lnCs) ∧ Later w w' :=
  (lines_clone ls hlen (fun x _ => lnCs_one x) v w hN).mono (fun e w' ⟨v', h1, h2⟩ => ⟨v', h1, (h2.rowT lnCs lnCs_len lnCs_cell (by decide)).1, h2, h2.lat⟩)

theorem map_clone (b : Nat) (es : Array MapEntry) (clock : Nat) (w : World) (hb : w.heap[b]? = some (.map es clock)) :
    Calls Tryz.prog 62 #[.map (some b)] w fun e w' => e = .returned (.map (some w.heap.size)) ∧ w' = w.alloc (.map es clock) := by
  have hq := fun w => run_eql_map_nil_sl (P := Tryz.prog) w 81 _ _ (some b) Tryz.underlying81
  go_enter Tryz.func62, Tryz.ntmps62
  go_wp2
  rw [run_callFunc_extern Tryz.func80 (by kernel_rfl) (by kernel_rfl) (by kernel_rfl) (e := Extern.MapsClone.clone) (by kernel_rfl), run_maps_clone_sl w 81 hb]
  simp only [Result.andThen]
  rw [Oper.upon_value]
  go_wp2
  rw [run_typeAssert_map_sl _ 81 20 _ _ _ Tryz.underlying81]
  simp only [Result.andThen]
  rw [Oper.upon_value]
  go_wp2
  go_ret
  exact ⟨rfl, rfl⟩

end Go.Proofs.YtckeaibamgkegaaGreatDoor
end
