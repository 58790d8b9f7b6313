/- what is wrong with an entry -/
import Derived.Test.YtckeaibamgkegaaGreatDoorQ5
set_option linter.all false
set_option linter.all false
section
/- what is wrong with an entry -/
namespace Go.Proofs.YtckeaibamgkegaaGreatDoor
open Go.RowKit
set_option maxRecDepth 100000


set_option maxHeartbeats 800000 in
theorem some_any (con day cur seq per ref : Int) (u : Value) (ls : List Ln) (hlen : ls.length ≤ 100000) (w : World) (hN : IsLines w u ls) : Calls Tryz.prog 123 #[.agg #[.int .i64 con, .int .i64 day, .int .i64 cur, .int .i64 seq, .int .i64 per, .int .i64 ref, u]] w fun e w' => e = .returned (.bool (someB ⟨con, day, cur, seq, per, ref, ls⟩)) ∧ Later w w' := by
  have HC := Lib.hid (fun W (hl : Later w W) => some1_con ls hlen u W (IsRow.later hN hl))
  obtain ⟨r, hr⟩ : ∃ r, someB ⟨con, day, cur, seq, per, ref, ls⟩ = r := ⟨_, rfl⟩
  rw [hr]
  unfold someB at hr
  simp only at hr
  generalize ls.any _ = b at *
  obtain ⟨p, cp, rfl⟩ := hN.form
  clear hN hlen
  subst hr
  go_enter Tryz.func123, Tryz.ntmps123
  go_wp2_with (go_at_call 125; go_must (refine (HC.out _ (by repeat (first | with_reducible exact Later.refl _ | with_reducible assumption | with_reducible refine Later.ofdrew ?_ | with_reducible refine Later.ofdrewN ?_ | with_reducible refine Later.setCell ?_ ?_ _ | with_reducible refine Later.alloc ?_ _ | with_reducible refine Later.drewN ?_ _ | with_reducible refine Later.drew ?_ | (with_reducible refine Later.trans ?_ (by assumption)) | (simp only [World.size_setCell, World.size_alloc, World.heap_drewN]; omega) | (simp; done) | (simp; omega)))).mono ?_; rintro e w2 ⟨rfl, hb2⟩))
  go_ret
  exact ⟨rfl, by repeat (first | with_reducible exact Later.refl _ | with_reducible assumption | with_reducible refine Later.ofdrew ?_ | with_reducible refine Later.ofdrewN ?_ | with_reducible refine Later.setCell ?_ ?_ _ | with_reducible refine Later.alloc ?_ _ | with_reducible refine Later.drewN ?_ _ | with_reducible refine Later.drew ?_ | (with_reducible refine Later.trans ?_ (by assumption)) | (simp only [World.size_setCell, World.size_alloc, World.heap_drewN]; omega) | (simp; done) | (simp; omega))⟩

set_option maxHeartbeats 800000 in
theorem fits_any (con day cur seq per ref : Int) (u : Value) (ls : List Ln) (hlen : ls.length ≤ 100000) (w : World) (hN : IsLines w u ls) : Calls Tryz.prog 124 #[.agg #[.int .i64 con, .int .i64 day, .int .i64 cur, .int .i64 seq, .int .i64 per, .int .i64 ref, u]] w fun e w' => e = .returned (.bool (amtB ⟨con, day, cur, seq, per, ref, ls⟩)) ∧ Later w w' := by
  have HC := Lib.hid (fun W (hl : Later w W) => fits1_con ls hlen u W (IsRow.later hN hl))
  obtain ⟨r, hr⟩ : ∃ r, amtB ⟨con, day, cur, seq, per, ref, ls⟩ = r := ⟨_, rfl⟩
  rw [hr]
  unfold amtB at hr
  simp only at hr
  generalize ls.any _ = b at *
  obtain ⟨p, cp, rfl⟩ := hN.form
  clear hN hlen
  subst hr
  go_enter Tryz.func124, Tryz.ntmps124
  go_wp2_with (go_at_call 125; go_must (refine (HC.out _ (by repeat (first | with_reducible exact Later.refl _ | with_reducible assumption | with_reducible refine Later.ofdrew ?_ | with_reducible refine Later.ofdrewN ?_ | with_reducible refine Later.setCell ?_ ?_ _ | with_reducible refine Later.alloc ?_ _ | with_reducible refine Later.drewN ?_ _ | with_reducible refine Later.drew ?_ | (with_reducible refine Later.trans ?_ (by assumption)) | (simp only [World.size_setCell, World.size_alloc, World.heap_drewN]; omega) | (simp; done) | (simp; omega)))).mono ?_; rintro e w2 ⟨rfl, hb2⟩))
  go_ret
  exact ⟨rfl, by repeat (first | with_reducible exact Later.refl _ | with_reducible assumption | with_reducible refine Later.ofdrew ?_ | with_reducible refine Later.ofdrewN ?_ | with_reducible refine Later.setCell ?_ ?_ _ | with_reducible refine Later.alloc ?_ _ | with_reducible refine Later.drewN ?_ _ | with_reducible refine Later.drew ?_ | (with_reducible refine Later.trans ?_ (by assumption)) | (simp only [World.size_setCell, World.size_alloc, World.heap_drewN]; omega) | (simp; done) | (simp; omega))⟩

set_option maxHeartbeats 1600000 in
theorem ranges_any (con day cur seq per ref : Int) (u : Value) (ls : List Ln) (hlen : ls.length ≤ 100000) (w : World) (hN : IsLines w u ls) : Calls Tryz.prog 121 #[.agg #[.int .i64 con, .int .i64 day, .int .i64 cur, .int .i64 seq, .int .i64 per, .int .i64 ref, u]] w fun e w' => e = .returned (.bool (rangesB ⟨con, day, cur, seq, per, ref, ls⟩)) ∧ Later w w' := by
  have HC := Lib.hid (fun W (hl : Later w W) => ranges1_con ls hlen u W (IsRow.later hN hl))
  have HT := Lib.hid (fun W => tag_any con day cur W)
  obtain ⟨r, hr⟩ : ∃ r, rangesB ⟨con, day, cur, seq, per, ref, ls⟩ = r := ⟨_, rfl⟩
  rw [hr]
  unfold rangesB at hr
  simp only at hr
  generalize ls.any _ = b at *
  generalize tagB con day cur = bt at *
  obtain ⟨p, cp, rfl⟩ := hN.form
  clear hN hlen
  cases bt
  ·
    skip
    have hr2 : r = false := by rw [← hr]; simp [*]
    subst hr2
    clear hr
    go_enter Tryz.func121, Tryz.ntmps121
    go_upto_region 1 with (fail)
    refine wp_opaque (fun w0 hb0 => ?_)
    have hO := Own.one hb0
    have hO0 := hO
    obtain ⟨⟨z1, c1, -⟩, -⟩ := hO0
    have hb1 := hb0.un1
    go_wp2_with (first | (go_at_call 125; go_must (refine (HC.out _ (by repeat (first | with_reducible exact Later.refl _ | with_reducible assumption | with_reducible refine Later.ofdrew ?_ | with_reducible refine Later.ofdrewN ?_ | with_reducible refine Later.setCell ?_ ?_ _ | with_reducible refine Later.alloc ?_ _ | with_reducible refine Later.drewN ?_ _ | with_reducible refine Later.drew ?_ | (with_reducible refine Later.trans ?_ (by assumption)) | (simp only [World.size_setCell, World.size_alloc, World.heap_drewN]; omega) | (simp; done) | (simp; omega)))).mono ?_; rintro e w2 ⟨rfl, hb2⟩; obtain ⟨⟨z1, c1, -⟩, -⟩ := hO.later hb2)) | (go_at_call 34; go_must (refine (HT.out _).mono ?_; rintro e w3 ⟨rfl, hb3⟩; clear c1 z1; obtain ⟨⟨z1, c1, -⟩, -⟩ := hO.later (hb2.trans hb3))))
    go_ret
    first | exact ⟨rfl, by repeat (first | with_reducible exact Later.refl _ | with_reducible assumption | with_reducible refine Later.ofdrew ?_ | with_reducible refine Later.ofdrewN ?_ | with_reducible refine Later.setCell ?_ ?_ _ | with_reducible refine Later.alloc ?_ _ | with_reducible refine Later.drewN ?_ _ | with_reducible refine Later.drew ?_ | (with_reducible refine Later.trans ?_ (by assumption)) | (simp only [World.size_setCell, World.size_alloc, World.heap_drewN]; omega) | (simp; done) | (simp; omega))⟩ | exact ⟨by simp [h3], by repeat (first | with_reducible exact Later.refl _ | with_reducible assumption | with_reducible refine Later.ofdrew ?_ | with_reducible refine Later.ofdrewN ?_ | with_reducible refine Later.setCell ?_ ?_ _ | with_reducible refine Later.alloc ?_ _ | with_reducible refine Later.drewN ?_ _ | with_reducible refine Later.drew ?_ | (with_reducible refine Later.trans ?_ (by assumption)) | (simp only [World.size_setCell, World.size_alloc, World.heap_drewN]; omega) | (simp; done) | (simp; omega))⟩
  ·
    cases b
    ·
      by_cases h1 : 0 ≤ seq
      ·
        by_cases h2 : 0 ≤ per
        ·
          by_cases h3 : -1 ≤ ref
          ·
            skip
            have hr2 : r = true := by rw [← hr]; simp [*]
            subst hr2
            clear hr
            go_enter Tryz.func121, Tryz.ntmps121
            go_upto_region 1 with (fail)
            refine wp_opaque (fun w0 hb0 => ?_)
            have hO := Own.one hb0
            have hO0 := hO
            obtain ⟨⟨z1, c1, -⟩, -⟩ := hO0
            have hb1 := hb0.un1
            go_wp2_with (first | (go_at_call 125; go_must (refine (HC.out _ (by repeat (first | with_reducible exact Later.refl _ | with_reducible assumption | with_reducible refine Later.ofdrew ?_ | with_reducible refine Later.ofdrewN ?_ | with_reducible refine Later.setCell ?_ ?_ _ | with_reducible refine Later.alloc ?_ _ | with_reducible refine Later.drewN ?_ _ | with_reducible refine Later.drew ?_ | (with_reducible refine Later.trans ?_ (by assumption)) | (simp only [World.size_setCell, World.size_alloc, World.heap_drewN]; omega) | (simp; done) | (simp; omega)))).mono ?_; rintro e w2 ⟨rfl, hb2⟩; obtain ⟨⟨z1, c1, -⟩, -⟩ := hO.later hb2)) | (go_at_call 34; go_must (refine (HT.out _).mono ?_; rintro e w3 ⟨rfl, hb3⟩; clear c1 z1; obtain ⟨⟨z1, c1, -⟩, -⟩ := hO.later (hb2.trans hb3))))
            go_ret
            first | exact ⟨rfl, by repeat (first | with_reducible exact Later.refl _ | with_reducible assumption | with_reducible refine Later.ofdrew ?_ | with_reducible refine Later.ofdrewN ?_ | with_reducible refine Later.setCell ?_ ?_ _ | with_reducible refine Later.alloc ?_ _ | with_reducible refine Later.drewN ?_ _ | with_reducible refine Later.drew ?_ | (with_reducible refine Later.trans ?_ (by assumption)) | (simp only [World.size_setCell, World.size_alloc, World.heap_drewN]; omega) | (simp; done) | (simp; omega))⟩ | exact ⟨by simp [h3], by repeat (first | with_reducible exact Later.refl _ | with_reducible assumption | with_reducible refine Later.ofdrew ?_ | with_reducible refine Later.ofdrewN ?_ | with_reducible refine Later.setCell ?_ ?_ _ | with_reducible refine Later.alloc ?_ _ | with_reducible refine Later.drewN ?_ _ | with_reducible refine Later.drew ?_ | (with_reducible refine Later.trans ?_ (by assumption)) | (simp only [World.size_setCell, World.size_alloc, World.heap_drewN]; omega) | (simp; done) | (simp; omega))⟩
          ·
            skip
            have hr2 : r = false := by rw [← hr]; simp [*]
            subst hr2
            clear hr
            go_enter Tryz.func121, Tryz.ntmps121
            go_upto_region 1 with (fail)
            refine wp_opaque (fun w0 hb0 => ?_)
            have hO := Own.one hb0
            have hO0 := hO
            obtain ⟨⟨z1, c1, -⟩, -⟩ := hO0
            have hb1 := hb0.un1
            go_wp2_with (first | (go_at_call 125; go_must (refine (HC.out _ (by repeat (first | with_reducible exact Later.refl _ | with_reducible assumption | with_reducible refine Later.ofdrew ?_ | with_reducible refine Later.ofdrewN ?_ | with_reducible refine Later.setCell ?_ ?_ _ | with_reducible refine Later.alloc ?_ _ | with_reducible refine Later.drewN ?_ _ | with_reducible refine Later.drew ?_ | (with_reducible refine Later.trans ?_ (by assumption)) | (simp only [World.size_setCell, World.size_alloc, World.heap_drewN]; omega) | (simp; done) | (simp; omega)))).mono ?_; rintro e w2 ⟨rfl, hb2⟩; obtain ⟨⟨z1, c1, -⟩, -⟩ := hO.later hb2)) | (go_at_call 34; go_must (refine (HT.out _).mono ?_; rintro e w3 ⟨rfl, hb3⟩; clear c1 z1; obtain ⟨⟨z1, c1, -⟩, -⟩ := hO.later (hb2.trans hb3))))
            go_ret
            first | exact ⟨rfl, by repeat (first | with_reducible exact Later.refl _ | with_reducible assumption | with_reducible refine Later.ofdrew ?_ | with_reducible refine Later.ofdrewN ?_ | with_reducible refine Later.setCell ?_ ?_ _ | with_reducible refine Later.alloc ?_ _ | with_reducible refine Later.drewN ?_ _ | with_reducible refine Later.drew ?_ | (with_reducible refine Later.trans ?_ (by assumption)) | (simp only [World.size_setCell, World.size_alloc, World.heap_drewN]; omega) | (simp; done) | (simp; omega))⟩ | exact ⟨by simp [h3], by repeat (first | with_reducible exact Later.refl _ | with_reducible assumption | with_reducible refine Later.ofdrew ?_ | with_reducible refine Later.ofdrewN ?_ | with_reducible refine Later.setCell ?_ ?_ _ | with_reducible refine Later.alloc ?_ _ | with_reducible refine Later.drewN ?_ _ | with_reducible refine Later.drew ?_ | (with_reducible refine Later.trans ?_ (by assumption)) | (simp only [World.size_setCell, World.size_alloc, World.heap_drewN]; omega) | (simp; done) | (simp; omega))⟩
        ·
          skip
          have hr2 : r = false := by rw [← hr]; simp [*]
          subst hr2
          clear hr
          go_enter Tryz.func121, Tryz.ntmps121
          go_upto_region 1 with (fail)
          refine wp_opaque (fun w0 hb0 => ?_)
          have hO := Own.one hb0
          have hO0 := hO
          obtain ⟨⟨z1, c1, -⟩, -⟩ := hO0
          have hb1 := hb0.un1
          go_wp2_with (first | (go_at_call 125; go_must (refine (HC.out _ (by repeat (first | with_reducible exact Later.refl _ | with_reducible assumption | with_reducible refine Later.ofdrew ?_ | with_reducible refine Later.ofdrewN ?_ | with_reducible refine Later.setCell ?_ ?_ _ | with_reducible refine Later.alloc ?_ _ | with_reducible refine Later.drewN ?_ _ | with_reducible refine Later.drew ?_ | (with_reducible refine Later.trans ?_ (by assumption)) | (simp only [World.size_setCell, World.size_alloc, World.heap_drewN]; omega) | (simp; done) | (simp; omega)))).mono ?_; rintro e w2 ⟨rfl, hb2⟩; obtain ⟨⟨z1, c1, -⟩, -⟩ := hO.later hb2)) | (go_at_call 34; go_must (refine (HT.out _).mono ?_; rintro e w3 ⟨rfl, hb3⟩; clear c1 z1; obtain ⟨⟨z1, c1, -⟩, -⟩ := hO.later (hb2.trans hb3))))
          go_ret
          first | exact ⟨rfl, by repeat (first | with_reducible exact Later.refl _ | with_reducible assumption | with_reducible refine Later.ofdrew ?_ | with_reducible refine Later.ofdrewN ?_ | with_reducible refine Later.setCell ?_ ?_ _ | with_reducible refine Later.alloc ?_ _ | with_reducible refine Later.drewN ?_ _ | with_reducible refine Later.drew ?_ | (with_reducible refine Later.trans ?_ (by assumption)) | (simp only [World.size_setCell, World.size_alloc, World.heap_drewN]; omega) | (simp; done) | (simp; omega))⟩ | exact ⟨by simp [h3], by repeat (first | with_reducible exact Later.refl _ | with_reducible assumption | with_reducible refine Later.ofdrew ?_ | with_reducible refine Later.ofdrewN ?_ | with_reducible refine Later.setCell ?_ ?_ _ | with_reducible refine Later.alloc ?_ _ | with_reducible refine Later.drewN ?_ _ | with_reducible refine Later.drew ?_ | (with_reducible refine Later.trans ?_ (by assumption)) | (simp only [World.size_setCell, World.size_alloc, World.heap_drewN]; omega) | (simp; done) | (simp; omega))⟩
      ·
        skip
        have hr2 : r = false := by rw [← hr]; simp [*]
        subst hr2
        clear hr
        go_enter Tryz.func121, Tryz.ntmps121
        go_upto_region 1 with (fail)
        refine wp_opaque (fun w0 hb0 => ?_)
        have hO := Own.one hb0
        have hO0 := hO
        obtain ⟨⟨z1, c1, -⟩, -⟩ := hO0
        have hb1 := hb0.un1
        go_wp2_with (first | (go_at_call 125; go_must (refine (HC.out _ (by repeat (first | with_reducible exact Later.refl _ | with_reducible assumption | with_reducible refine Later.ofdrew ?_ | with_reducible refine Later.ofdrewN ?_ | with_reducible refine Later.setCell ?_ ?_ _ | with_reducible refine Later.alloc ?_ _ | with_reducible refine Later.drewN ?_ _ | with_reducible refine Later.drew ?_ | (with_reducible refine Later.trans ?_ (by assumption)) | (simp only [World.size_setCell, World.size_alloc, World.heap_drewN]; omega) | (simp; done) | (simp; omega)))).mono ?_; rintro e w2 ⟨rfl, hb2⟩; obtain ⟨⟨z1, c1, -⟩, -⟩ := hO.later hb2)) | (go_at_call 34; go_must (refine (HT.out _).mono ?_; rintro e w3 ⟨rfl, hb3⟩; clear c1 z1; obtain ⟨⟨z1, c1, -⟩, -⟩ := hO.later (hb2.trans hb3))))
        go_ret
        first | exact ⟨rfl, by repeat (first | with_reducible exact Later.refl _ | with_reducible assumption | with_reducible refine Later.ofdrew ?_ | with_reducible refine Later.ofdrewN ?_ | with_reducible refine Later.setCell ?_ ?_ _ | with_reducible refine Later.alloc ?_ _ | with_reducible refine Later.drewN ?_ _ | with_reducible refine Later.drew ?_ | (with_reducible refine Later.trans ?_ (by assumption)) | (simp only [World.size_setCell, World.size_alloc, World.heap_drewN]; omega) | (simp; done) | (simp; omega))⟩ | exact ⟨by simp [h3], by repeat (first | with_reducible exact Later.refl _ | with_reducible assumption | with_reducible refine Later.ofdrew ?_ | with_reducible refine Later.ofdrewN ?_ | with_reducible refine Later.setCell ?_ ?_ _ | with_reducible refine Later.alloc ?_ _ | with_reducible refine Later.drewN ?_ _ | with_reducible refine Later.drew ?_ | (with_reducible refine Later.trans ?_ (by assumption)) | (simp only [World.size_setCell, World.size_alloc, World.heap_drewN]; omega) | (simp; done) | (simp; omega))⟩
    ·
      skip
      have hr2 : r = false := by rw [← hr]; simp [*]
      subst hr2
      clear hr
      go_enter Tryz.func121, Tryz.ntmps121
      go_upto_region 1 with (fail)
      refine wp_opaque (fun w0 hb0 => ?_)
      have hO := Own.one hb0
      have hO0 := hO
      obtain ⟨⟨z1, c1, -⟩, -⟩ := hO0
      have hb1 := hb0.un1
      go_wp2_with (first | (go_at_call 125; go_must (refine (HC.out _ (by repeat (first | with_reducible exact Later.refl _ | with_reducible assumption | with_reducible refine Later.ofdrew ?_ | with_reducible refine Later.ofdrewN ?_ | with_reducible refine Later.setCell ?_ ?_ _ | with_reducible refine Later.alloc ?_ _ | with_reducible refine Later.drewN ?_ _ | with_reducible refine Later.drew ?_ | (with_reducible refine Later.trans ?_ (by assumption)) | (simp only [World.size_setCell, World.size_alloc, World.heap_drewN]; omega) | (simp; done) | (simp; omega)))).mono ?_; rintro e w2 ⟨rfl, hb2⟩; obtain ⟨⟨z1, c1, -⟩, -⟩ := hO.later hb2)) | (go_at_call 34; go_must (refine (HT.out _).mono ?_; rintro e w3 ⟨rfl, hb3⟩; clear c1 z1; obtain ⟨⟨z1, c1, -⟩, -⟩ := hO.later (hb2.trans hb3))))
      go_ret
      first | exact ⟨rfl, by repeat (first | with_reducible exact Later.refl _ | with_reducible assumption | with_reducible refine Later.ofdrew ?_ | with_reducible refine Later.ofdrewN ?_ | with_reducible refine Later.setCell ?_ ?_ _ | with_reducible refine Later.alloc ?_ _ | with_reducible refine Later.drewN ?_ _ | with_reducible refine Later.drew ?_ | (with_reducible refine Later.trans ?_ (by assumption)) | (simp only [World.size_setCell, World.size_alloc, World.heap_drewN]; omega) | (simp; done) | (simp; omega))⟩ | exact ⟨by simp [h3], by repeat (first | with_reducible exact Later.refl _ | with_reducible assumption | with_reducible refine Later.ofdrew ?_ | with_reducible refine Later.ofdrewN ?_ | with_reducible refine Later.setCell ?_ ?_ _ | with_reducible refine Later.alloc ?_ _ | with_reducible refine Later.drewN ?_ _ | with_reducible refine Later.drew ?_ | (with_reducible refine Later.trans ?_ (by assumption)) | (simp only [World.size_setCell, World.size_alloc, World.heap_drewN]; omega) | (simp; done) | (simp; omega))⟩

set_option maxHeartbeats 1600000 in
theorem lines_any (con day cur seq per ref : Int) (u : Value) (ls : List Ln) (hlen : ls.length ≤ 100000) (w : World) (hN : IsLines w u ls) : Calls Tryz.prog 122 #[.agg #[.int .i64 con, .int .i64 day, .int .i64 cur, .int .i64 seq, .int .i64 per, .int .i64 ref, u]] w fun e w' => e = .returned (.bool (linesB ⟨con, day, cur, seq, per, ref, ls⟩)) ∧ Later w w' := by
  have HC := Lib.hid (fun B W (hl : Later w W) hc => lines1_con B cur ls hlen u W (IsRow.later hN hl) hc)
  obtain ⟨r, hr⟩ : ∃ r, linesB ⟨con, day, cur, seq, per, ref, ls⟩ = r := ⟨_, rfl⟩
  rw [hr]
  unfold linesB at hr
  simp only at hr
  generalize ls.any _ = b at *
  obtain ⟨p, cp, rfl⟩ := hN.form
  obtain ⟨L, hL⟩ : ∃ L, ls.length = L := ⟨_, rfl⟩
  rw [hL] at HC hr ⊢
  clear hN hlen hL
  by_cases h1 : 2 ≤ L
  ·
    by_cases h2 : L ≤ 8
    ·
      cases b
      ·
        have hr2 : r = true := by rw [← hr]; simp [*]
        subst hr2
        clear hr
        go_enter Tryz.func122, Tryz.ntmps122
        go_upto_region 1 with (fail)
        refine wp_opaque (fun w0 hb0 => ?_)
        have hO := Own.one hb0
        have hO0 := hO
        obtain ⟨⟨z1, c1, -⟩, -⟩ := hO0
        have hb1 := hb0.un1
        go_wp2_with ((go_at_call 125; go_must (refine (HC.out _ _ (by repeat (first | with_reducible exact Later.refl _ | with_reducible assumption | with_reducible refine Later.ofdrew ?_ | with_reducible refine Later.ofdrewN ?_ | with_reducible refine Later.setCell ?_ ?_ _ | with_reducible refine Later.alloc ?_ _ | with_reducible refine Later.drewN ?_ _ | with_reducible refine Later.drew ?_ | (with_reducible refine Later.trans ?_ (by assumption)) | (simp only [World.size_setCell, World.size_alloc, World.heap_drewN]; omega) | (simp; done) | (simp; omega))) (c1 2)).mono ?_; rintro e w2 ⟨rfl, hb2⟩; obtain ⟨⟨z2, c2, -⟩, -⟩ := hO.later hb2)))
        go_ret
        exact ⟨rfl, by repeat (first | with_reducible exact Later.refl _ | with_reducible assumption | with_reducible refine Later.ofdrew ?_ | with_reducible refine Later.ofdrewN ?_ | with_reducible refine Later.setCell ?_ ?_ _ | with_reducible refine Later.alloc ?_ _ | with_reducible refine Later.drewN ?_ _ | with_reducible refine Later.drew ?_ | (with_reducible refine Later.trans ?_ (by assumption)) | (simp only [World.size_setCell, World.size_alloc, World.heap_drewN]; omega) | (simp; done) | (simp; omega))⟩
      ·
        have hr2 : r = false := by rw [← hr]; simp [*]
        subst hr2
        clear hr
        go_enter Tryz.func122, Tryz.ntmps122
        go_upto_region 1 with (fail)
        refine wp_opaque (fun w0 hb0 => ?_)
        have hO := Own.one hb0
        have hO0 := hO
        obtain ⟨⟨z1, c1, -⟩, -⟩ := hO0
        have hb1 := hb0.un1
        go_wp2_with ((go_at_call 125; go_must (refine (HC.out _ _ (by repeat (first | with_reducible exact Later.refl _ | with_reducible assumption | with_reducible refine Later.ofdrew ?_ | with_reducible refine Later.ofdrewN ?_ | with_reducible refine Later.setCell ?_ ?_ _ | with_reducible refine Later.alloc ?_ _ | with_reducible refine Later.drewN ?_ _ | with_reducible refine Later.drew ?_ | (with_reducible refine Later.trans ?_ (by assumption)) | (simp only [World.size_setCell, World.size_alloc, World.heap_drewN]; omega) | (simp; done) | (simp; omega))) (c1 2)).mono ?_; rintro e w2 ⟨rfl, hb2⟩; obtain ⟨⟨z2, c2, -⟩, -⟩ := hO.later hb2)))
        go_ret
        exact ⟨rfl, by repeat (first | with_reducible exact Later.refl _ | with_reducible assumption | with_reducible refine Later.ofdrew ?_ | with_reducible refine Later.ofdrewN ?_ | with_reducible refine Later.setCell ?_ ?_ _ | with_reducible refine Later.alloc ?_ _ | with_reducible refine Later.drewN ?_ _ | with_reducible refine Later.drew ?_ | (with_reducible refine Later.trans ?_ (by assumption)) | (simp only [World.size_setCell, World.size_alloc, World.heap_drewN]; omega) | (simp; done) | (simp; omega))⟩
    ·
      have hr2 : r = false := by rw [← hr]; simp [*]
      subst hr2
      clear hr
      go_enter Tryz.func122, Tryz.ntmps122
      go_upto_region 1 with (fail)
      refine wp_opaque (fun w0 hb0 => ?_)
      have hO := Own.one hb0
      have hO0 := hO
      obtain ⟨⟨z1, c1, -⟩, -⟩ := hO0
      have hb1 := hb0.un1
      go_wp2_with ((go_at_call 125; go_must (refine (HC.out _ _ (by repeat (first | with_reducible exact Later.refl _ | with_reducible assumption | with_reducible refine Later.ofdrew ?_ | with_reducible refine Later.ofdrewN ?_ | with_reducible refine Later.setCell ?_ ?_ _ | with_reducible refine Later.alloc ?_ _ | with_reducible refine Later.drewN ?_ _ | with_reducible refine Later.drew ?_ | (with_reducible refine Later.trans ?_ (by assumption)) | (simp only [World.size_setCell, World.size_alloc, World.heap_drewN]; omega) | (simp; done) | (simp; omega))) (c1 2)).mono ?_; rintro e w2 ⟨rfl, hb2⟩; obtain ⟨⟨z2, c2, -⟩, -⟩ := hO.later hb2)))
      go_ret
      exact ⟨rfl, by repeat (first | with_reducible exact Later.refl _ | with_reducible assumption | with_reducible refine Later.ofdrew ?_ | with_reducible refine Later.ofdrewN ?_ | with_reducible refine Later.setCell ?_ ?_ _ | with_reducible refine Later.alloc ?_ _ | with_reducible refine Later.drewN ?_ _ | with_reducible refine Later.drew ?_ | (with_reducible refine Later.trans ?_ (by assumption)) | (simp only [World.size_setCell, World.size_alloc, World.heap_drewN]; omega) | (simp; done) | (simp; omega))⟩
  ·
    have hr2 : r = false := by rw [← hr]; simp [*]
    subst hr2
    clear hr
    go_enter Tryz.func122, Tryz.ntmps122
    go_upto_region 1 with (fail)
    refine wp_opaque (fun w0 hb0 => ?_)
    have hO := Own.one hb0
    have hO0 := hO
    obtain ⟨⟨z1, c1, -⟩, -⟩ := hO0
    have hb1 := hb0.un1
    go_wp2_with ((go_at_call 125; go_must (refine (HC.out _ _ (by repeat (first | with_reducible exact Later.refl _ | with_reducible assumption | with_reducible refine Later.ofdrew ?_ | with_reducible refine Later.ofdrewN ?_ | with_reducible refine Later.setCell ?_ ?_ _ | with_reducible refine Later.alloc ?_ _ | with_reducible refine Later.drewN ?_ _ | with_reducible refine Later.drew ?_ | (with_reducible refine Later.trans ?_ (by assumption)) | (simp only [World.size_setCell, World.size_alloc, World.heap_drewN]; omega) | (simp; done) | (simp; omega))) (c1 2)).mono ?_; rintro e w2 ⟨rfl, hb2⟩; obtain ⟨⟨z2, c2, -⟩, -⟩ := hO.later hb2)))
    go_ret
    exact ⟨rfl, by repeat (first | with_reducible exact Later.refl _ | with_reducible assumption | with_reducible refine Later.ofdrew ?_ | with_reducible refine Later.ofdrewN ?_ | with_reducible refine Later.setCell ?_ ?_ _ | with_reducible refine Later.alloc ?_ _ | with_reducible refine Later.drewN ?_ _ | with_reducible refine Later.drew ?_ | (with_reducible refine Later.trans ?_ (by assumption)) | (simp only [World.size_setCell, World.size_alloc, World.heap_drewN]; omega) | (simp; done) | (simp; omega))⟩

set_option maxHeartbeats 1600000 in
theorem even_any (con day cur seq per ref : Int) (u : Value) (ls : List Ln) (hlen : ls.length ≤ 100000) (w : World) (hN : IsLines w u ls) (hwd : ∀ y ∈ ls, y.ok) : Calls Tryz.prog 117 #[.agg #[.int .i64 con, .int .i64 day, .int .i64 cur, .int .i64 seq, .int .i64 per, .int .i64 ref, u]] w fun e w' => e = .returned (.bool (evenB ⟨con, day, cur, seq, per, ref, ls⟩)) ∧ Later w w' := by
  have HN := Lib.hid hN
  have hS : ∀ (l : List Int), l = ls.map (·.a) → ∀ (v : Value) (W : World), IsInts W v l → Calls Tryz.prog 54 #[v] W fun e w' => e = .returned (.tuple #[.int .i64 (fitN (sumI l)), .int .i64 (fitE (sumI l))]) ∧ Later W w' := by
    rintro l rfl v W hv
    refine sum_any _ ?_ (by rw [List.length_map]; exact hlen) v W hv
    intro x hx
    obtain ⟨y, hy, rfl⟩ := List.mem_map.1 hx
    exact (hwd y hy).2.2
  have HS := Lib.hid hS
  clear hS hwd
  obtain ⟨r, hr⟩ : ∃ r, evenB ⟨con, day, cur, seq, per, ref, ls⟩ = r := ⟨_, rfl⟩
  rw [hr]
  have hr := Lib.hid hr
  obtain ⟨p, cp, rfl⟩ := hN.form
  clear hN
  obtain ⟨L, hL⟩ : ∃ L, ls.length = L := ⟨_, rfl⟩
  rw [hL] at HN hlen ⊢
  have HL := Lib.hid hL
  clear hL
  go_enter Tryz.func117, Tryz.ntmps117
  go_upto_region 1 with (fail)
  refine wp_opaque (fun w0 hb0 => ?_)
  have hO := Own.one hb0
  have hO0 := hO
  obtain ⟨⟨z1, c1, -⟩, -⟩ := hO0
  have hb1 := hb0.un1
  go_wp2
  go_loopw [3, 11] (fun s3 s11 wr => ∃ j : Nat, j ≤ L ∧ s11 = .int .i64 j ∧ Mine w0 3 1 wr s3 j (((ls.map (·.a)).take j).map (Value.int .i64))) (fun _ s11 _ => L - (intOf s11).toNat)
  case atStart => exact ⟨0, Nat.zero_le _, rfl, by simpa using Mine.nil (Later.refl _)⟩
  case round =>
    obtain ⟨j, hj, rfl, hM⟩ := hrel
    obtain ⟨p3, cp3, rfl⟩ := hM.form
    have hlat := hM.lat
    clear z1 c1
    obtain ⟨⟨z1, c1, -⟩, -⟩ := hO.later hlat
    have HM := Lib.hid hM
    clear hM
    by_cases hlt : j < L
    · have hjl : j < ls.length := by rw [HL.out]; exact hlt
      obtain ⟨b, o, cp', hv, hb, g⟩ := HN.out.full (i := j) hjl
      rw [HL.out] at hv
      cases hv
      have hlw := hb1.trans hlat
      have g0 := ((bcell hlw).1 _ _ hb).trans (g 0 (by omega))
      have g1 := ((bcell hlw).1 _ _ hb).trans (g 1 (by omega))
      have g2 := ((bcell hlw).1 _ _ hb).trans (g 2 (by omega))
      simp only [lnF, Nat.add_zero] at g0 g1 g2
      have HT : Hid (((ls.map (·.a)).take (j + 1)) = ((ls.map (·.a)).take j) ++ [(ls[j]).a]) := Lib.hid (by rw [List.take_add_one, List.getElem?_map, List.getElem?_eq_getElem hjl]; rfl)
      clear g HS hr
      generalize ls[j] = y at *
      obtain ⟨x0, x1, x2⟩ := y
      simp only at g0 g1 g2 HT
      have HMW := Lib.hid (fun W (h : Later wr W) => HM.out.later h)
      go_wp2_with (at_builtin; go_must (refine wpList_pushAt sliceInt (HMW.out _ (by repeat (first | with_reducible exact Later.refl _ | with_reducible assumption | with_reducible refine Later.ofdrew ?_ | with_reducible refine Later.ofdrewN ?_ | with_reducible refine Later.setCell ?_ ?_ _ | with_reducible refine Later.alloc ?_ _ | with_reducible refine Later.drewN ?_ _ | with_reducible refine Later.drew ?_ | (with_reducible refine Later.trans ?_ (by assumption)) | (simp only [World.size_setCell, World.size_alloc, World.heap_drewN]; omega) | (simp; done) | (simp; omega)))) rfl _ _ rfl rfl 1 _ rfl (by simp) rfl (by simp [Value.oneCell']) (by omega) (by unfold maxLen; omega) ?_; intro v5 w3 hM3 hg3; have hb3 := hM3.lat; obtain ⟨p5, cp5, rfl⟩ := hM3.form))
      go_roundw
      case rel =>
        refine ⟨j + 1, by omega, by go_num, ?_⟩
        rw [HT.out, List.map_append]
        exact hM3
      case measure => simp [intOf]; omega
    · have hjL : Hid (j = L) := Lib.hid (by omega)
      have HI : Hid (IsInts wr (.slice p3 j cp3) (ls.map (·.a))) := Lib.hid (by
        have := HM.out.ints.1
        rwa [List.take_of_length_le (by rw [List.length_map, HL.out, hjL.out]; exact Nat.le_refl _)] at this)
      have HS2 := Lib.hid (fun W (h : Later wr W) => HS.out _ rfl _ W (HI.out.later h))
      clear HS HN HI HM
      have hr2 : decide (sumI (ls.map (·.a)) = 0) = r := hr.out
      generalize sumI (ls.map (·.a)) = S at *
      clear hr
      by_cases hS0 : S = 0
      · subst hS0
        have e1 : r = true := by rw [← hr2]; rfl
        subst e1
        have f0 : fitN 0 = 0 := rfl
        have f1 : fitE 0 = 0 := rfl
        rw [f0, f1] at HS2
        go_wp2_with (go_at_call 54; go_must (refine (HS2.out _ (by repeat (first | with_reducible exact Later.refl _ | with_reducible assumption | with_reducible refine Later.ofdrew ?_ | with_reducible refine Later.ofdrewN ?_ | with_reducible refine Later.setCell ?_ ?_ _ | with_reducible refine Later.alloc ?_ _ | with_reducible refine Later.drewN ?_ _ | with_reducible refine Later.drew ?_ | (with_reducible refine Later.trans ?_ (by assumption)) | (simp only [World.size_setCell, World.size_alloc, World.heap_drewN]; omega) | (simp; done) | (simp; omega)))).mono ?_; rintro e w4 ⟨rfl, hb4⟩))
        go_ret
        exact ⟨rfl, by repeat (first | with_reducible exact Later.refl _ | with_reducible assumption | with_reducible refine Later.ofdrew ?_ | with_reducible refine Later.ofdrewN ?_ | with_reducible refine Later.setCell ?_ ?_ _ | with_reducible refine Later.alloc ?_ _ | with_reducible refine Later.drewN ?_ _ | with_reducible refine Later.drew ?_ | (with_reducible refine Later.trans ?_ (by assumption)) | (simp only [World.size_setCell, World.size_alloc, World.heap_drewN]; omega) | (simp; done) | (simp; omega))⟩
      · have e1 : r = false := by rw [← hr2]; simp [hS0]
        subst e1
        by_cases hf : -9223372036854775808 ≤ S ∧ S ≤ 9223372036854775807
        · have f0 : fitN S = S := if_pos hf
          have f1 : fitE S = 0 := if_pos hf
          rw [f0, f1] at HS2
          have f2 : (S == 0) = false := by simpa using hS0
          clear hr2 f0 f1 hf
          go_wp2_with (go_at_call 54; go_must (refine (HS2.out _ (by repeat (first | with_reducible exact Later.refl _ | with_reducible assumption | with_reducible refine Later.ofdrew ?_ | with_reducible refine Later.ofdrewN ?_ | with_reducible refine Later.setCell ?_ ?_ _ | with_reducible refine Later.alloc ?_ _ | with_reducible refine Later.drewN ?_ _ | with_reducible refine Later.drew ?_ | (with_reducible refine Later.trans ?_ (by assumption)) | (simp only [World.size_setCell, World.size_alloc, World.heap_drewN]; omega) | (simp; done) | (simp; omega)))).mono ?_; rintro e w4 ⟨rfl, hb4⟩))
          go_ret
          exact ⟨rfl, by repeat (first | with_reducible exact Later.refl _ | with_reducible assumption | with_reducible refine Later.ofdrew ?_ | with_reducible refine Later.ofdrewN ?_ | with_reducible refine Later.setCell ?_ ?_ _ | with_reducible refine Later.alloc ?_ _ | with_reducible refine Later.drewN ?_ _ | with_reducible refine Later.drew ?_ | (with_reducible refine Later.trans ?_ (by assumption)) | (simp only [World.size_setCell, World.size_alloc, World.heap_drewN]; omega) | (simp; done) | (simp; omega))⟩
        · have f0 : fitN S = 0 := if_neg hf
          have f1 : fitE S = 11 := if_neg hf
          rw [f0, f1] at HS2
          clear hr2 f0 f1 hf
          go_wp2_with (go_at_call 54; go_must (refine (HS2.out _ (by repeat (first | with_reducible exact Later.refl _ | with_reducible assumption | with_reducible refine Later.ofdrew ?_ | with_reducible refine Later.ofdrewN ?_ | with_reducible refine Later.setCell ?_ ?_ _ | with_reducible refine Later.alloc ?_ _ | with_reducible refine Later.drewN ?_ _ | with_reducible refine Later.drew ?_ | (with_reducible refine Later.trans ?_ (by assumption)) | (simp only [World.size_setCell, World.size_alloc, World.heap_drewN]; omega) | (simp; done) | (simp; omega)))).mono ?_; rintro e w4 ⟨rfl, hb4⟩))
          go_ret
          exact ⟨rfl, by repeat (first | with_reducible exact Later.refl _ | with_reducible assumption | with_reducible refine Later.ofdrew ?_ | with_reducible refine Later.ofdrewN ?_ | with_reducible refine Later.setCell ?_ ?_ _ | with_reducible refine Later.alloc ?_ _ | with_reducible refine Later.drewN ?_ _ | with_reducible refine Later.drew ?_ | (with_reducible refine Later.trans ?_ (by assumption)) | (simp only [World.size_setCell, World.size_alloc, World.heap_drewN]; omega) | (simp; done) | (simp; omega))⟩
end Go.Proofs.YtckeaibamgkegaaGreatDoor
end
