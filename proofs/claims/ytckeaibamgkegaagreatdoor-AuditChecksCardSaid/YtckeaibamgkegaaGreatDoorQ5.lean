/- sums of two words; what is wrong with an entry -/
import Derived.Test.YtckeaibamgkegaaGreatDoorQ4
set_option linter.all false
set_option linter.all false
section
/- entries: what may be of a tag, a line; the looks over lines -/
namespace Go.Proofs.YtckeaibamgkegaaGreatDoor
open Go.RowKit
set_option maxRecDepth 100000


set_option maxHeartbeats 800000 in
theorem below_fn (n most : Int) (w : World) : Calls Tryz.prog 35 #[.int .i64 n, .int .i64 most] w fun e w' => e = .returned (.bool (inB n most)) ∧ w = w' := by
  obtain ⟨r, hr⟩ : ∃ r, inB n most = r := ⟨_, rfl⟩
  rw [hr]
  unfold inB at hr
  by_cases h1 : 0 ≤ n
  · by_cases h2 : n < most
    · have : r = true := by rw [← hr]; simp [h1, h2]
      subst this
      clear hr
      go_enter Tryz.func35, Tryz.ntmps35
      go_wp2
      go_ret
      exact ⟨by simp [h1, h2], rfl⟩
    · have : r = false := by rw [← hr]; simp [h2]
      subst this
      clear hr
      go_enter Tryz.func35, Tryz.ntmps35
      go_wp2
      go_ret
      exact ⟨by simp [h1, h2], rfl⟩
  · have : r = false := by rw [← hr]; simp [h1]
    subst this
    clear hr
    go_enter Tryz.func35, Tryz.ntmps35
    go_wp2
    go_ret
    exact ⟨by simp [h1], rfl⟩


set_option maxHeartbeats 1600000 in
theorem tag_any (con day cur : Int) (w : World) : Calls Tryz.prog 34 #[.agg #[.int .i64 con, .int .i64 day, .int .i64 cur]] w fun e w' => e = .returned (.bool (tagB con day cur)) ∧ Later w w' := by
  have HB := Lib.hid (fun n most W => below_fn n most W)
  obtain ⟨r, hr⟩ : ∃ r, tagB con day cur = r := ⟨_, rfl⟩
  rw [hr]
  obtain ⟨b0, hb0⟩ : ∃ b, inB con 64 = b := ⟨_, rfl⟩
  obtain ⟨b1, hb1⟩ : ∃ b, inB day 73049 = b := ⟨_, rfl⟩
  obtain ⟨b2, hb2⟩ : ∃ b, inB cur 8 = b := ⟨_, rfl⟩
  unfold tagB at hr
  try simp only at hr
  rw [hb0, hb1, hb2] at hr
  have HB0 := Lib.hid (fun W => hb0 ▸ HB.out con 64 W)
  have HB1 := Lib.hid (fun W => hb1 ▸ HB.out day 73049 W)
  have HB2 := Lib.hid (fun W => hb2 ▸ HB.out cur 8 W)
  clear HB hb0 hb1 hb2
  have tok1 : True := trivial
  have tok2 : True := trivial
  cases b0
  · subst hr
    go_enter Tryz.func34, Tryz.ntmps34
    go_wp2_with (first | (go_at_call 35; clear tok1; go_must (refine (HB0.out _).mono ?_; rintro e w2 ⟨rfl, rfl⟩)) | (go_at_call 35; clear tok2; go_must (refine (HB1.out _).mono ?_; rintro e w2 ⟨rfl, rfl⟩)) | (go_at_call 35; go_must (refine (HB2.out _).mono ?_; rintro e w2 ⟨rfl, rfl⟩)))
    go_ret
    exact ⟨rfl, by repeat (first | with_reducible exact Later.refl _ | with_reducible assumption | with_reducible refine Later.ofdrew ?_ | with_reducible refine Later.ofdrewN ?_ | with_reducible refine Later.setCell ?_ ?_ _ | with_reducible refine Later.alloc ?_ _ | with_reducible refine Later.drewN ?_ _ | with_reducible refine Later.drew ?_ | (with_reducible refine Later.trans ?_ (by assumption)) | (simp only [World.size_setCell, World.size_alloc, World.heap_drewN]; omega) | (simp; done) | (simp; omega))⟩
  ·
    cases b1
    · subst hr
      go_enter Tryz.func34, Tryz.ntmps34
      go_wp2_with (first | (go_at_call 35; clear tok1; go_must (refine (HB0.out _).mono ?_; rintro e w2 ⟨rfl, rfl⟩)) | (go_at_call 35; clear tok2; go_must (refine (HB1.out _).mono ?_; rintro e w2 ⟨rfl, rfl⟩)) | (go_at_call 35; go_must (refine (HB2.out _).mono ?_; rintro e w2 ⟨rfl, rfl⟩)))
      go_ret
      exact ⟨rfl, by repeat (first | with_reducible exact Later.refl _ | with_reducible assumption | with_reducible refine Later.ofdrew ?_ | with_reducible refine Later.ofdrewN ?_ | with_reducible refine Later.setCell ?_ ?_ _ | with_reducible refine Later.alloc ?_ _ | with_reducible refine Later.drewN ?_ _ | with_reducible refine Later.drew ?_ | (with_reducible refine Later.trans ?_ (by assumption)) | (simp only [World.size_setCell, World.size_alloc, World.heap_drewN]; omega) | (simp; done) | (simp; omega))⟩
    ·
      cases b2
      · subst hr
        go_enter Tryz.func34, Tryz.ntmps34
        go_wp2_with (first | (go_at_call 35; clear tok1; go_must (refine (HB0.out _).mono ?_; rintro e w2 ⟨rfl, rfl⟩)) | (go_at_call 35; clear tok2; go_must (refine (HB1.out _).mono ?_; rintro e w2 ⟨rfl, rfl⟩)) | (go_at_call 35; go_must (refine (HB2.out _).mono ?_; rintro e w2 ⟨rfl, rfl⟩)))
        go_ret
        exact ⟨rfl, by repeat (first | with_reducible exact Later.refl _ | with_reducible assumption | with_reducible refine Later.ofdrew ?_ | with_reducible refine Later.ofdrewN ?_ | with_reducible refine Later.setCell ?_ ?_ _ | with_reducible refine Later.alloc ?_ _ | with_reducible refine Later.drewN ?_ _ | with_reducible refine Later.drew ?_ | (with_reducible refine Later.trans ?_ (by assumption)) | (simp only [World.size_setCell, World.size_alloc, World.heap_drewN]; omega) | (simp; done) | (simp; omega))⟩
      ·
        subst hr
        go_enter Tryz.func34, Tryz.ntmps34
        go_wp2_with (first | (go_at_call 35; clear tok1; go_must (refine (HB0.out _).mono ?_; rintro e w2 ⟨rfl, rfl⟩)) | (go_at_call 35; clear tok2; go_must (refine (HB1.out _).mono ?_; rintro e w2 ⟨rfl, rfl⟩)) | (go_at_call 35; go_must (refine (HB2.out _).mono ?_; rintro e w2 ⟨rfl, rfl⟩)))
        go_ret
        exact ⟨rfl, by repeat (first | with_reducible exact Later.refl _ | with_reducible assumption | with_reducible refine Later.ofdrew ?_ | with_reducible refine Later.ofdrewN ?_ | with_reducible refine Later.setCell ?_ ?_ _ | with_reducible refine Later.alloc ?_ _ | with_reducible refine Later.drewN ?_ _ | with_reducible refine Later.drew ?_ | (with_reducible refine Later.trans ?_ (by assumption)) | (simp only [World.size_setCell, World.size_alloc, World.heap_drewN]; omega) | (simp; done) | (simp; omega))⟩

set_option maxHeartbeats 1600000 in
theorem line_any (p c a : Int) (w : World) : Calls Tryz.prog 119 #[.agg #[.int .i64 p, .int .i64 c, .int .i64 a]] w fun e w' => e = .returned (.bool (lnB ⟨p, c, a⟩)) ∧ Later w w' := by
  have HB := Lib.hid (fun n most W => below_fn n most W)
  obtain ⟨r, hr⟩ : ∃ r, lnB ⟨p, c, a⟩ = r := ⟨_, rfl⟩
  rw [hr]
  obtain ⟨b0, hb0⟩ : ∃ b, inB p 16 = b := ⟨_, rfl⟩
  obtain ⟨b1, hb1⟩ : ∃ b, inB c 8 = b := ⟨_, rfl⟩
  unfold lnB at hr
  try simp only at hr
  rw [hb0, hb1] at hr
  have HB0 := Lib.hid (fun W => hb0 ▸ HB.out p 16 W)
  have HB1 := Lib.hid (fun W => hb1 ▸ HB.out c 8 W)
  clear HB hb0 hb1
  have tok1 : True := trivial
  have tok2 : True := trivial
  cases b0
  · subst hr
    go_enter Tryz.func119, Tryz.ntmps119
    go_wp2_with (first | (go_at_call 35; clear tok1; go_must (refine (HB0.out _).mono ?_; rintro e w2 ⟨rfl, rfl⟩)) | (go_at_call 35; go_must (refine (HB1.out _).mono ?_; rintro e w2 ⟨rfl, rfl⟩)))
    go_ret
    exact ⟨rfl, by repeat (first | with_reducible exact Later.refl _ | with_reducible assumption | with_reducible refine Later.ofdrew ?_ | with_reducible refine Later.ofdrewN ?_ | with_reducible refine Later.setCell ?_ ?_ _ | with_reducible refine Later.alloc ?_ _ | with_reducible refine Later.drewN ?_ _ | with_reducible refine Later.drew ?_ | (with_reducible refine Later.trans ?_ (by assumption)) | (simp only [World.size_setCell, World.size_alloc, World.heap_drewN]; omega) | (simp; done) | (simp; omega))⟩
  ·
    cases b1
    · subst hr
      go_enter Tryz.func119, Tryz.ntmps119
      go_wp2_with (first | (go_at_call 35; clear tok1; go_must (refine (HB0.out _).mono ?_; rintro e w2 ⟨rfl, rfl⟩)) | (go_at_call 35; go_must (refine (HB1.out _).mono ?_; rintro e w2 ⟨rfl, rfl⟩)))
      go_ret
      exact ⟨rfl, by repeat (first | with_reducible exact Later.refl _ | with_reducible assumption | with_reducible refine Later.ofdrew ?_ | with_reducible refine Later.ofdrewN ?_ | with_reducible refine Later.setCell ?_ ?_ _ | with_reducible refine Later.alloc ?_ _ | with_reducible refine Later.drewN ?_ _ | with_reducible refine Later.drew ?_ | (with_reducible refine Later.trans ?_ (by assumption)) | (simp only [World.size_setCell, World.size_alloc, World.heap_drewN]; omega) | (simp; done) | (simp; omega))⟩
    ·
      subst hr
      go_enter Tryz.func119, Tryz.ntmps119
      go_wp2_with (first | (go_at_call 35; clear tok1; go_must (refine (HB0.out _).mono ?_; rintro e w2 ⟨rfl, rfl⟩)) | (go_at_call 35; go_must (refine (HB1.out _).mono ?_; rintro e w2 ⟨rfl, rfl⟩)))
      go_ret
      exact ⟨rfl, by repeat (first | with_reducible exact Later.refl _ | with_reducible assumption | with_reducible refine Later.ofdrew ?_ | with_reducible refine Later.ofdrewN ?_ | with_reducible refine Later.setCell ?_ ?_ _ | with_reducible refine Later.alloc ?_ _ | with_reducible refine Later.drewN ?_ _ | with_reducible refine Later.drew ?_ | (with_reducible refine Later.trans ?_ (by assumption)) | (simp only [World.size_setCell, World.size_alloc, World.heap_drewN]; omega) | (simp; done) | (simp; omega))⟩

set_option maxHeartbeats 800000 in
theorem ranges1_any (p c a : Int) (w : World) : Calls Tryz.prog 126 #[.agg #[.int .i64 p, .int .i64 c, .int .i64 a]] w fun e w' => e = .returned (.bool (!lnB ⟨p, c, a⟩)) ∧ Later w w' := by
  have HL := Lib.hid (fun W => line_any p c a W)
  obtain ⟨r, hr⟩ : ∃ r, lnB ⟨p, c, a⟩ = r := ⟨_, rfl⟩
  rw [hr] at HL ⊢
  clear hr
  go_enter Tryz.func126, Tryz.ntmps126
  go_wp2_with (go_at_call 119; go_must (refine (HL.out _).mono ?_; rintro e w2 ⟨rfl, hb2⟩))
  go_ret
  exact ⟨rfl, by repeat (first | with_reducible exact Later.refl _ | with_reducible assumption | with_reducible refine Later.ofdrew ?_ | with_reducible refine Later.ofdrewN ?_ | with_reducible refine Later.setCell ?_ ?_ _ | with_reducible refine Later.alloc ?_ _ | with_reducible refine Later.drewN ?_ _ | with_reducible refine Later.drew ?_ | (with_reducible refine Later.trans ?_ (by assumption)) | (simp only [World.size_setCell, World.size_alloc, World.heap_drewN]; omega) | (simp; done) | (simp; omega))⟩

set_option maxHeartbeats 800000 in
theorem lines1_any (B : Nat) (cur : Int) (p c a : Int) (w : World) (hc : w.cell? ⟨B, 2, none⟩ = some (.int .i64 cur)) : Calls Tryz.prog 127 #[.agg #[.int .i64 p, .int .i64 c, .int .i64 a], .pointer (some ⟨B, 0, none⟩)] w fun e w' => e = .returned (.bool (decide (c ≠ cur))) ∧ Later w w' := by
  have z := World.block_lt_of_cell? _ _ hc
  by_cases h : c = cur
  · subst h
    go_enter Tryz.func127, Tryz.ntmps127
    go_wp2
    go_ret
    exact ⟨by simp, by repeat (first | with_reducible exact Later.refl _ | with_reducible assumption | with_reducible refine Later.ofdrew ?_ | with_reducible refine Later.ofdrewN ?_ | with_reducible refine Later.setCell ?_ ?_ _ | with_reducible refine Later.alloc ?_ _ | with_reducible refine Later.drewN ?_ _ | with_reducible refine Later.drew ?_ | (with_reducible refine Later.trans ?_ (by assumption)) | (simp only [World.size_setCell, World.size_alloc, World.heap_drewN]; omega) | (simp; done) | (simp; omega))⟩
  · have e1 : (c != cur) = true := by simpa using h
    go_enter Tryz.func127, Tryz.ntmps127
    go_wp2
    go_ret
    exact ⟨by simp [h], by repeat (first | with_reducible exact Later.refl _ | with_reducible assumption | with_reducible refine Later.ofdrew ?_ | with_reducible refine Later.ofdrewN ?_ | with_reducible refine Later.setCell ?_ ?_ _ | with_reducible refine Later.alloc ?_ _ | with_reducible refine Later.drewN ?_ _ | with_reducible refine Later.drew ?_ | (with_reducible refine Later.trans ?_ (by assumption)) | (simp only [World.size_setCell, World.size_alloc, World.heap_drewN]; omega) | (simp; done) | (simp; omega))⟩

set_option maxHeartbeats 800000 in
theorem some1_any (p c a : Int) (w : World) : Calls Tryz.prog 128 #[.agg #[.int .i64 p, .int .i64 c, .int .i64 a]] w fun e w' => e = .returned (.bool (decide (a = 0))) ∧ Later w w' := by
  by_cases h : a = 0
  · subst h
    go_enter Tryz.func128, Tryz.ntmps128
    go_wp2
    go_ret
    exact ⟨by simp, by repeat (first | with_reducible exact Later.refl _ | with_reducible assumption | with_reducible refine Later.ofdrew ?_ | with_reducible refine Later.ofdrewN ?_ | with_reducible refine Later.setCell ?_ ?_ _ | with_reducible refine Later.alloc ?_ _ | with_reducible refine Later.drewN ?_ _ | with_reducible refine Later.drew ?_ | (with_reducible refine Later.trans ?_ (by assumption)) | (simp only [World.size_setCell, World.size_alloc, World.heap_drewN]; omega) | (simp; done) | (simp; omega))⟩
  · have e1 : (a == 0) = false := by simpa using h
    go_enter Tryz.func128, Tryz.ntmps128
    go_wp2
    go_ret
    exact ⟨by simp [h], by repeat (first | with_reducible exact Later.refl _ | with_reducible assumption | with_reducible refine Later.ofdrew ?_ | with_reducible refine Later.ofdrewN ?_ | with_reducible refine Later.setCell ?_ ?_ _ | with_reducible refine Later.alloc ?_ _ | with_reducible refine Later.drewN ?_ _ | with_reducible refine Later.drew ?_ | (with_reducible refine Later.trans ?_ (by assumption)) | (simp only [World.size_setCell, World.size_alloc, World.heap_drewN]; omega) | (simp; done) | (simp; omega))⟩

set_option maxHeartbeats 800000 in
theorem fits1_any (p c a : Int) (w : World) : Calls Tryz.prog 129 #[.agg #[.int .i64 p, .int .i64 c, .int .i64 a]] w fun e w' => e = .returned (.bool (decide (a = -9223372036854775808))) ∧ Later w w' := by
  by_cases h : a = -9223372036854775808
  · subst h
    go_enter Tryz.func129, Tryz.ntmps129
    go_wp2
    go_ret
    exact ⟨by simp, by repeat (first | with_reducible exact Later.refl _ | with_reducible assumption | with_reducible refine Later.ofdrew ?_ | with_reducible refine Later.ofdrewN ?_ | with_reducible refine Later.setCell ?_ ?_ _ | with_reducible refine Later.alloc ?_ _ | with_reducible refine Later.drewN ?_ _ | with_reducible refine Later.drew ?_ | (with_reducible refine Later.trans ?_ (by assumption)) | (simp only [World.size_setCell, World.size_alloc, World.heap_drewN]; omega) | (simp; done) | (simp; omega))⟩
  · have e1 : (a == -9223372036854775808) = false := by simpa using h
    go_enter Tryz.func129, Tryz.ntmps129
    go_wp2
    go_ret
    exact ⟨by simp [h], by repeat (first | with_reducible exact Later.refl _ | with_reducible assumption | with_reducible refine Later.ofdrew ?_ | with_reducible refine Later.ofdrewN ?_ | with_reducible refine Later.setCell ?_ ?_ _ | with_reducible refine Later.alloc ?_ _ | with_reducible refine Later.drewN ?_ _ | with_reducible refine Later.drew ?_ | (with_reducible refine Later.trans ?_ (by assumption)) | (simp only [World.size_setCell, World.size_alloc, World.heap_drewN]; omega) | (simp; done) | (simp; omega))⟩

set_option maxHeartbeats 1600000 in
theorem ranges1_idx (ls : List Ln) (hlen : ls.length ≤ 100000) (v : Value) (w : World) (hN : IsLines w v ls) :
    Calls Tryz.prog 130 #[v, .func (.func 126) #[] #[]] w fun e w' => (∃ r : Int, e = .returned (.int .i64 r) ∧ decide (0 ≤ r) = ls.any (fun x => !lnB x)) ∧ Later w w' := by
  obtain ⟨p, cp, rfl⟩ := hN.form
  have HCL := Lib.hid (fun (x : Ln) W (hl : Later w W) => ranges1_any x.p x.c x.a W)
  have HN := Lib.hid hN
  clear hN
  obtain ⟨L, hL⟩ : ∃ L, ls.length = L := ⟨_, rfl⟩
  rw [hL] at HN hlen ⊢
  have HL := Lib.hid hL
  clear hL
  go_enter Tryz.func130, Tryz.ntmps130
  go_wp2
  go_loopw [8] (fun s8 wr => ∃ j : Nat, j ≤ L ∧ s8 = .int .i64 j ∧ Hid (∀ i (h : i < ls.length), i < j → (fun x : Ln => !lnB x) ls[i] = false) ∧ Later w wr) (fun s8 _ => L - (intOf s8).toNat)
  case atStart => exact ⟨0, Nat.zero_le _, rfl, Lib.hid (fun i _ h => by omega), Later.refl _⟩
  case round =>
    obtain ⟨j, hj, rfl, hall, hlat⟩ := hrel
    by_cases hlt : j < L
    · have hjl : j < ls.length := by rw [HL.out]; exact hlt
      obtain ⟨b, o, cp', hv, hb, g⟩ := HN.out.full (i := j) hjl
      rw [HL.out] at hv
      cases hv
      have g0 := ((bcell hlat).1 _ _ hb).trans (g 0 (by omega))
      have g1 := ((bcell hlat).1 _ _ hb).trans (g 1 (by omega))
      have g2 := ((bcell hlat).1 _ _ hb).trans (g 2 (by omega))
      have HC := Lib.hid (fun W (hl : Later wr W) => HCL.out ls[j] W (hlat.trans hl))
      have hf0 : ∀ bb, (fun x : Ln => !lnB x) ls[j] = bb → (!lnB ls[j]) = bb := fun bb h => h
      simp only [lnF, Nat.add_zero] at g0 g1 g2
      clear g HCL HN
      cases hf : (fun x : Ln => !lnB x) ls[j] with
      | false =>
        have HA : Hid (∀ i (h : i < ls.length), i < j + 1 → (fun x : Ln => !lnB x) ls[i] = false) := Lib.hid (fun i h1 h2 => by
          by_cases h : i = j
          · subst h; exact hf
          · exact hall.out i h1 (by omega))
        have hf1 := hf0 _ hf
        rw [hf1] at HC
        clear hf hf0 hf1 hall HL
        generalize ls[j] = X at *
        obtain ⟨x0, x1, x2⟩ := X
        simp only at g0 g1 g2 HC
        go_wp2_with (go_at_call 126; go_must (refine (HC.out _ (by repeat (first | with_reducible exact Later.refl _ | with_reducible assumption | with_reducible refine Later.ofdrew ?_ | with_reducible refine Later.ofdrewN ?_ | with_reducible refine Later.setCell ?_ ?_ _ | with_reducible refine Later.alloc ?_ _ | with_reducible refine Later.drewN ?_ _ | with_reducible refine Later.drew ?_ | (with_reducible refine Later.trans ?_ (by assumption)) | (simp only [World.size_setCell, World.size_alloc, World.heap_drewN]; omega) | (simp; done) | (simp; omega)))).mono ?_; rintro e w3 ⟨rfl, hb3⟩))
        go_roundw
        case rel => exact ⟨j + 1, by omega, by go_num, HA, hlat.trans hb3⟩
        case measure => simp [intOf]; omega
      | true =>
        have HF : Hid (ls.any (fun x => !lnB x) = true) := Lib.hid (List.any_eq_true.2 ⟨ls[j], List.getElem_mem _, hf⟩)
        have hf1 := hf0 _ hf
        rw [hf1] at HC
        clear hf hf0 hf1 hall HL
        generalize ls[j] = X at *
        obtain ⟨x0, x1, x2⟩ := X
        simp only at g0 g1 g2 HC
        go_wp2_with (go_at_call 126; go_must (refine (HC.out _ (by repeat (first | with_reducible exact Later.refl _ | with_reducible assumption | with_reducible refine Later.ofdrew ?_ | with_reducible refine Later.ofdrewN ?_ | with_reducible refine Later.setCell ?_ ?_ _ | with_reducible refine Later.alloc ?_ _ | with_reducible refine Later.drewN ?_ _ | with_reducible refine Later.drew ?_ | (with_reducible refine Later.trans ?_ (by assumption)) | (simp only [World.size_setCell, World.size_alloc, World.heap_drewN]; omega) | (simp; done) | (simp; omega)))).mono ?_; rintro e w3 ⟨rfl, hb3⟩))
        go_ret
        exact ⟨⟨j, rfl, by rw [HF.out]; simp⟩, hlat.trans hb3⟩
    · have HF : Hid (ls.any (fun x => !lnB x) = false) := Lib.hid (by
        rw [List.any_eq_false]
        intro x hx
        obtain ⟨i, hi, rfl⟩ := List.getElem_of_mem hx
        have := hall.out i hi (by rw [HL.out] at hi; omega)
        simpa using this)
      clear hall
      go_wp2
      go_ret
      exact ⟨⟨-1, rfl, by rw [HF.out]; simp⟩, hlat⟩

set_option maxHeartbeats 400000 in
theorem ranges1_con (ls : List Ln) (hlen : ls.length ≤ 100000) (v : Value) (w : World) (hN : IsLines w v ls) :
    Calls Tryz.prog 125 #[v, .func (.func 126) #[] #[]] w fun e w' => e = .returned (.bool (ls.any (fun x => !lnB x))) ∧ Later w w' := by
  have HC := Lib.hid (ranges1_idx ls hlen v w hN)
  obtain ⟨p, cp, rfl⟩ := hN.form
  clear hN
  generalize ls.any (fun x => !lnB x) = bb at *
  go_enter Tryz.func125, Tryz.ntmps125
  go_wp2_with (go_at_call 130; go_must (refine HC.out.mono ?_; rintro e w1 ⟨⟨r, rfl, hr⟩, hb1⟩))
  go_ret
  exact ⟨by rw [← hr]; rfl, hb1⟩

set_option maxHeartbeats 1600000 in
theorem lines1_idx (B : Nat) (cur : Int) (ls : List Ln) (hlen : ls.length ≤ 100000) (v : Value) (w : World) (hN : IsLines w v ls) (hc : w.cell? ⟨B, 2, none⟩ = some (.int .i64 cur)) :
    Calls Tryz.prog 130 #[v, .func (.func 127) #[] #[.pointer (some ⟨B, 0, none⟩)]] w fun e w' => (∃ r : Int, e = .returned (.int .i64 r) ∧ decide (0 ≤ r) = ls.any (fun x => decide (x.c ≠ cur))) ∧ Later w w' := by
  obtain ⟨p, cp, rfl⟩ := hN.form
  have HCL := Lib.hid (fun (x : Ln) W (hl : Later w W) => lines1_any B cur x.p x.c x.a W (((bcell hl).1 _ _ (World.block_lt_of_cell? _ _ hc)).trans hc))
  have HN := Lib.hid hN
  clear hN
  obtain ⟨L, hL⟩ : ∃ L, ls.length = L := ⟨_, rfl⟩
  rw [hL] at HN hlen ⊢
  have HL := Lib.hid hL
  clear hL
  go_enter Tryz.func130, Tryz.ntmps130
  go_wp2
  go_loopw [8] (fun s8 wr => ∃ j : Nat, j ≤ L ∧ s8 = .int .i64 j ∧ Hid (∀ i (h : i < ls.length), i < j → (fun x : Ln => decide (x.c ≠ cur)) ls[i] = false) ∧ Later w wr) (fun s8 _ => L - (intOf s8).toNat)
  case atStart => exact ⟨0, Nat.zero_le _, rfl, Lib.hid (fun i _ h => by omega), Later.refl _⟩
  case round =>
    obtain ⟨j, hj, rfl, hall, hlat⟩ := hrel
    by_cases hlt : j < L
    · have hjl : j < ls.length := by rw [HL.out]; exact hlt
      obtain ⟨b, o, cp', hv, hb, g⟩ := HN.out.full (i := j) hjl
      rw [HL.out] at hv
      cases hv
      have g0 := ((bcell hlat).1 _ _ hb).trans (g 0 (by omega))
      have g1 := ((bcell hlat).1 _ _ hb).trans (g 1 (by omega))
      have g2 := ((bcell hlat).1 _ _ hb).trans (g 2 (by omega))
      have HC := Lib.hid (fun W (hl : Later wr W) => HCL.out ls[j] W (hlat.trans hl))
      have hf0 : ∀ bb, (fun x : Ln => decide (x.c ≠ cur)) ls[j] = bb → (decide ((ls[j]).c ≠ cur)) = bb := fun bb h => h
      simp only [lnF, Nat.add_zero] at g0 g1 g2
      clear g HCL HN
      cases hf : (fun x : Ln => decide (x.c ≠ cur)) ls[j] with
      | false =>
        have HA : Hid (∀ i (h : i < ls.length), i < j + 1 → (fun x : Ln => decide (x.c ≠ cur)) ls[i] = false) := Lib.hid (fun i h1 h2 => by
          by_cases h : i = j
          · subst h; exact hf
          · exact hall.out i h1 (by omega))
        have hf1 := hf0 _ hf
        rw [hf1] at HC
        clear hf hf0 hf1 hall HL
        generalize ls[j] = X at *
        obtain ⟨x0, x1, x2⟩ := X
        simp only at g0 g1 g2 HC
        go_wp2_with (go_at_call 127; go_must (refine (HC.out _ (by repeat (first | with_reducible exact Later.refl _ | with_reducible assumption | with_reducible refine Later.ofdrew ?_ | with_reducible refine Later.ofdrewN ?_ | with_reducible refine Later.setCell ?_ ?_ _ | with_reducible refine Later.alloc ?_ _ | with_reducible refine Later.drewN ?_ _ | with_reducible refine Later.drew ?_ | (with_reducible refine Later.trans ?_ (by assumption)) | (simp only [World.size_setCell, World.size_alloc, World.heap_drewN]; omega) | (simp; done) | (simp; omega)))).mono ?_; rintro e w3 ⟨rfl, hb3⟩))
        go_roundw
        case rel => exact ⟨j + 1, by omega, by go_num, HA, hlat.trans hb3⟩
        case measure => simp [intOf]; omega
      | true =>
        have HF : Hid (ls.any (fun x => decide (x.c ≠ cur)) = true) := Lib.hid (List.any_eq_true.2 ⟨ls[j], List.getElem_mem _, hf⟩)
        have hf1 := hf0 _ hf
        rw [hf1] at HC
        clear hf hf0 hf1 hall HL
        generalize ls[j] = X at *
        obtain ⟨x0, x1, x2⟩ := X
        simp only at g0 g1 g2 HC
        go_wp2_with (go_at_call 127; go_must (refine (HC.out _ (by repeat (first | with_reducible exact Later.refl _ | with_reducible assumption | with_reducible refine Later.ofdrew ?_ | with_reducible refine Later.ofdrewN ?_ | with_reducible refine Later.setCell ?_ ?_ _ | with_reducible refine Later.alloc ?_ _ | with_reducible refine Later.drewN ?_ _ | with_reducible refine Later.drew ?_ | (with_reducible refine Later.trans ?_ (by assumption)) | (simp only [World.size_setCell, World.size_alloc, World.heap_drewN]; omega) | (simp; done) | (simp; omega)))).mono ?_; rintro e w3 ⟨rfl, hb3⟩))
        go_ret
        exact ⟨⟨j, rfl, by rw [HF.out]; simp⟩, hlat.trans hb3⟩
    · have HF : Hid (ls.any (fun x => decide (x.c ≠ cur)) = false) := Lib.hid (by
        rw [List.any_eq_false]
        intro x hx
        obtain ⟨i, hi, rfl⟩ := List.getElem_of_mem hx
        have := hall.out i hi (by rw [HL.out] at hi; omega)
        simpa using this)
      clear hall
      go_wp2
      go_ret
      exact ⟨⟨-1, rfl, by rw [HF.out]; simp⟩, hlat⟩

set_option maxHeartbeats 400000 in
theorem lines1_con (B : Nat) (cur : Int) (ls : List Ln) (hlen : ls.length ≤ 100000) (v : Value) (w : World) (hN : IsLines w v ls) (hc : w.cell? ⟨B, 2, none⟩ = some (.int .i64 cur)) :
    Calls Tryz.prog 125 #[v, .func (.func 127) #[] #[.pointer (some ⟨B, 0, none⟩)]] w fun e w' => e = .returned (.bool (ls.any (fun x => decide (x.c ≠ cur)))) ∧ Later w w' := by
  have HC := Lib.hid (lines1_idx B cur ls hlen v w hN hc)
  obtain ⟨p, cp, rfl⟩ := hN.form
  clear hN
  generalize ls.any (fun x => decide (x.c ≠ cur)) = bb at *
  go_enter Tryz.func125, Tryz.ntmps125
  go_wp2_with (go_at_call 130; go_must (refine HC.out.mono ?_; rintro e w1 ⟨⟨r, rfl, hr⟩, hb1⟩))
  go_ret
  exact ⟨by rw [← hr]; rfl, hb1⟩

set_option maxHeartbeats 1600000 in
theorem some1_idx (ls : List Ln) (hlen : ls.length ≤ 100000) (v : Value) (w : World) (hN : IsLines w v ls) :
    Calls Tryz.prog 130 #[v, .func (.func 128) #[] #[]] w fun e w' => (∃ r : Int, e = .returned (.int .i64 r) ∧ decide (0 ≤ r) = ls.any (fun x => decide (x.a = 0))) ∧ Later w w' := by
  obtain ⟨p, cp, rfl⟩ := hN.form
  have HCL := Lib.hid (fun (x : Ln) W (hl : Later w W) => some1_any x.p x.c x.a W)
  have HN := Lib.hid hN
  clear hN
  obtain ⟨L, hL⟩ : ∃ L, ls.length = L := ⟨_, rfl⟩
  rw [hL] at HN hlen ⊢
  have HL := Lib.hid hL
  clear hL
  go_enter Tryz.func130, Tryz.ntmps130
  go_wp2
  go_loopw [8] (fun s8 wr => ∃ j : Nat, j ≤ L ∧ s8 = .int .i64 j ∧ Hid (∀ i (h : i < ls.length), i < j → (fun x : Ln => decide (x.a = 0)) ls[i] = false) ∧ Later w wr) (fun s8 _ => L - (intOf s8).toNat)
  case atStart => exact ⟨0, Nat.zero_le _, rfl, Lib.hid (fun i _ h => by omega), Later.refl _⟩
  case round =>
    obtain ⟨j, hj, rfl, hall, hlat⟩ := hrel
    by_cases hlt : j < L
    · have hjl : j < ls.length := by rw [HL.out]; exact hlt
      obtain ⟨b, o, cp', hv, hb, g⟩ := HN.out.full (i := j) hjl
      rw [HL.out] at hv
      cases hv
      have g0 := ((bcell hlat).1 _ _ hb).trans (g 0 (by omega))
      have g1 := ((bcell hlat).1 _ _ hb).trans (g 1 (by omega))
      have g2 := ((bcell hlat).1 _ _ hb).trans (g 2 (by omega))
      have HC := Lib.hid (fun W (hl : Later wr W) => HCL.out ls[j] W (hlat.trans hl))
      have hf0 : ∀ bb, (fun x : Ln => decide (x.a = 0)) ls[j] = bb → (decide ((ls[j]).a = 0)) = bb := fun bb h => h
      simp only [lnF, Nat.add_zero] at g0 g1 g2
      clear g HCL HN
      cases hf : (fun x : Ln => decide (x.a = 0)) ls[j] with
      | false =>
        have HA : Hid (∀ i (h : i < ls.length), i < j + 1 → (fun x : Ln => decide (x.a = 0)) ls[i] = false) := Lib.hid (fun i h1 h2 => by
          by_cases h : i = j
          · subst h; exact hf
          · exact hall.out i h1 (by omega))
        have hf1 := hf0 _ hf
        rw [hf1] at HC
        clear hf hf0 hf1 hall HL
        generalize ls[j] = X at *
        obtain ⟨x0, x1, x2⟩ := X
        simp only at g0 g1 g2 HC
        go_wp2_with (go_at_call 128; go_must (refine (HC.out _ (by repeat (first | with_reducible exact Later.refl _ | with_reducible assumption | with_reducible refine Later.ofdrew ?_ | with_reducible refine Later.ofdrewN ?_ | with_reducible refine Later.setCell ?_ ?_ _ | with_reducible refine Later.alloc ?_ _ | with_reducible refine Later.drewN ?_ _ | with_reducible refine Later.drew ?_ | (with_reducible refine Later.trans ?_ (by assumption)) | (simp only [World.size_setCell, World.size_alloc, World.heap_drewN]; omega) | (simp; done) | (simp; omega)))).mono ?_; rintro e w3 ⟨rfl, hb3⟩))
        go_roundw
        case rel => exact ⟨j + 1, by omega, by go_num, HA, hlat.trans hb3⟩
        case measure => simp [intOf]; omega
      | true =>
        have HF : Hid (ls.any (fun x => decide (x.a = 0)) = true) := Lib.hid (List.any_eq_true.2 ⟨ls[j], List.getElem_mem _, hf⟩)
        have hf1 := hf0 _ hf
        rw [hf1] at HC
        clear hf hf0 hf1 hall HL
        generalize ls[j] = X at *
        obtain ⟨x0, x1, x2⟩ := X
        simp only at g0 g1 g2 HC
        go_wp2_with (go_at_call 128; go_must (refine (HC.out _ (by repeat (first | with_reducible exact Later.refl _ | with_reducible assumption | with_reducible refine Later.ofdrew ?_ | with_reducible refine Later.ofdrewN ?_ | with_reducible refine Later.setCell ?_ ?_ _ | with_reducible refine Later.alloc ?_ _ | with_reducible refine Later.drewN ?_ _ | with_reducible refine Later.drew ?_ | (with_reducible refine Later.trans ?_ (by assumption)) | (simp only [World.size_setCell, World.size_alloc, World.heap_drewN]; omega) | (simp; done) | (simp; omega)))).mono ?_; rintro e w3 ⟨rfl, hb3⟩))
        go_ret
        exact ⟨⟨j, rfl, by rw [HF.out]; simp⟩, hlat.trans hb3⟩
    · have HF : Hid (ls.any (fun x => decide (x.a = 0)) = false) := Lib.hid (by
        rw [List.any_eq_false]
        intro x hx
        obtain ⟨i, hi, rfl⟩ := List.getElem_of_mem hx
        have := hall.out i hi (by rw [HL.out] at hi; omega)
        simpa using this)
      clear hall
      go_wp2
      go_ret
      exact ⟨⟨-1, rfl, by rw [HF.out]; simp⟩, hlat⟩

set_option maxHeartbeats 400000 in
theorem some1_con (ls : List Ln) (hlen : ls.length ≤ 100000) (v : Value) (w : World) (hN : IsLines w v ls) :
    Calls Tryz.prog 125 #[v, .func (.func 128) #[] #[]] w fun e w' => e = .returned (.bool (ls.any (fun x => decide (x.a = 0)))) ∧ Later w w' := by
  have HC := Lib.hid (some1_idx ls hlen v w hN)
  obtain ⟨p, cp, rfl⟩ := hN.form
  clear hN
  generalize ls.any (fun x => decide (x.a = 0)) = bb at *
  go_enter Tryz.func125, Tryz.ntmps125
  go_wp2_with (go_at_call 130; go_must (refine HC.out.mono ?_; rintro e w1 ⟨⟨r, rfl, hr⟩, hb1⟩))
  go_ret
  exact ⟨by rw [← hr]; rfl, hb1⟩

set_option maxHeartbeats 1600000 in
theorem fits1_idx (ls : List Ln) (hlen : ls.length ≤ 100000) (v : Value) (w : World) (hN : IsLines w v ls) :
    Calls Tryz.prog 130 #[v, .func (.func 129) #[] #[]] w fun e w' => (∃ r : Int, e = .returned (.int .i64 r) ∧ decide (0 ≤ r) = ls.any (fun x => decide (x.a = -9223372036854775808))) ∧ Later w w' := by
  obtain ⟨p, cp, rfl⟩ := hN.form
  have HCL := Lib.hid (fun (x : Ln) W (hl : Later w W) => fits1_any x.p x.c x.a W)
  have HN := Lib.hid hN
  clear hN
  obtain ⟨L, hL⟩ : ∃ L, ls.length = L := ⟨_, rfl⟩
  rw [hL] at HN hlen ⊢
  have HL := Lib.hid hL
  clear hL
  go_enter Tryz.func130, Tryz.ntmps130
  go_wp2
  go_loopw [8] (fun s8 wr => ∃ j : Nat, j ≤ L ∧ s8 = .int .i64 j ∧ Hid (∀ i (h : i < ls.length), i < j → (fun x : Ln => decide (x.a = -9223372036854775808)) ls[i] = false) ∧ Later w wr) (fun s8 _ => L - (intOf s8).toNat)
  case atStart => exact ⟨0, Nat.zero_le _, rfl, Lib.hid (fun i _ h => by omega), Later.refl _⟩
  case round =>
    obtain ⟨j, hj, rfl, hall, hlat⟩ := hrel
    by_cases hlt : j < L
    · have hjl : j < ls.length := by rw [HL.out]; exact hlt
      obtain ⟨b, o, cp', hv, hb, g⟩ := HN.out.full (i := j) hjl
      rw [HL.out] at hv
      cases hv
      have g0 := ((bcell hlat).1 _ _ hb).trans (g 0 (by omega))
      have g1 := ((bcell hlat).1 _ _ hb).trans (g 1 (by omega))
      have g2 := ((bcell hlat).1 _ _ hb).trans (g 2 (by omega))
      have HC := Lib.hid (fun W (hl : Later wr W) => HCL.out ls[j] W (hlat.trans hl))
      have hf0 : ∀ bb, (fun x : Ln => decide (x.a = -9223372036854775808)) ls[j] = bb → (decide ((ls[j]).a = -9223372036854775808)) = bb := fun bb h => h
      simp only [lnF, Nat.add_zero] at g0 g1 g2
      clear g HCL HN
      cases hf : (fun x : Ln => decide (x.a = -9223372036854775808)) ls[j] with
      | false =>
        have HA : Hid (∀ i (h : i < ls.length), i < j + 1 → (fun x : Ln => decide (x.a = -9223372036854775808)) ls[i] = false) := Lib.hid (fun i h1 h2 => by
          by_cases h : i = j
          · subst h; exact hf
          · exact hall.out i h1 (by omega))
        have hf1 := hf0 _ hf
        rw [hf1] at HC
        clear hf hf0 hf1 hall HL
        generalize ls[j] = X at *
        obtain ⟨x0, x1, x2⟩ := X
        simp only at g0 g1 g2 HC
        go_wp2_with (go_at_call 129; go_must (refine (HC.out _ (by repeat (first | with_reducible exact Later.refl _ | with_reducible assumption | with_reducible refine Later.ofdrew ?_ | with_reducible refine Later.ofdrewN ?_ | with_reducible refine Later.setCell ?_ ?_ _ | with_reducible refine Later.alloc ?_ _ | with_reducible refine Later.drewN ?_ _ | with_reducible refine Later.drew ?_ | (with_reducible refine Later.trans ?_ (by assumption)) | (simp only [World.size_setCell, World.size_alloc, World.heap_drewN]; omega) | (simp; done) | (simp; omega)))).mono ?_; rintro e w3 ⟨rfl, hb3⟩))
        go_roundw
        case rel => exact ⟨j + 1, by omega, by go_num, HA, hlat.trans hb3⟩
        case measure => simp [intOf]; omega
      | true =>
        have HF : Hid (ls.any (fun x => decide (x.a = -9223372036854775808)) = true) := Lib.hid (List.any_eq_true.2 ⟨ls[j], List.getElem_mem _, hf⟩)
        have hf1 := hf0 _ hf
        rw [hf1] at HC
        clear hf hf0 hf1 hall HL
        generalize ls[j] = X at *
        obtain ⟨x0, x1, x2⟩ := X
        simp only at g0 g1 g2 HC
        go_wp2_with (go_at_call 129; go_must (refine (HC.out _ (by repeat (first | with_reducible exact Later.refl _ | with_reducible assumption | with_reducible refine Later.ofdrew ?_ | with_reducible refine Later.ofdrewN ?_ | with_reducible refine Later.setCell ?_ ?_ _ | with_reducible refine Later.alloc ?_ _ | with_reducible refine Later.drewN ?_ _ | with_reducible refine Later.drew ?_ | (with_reducible refine Later.trans ?_ (by assumption)) | (simp only [World.size_setCell, World.size_alloc, World.heap_drewN]; omega) | (simp; done) | (simp; omega)))).mono ?_; rintro e w3 ⟨rfl, hb3⟩))
        go_ret
        exact ⟨⟨j, rfl, by rw [HF.out]; simp⟩, hlat.trans hb3⟩
    · have HF : Hid (ls.any (fun x => decide (x.a = -9223372036854775808)) = false) := Lib.hid (by
        rw [List.any_eq_false]
        intro x hx
        obtain ⟨i, hi, rfl⟩ := List.getElem_of_mem hx
        have := hall.out i hi (by rw [HL.out] at hi; omega)
        simpa using this)
      clear hall
      go_wp2
      go_ret
      exact ⟨⟨-1, rfl, by rw [HF.out]; simp⟩, hlat⟩

set_option maxHeartbeats 400000 in
theorem fits1_con (ls : List Ln) (hlen : ls.length ≤ 100000) (v : Value) (w : World) (hN : IsLines w v ls) :
    Calls Tryz.prog 125 #[v, .func (.func 129) #[] #[]] w fun e w' => e = .returned (.bool (ls.any (fun x => decide (x.a = -9223372036854775808)))) ∧ Later w w' := by
  have HC := Lib.hid (fits1_idx ls hlen v w hN)
  obtain ⟨p, cp, rfl⟩ := hN.form
  clear hN
  generalize ls.any (fun x => decide (x.a = -9223372036854775808)) = bb at *
  go_enter Tryz.func125, Tryz.ntmps125
  go_wp2_with (go_at_call 130; go_must (refine HC.out.mono ?_; rintro e w1 ⟨⟨r, rfl, hr⟩, hb1⟩))
  go_ret
  exact ⟨by rw [← hr]; rfl, hb1⟩
end Go.Proofs.YtckeaibamgkegaaGreatDoor
end
section
/- sums of two words; what is wrong with an entry -/
namespace Go.Proofs.YtckeaibamgkegaaGreatDoor
open Go.RowKit
set_option maxRecDepth 100000

def hiM (S : Int) : Int := (S / 18446744073709551616) % 18446744073709551616
theorem hiM_bd (S : Int) : 0 ≤ hiM S ∧ hiM S ≤ 18446744073709551615 := by unfold hiM; omega
theorem u64_wrap (x : Int) : IntKind.u64.wrap x = lo64 x := rfl
theorem sum_take {l : List Int} {j : Nat} (h : j < l.length) : sumI (l.take (j + 1)) = sumI (l.take j) + l[j] := by
  rw [List.take_add_one, List.getElem?_eq_getElem h, Option.toList_some]
  unfold sumI
  rw [List.sum_append, List.sum_singleton]
theorem sum_bd : ∀ (l : List Int), (∀ x ∈ l, I64 x) → -(l.length * 9223372036854775808) ≤ sumI l ∧ sumI l ≤ l.length * 9223372036854775808
  | [], _ => by simp [sumI]
  | x :: r, h => by
    have h1 := h x (by simp)
    have h2 := sum_bd r (fun y hy => h y (by simp [hy]))
    have e : sumI (x :: r) = x + sumI r := by unfold sumI; simp
    rw [e, List.length_cons]
    unfold I64 at h1
    omega
theorem hi_step (S x : Int) (hx : I64 x) : hiM (S + x) = IntKind.u64.wrap (hiM S + IntKind.u64.wrap (IntKind.u64.wrap (x / 9223372036854775808) + hi64 (lo64 S + lo64 x))) := by
  unfold I64 at hx
  simp only [u64_wrap]
  obtain ⟨q, r, rfl, h0, h1⟩ : ∃ q r : Int, S = 18446744073709551616 * q + r ∧ 0 ≤ r ∧ r < 18446744073709551616 := ⟨S / 18446744073709551616, S % 18446744073709551616, by omega, by omega, by omega⟩
  have e1 : lo64 (18446744073709551616 * q + r) = r := by unfold lo64; omega
  have e2 : hiM (18446744073709551616 * q + r) = q % 18446744073709551616 := by unfold hiM; omega
  rw [e1, e2]
  by_cases hn : x < 0
  · have e3 : lo64 x = x + 18446744073709551616 := by unfold lo64; omega
    have e4 : lo64 (x / 9223372036854775808) = 18446744073709551615 := by unfold lo64; omega
    rw [e3, e4]
    obtain ⟨c, hc, hc2⟩ : ∃ c : Int, hi64 (r + (x + 18446744073709551616)) = c ∧ (c = 0 ∨ c = 1) := ⟨_, rfl, by unfold hi64; omega⟩
    have e5 : hiM (18446744073709551616 * q + r + x) = (q + c - 1) % 18446744073709551616 := by unfold hiM; unfold hi64 at hc; omega
    rw [hc, e5]
    unfold lo64
    rcases hc2 with rfl | rfl <;> omega
  · have e3 : lo64 x = x := by unfold lo64; omega
    have e4 : lo64 (x / 9223372036854775808) = 0 := by unfold lo64; omega
    rw [e3, e4]
    obtain ⟨c, hc, hc2⟩ : ∃ c : Int, hi64 (r + x) = c ∧ (c = 0 ∨ c = 1) := ⟨_, rfl, by unfold hi64; omega⟩
    have e5 : hiM (18446744073709551616 * q + r + x) = (q + c) % 18446744073709551616 := by unfold hiM; unfold hi64 at hc; omega
    rw [hc, e5]
    unfold lo64
    rcases hc2 with rfl | rfl <;> omega
theorem sum_over (S : Int) (hb : -(100000 * 9223372036854775808) ≤ S ∧ S ≤ 100000 * 9223372036854775808) (hf : ¬ (-9223372036854775808 ≤ S ∧ S ≤ 9223372036854775807)) : (hiM S == IntKind.u64.wrap (wrap64 (lo64 S) / 9223372036854775808)) = false := by
  rw [beq_eq_false_iff_ne, u64_wrap]
  obtain ⟨q, r, rfl, h0, h1⟩ : ∃ q r : Int, S = 18446744073709551616 * q + r ∧ 0 ≤ r ∧ r < 18446744073709551616 := ⟨S / 18446744073709551616, S % 18446744073709551616, by omega, by omega, by omega⟩
  have e1 : lo64 (18446744073709551616 * q + r) = r := by unfold lo64; omega
  have e2 : hiM (18446744073709551616 * q + r) = q % 18446744073709551616 := by unfold hiM; omega
  rw [e1, e2]
  have hq : -100001 ≤ q ∧ q ≤ 100001 := by omega
  by_cases hr : r < 9223372036854775808
  · have e3 : wrap64 r = r := by unfold wrap64; omega
    have e4 : lo64 (r / 9223372036854775808) = 0 := by unfold lo64; omega
    rw [e3, e4]
    omega
  · have e3 : wrap64 r = r - 18446744073709551616 := by unfold wrap64; omega
    have e4 : lo64 ((r - 18446744073709551616) / 9223372036854775808) = 18446744073709551615 := by unfold lo64; omega
    rw [e3, e4]
    omega

set_option maxHeartbeats 1600000 in
theorem sum_any (l : List Int) (hw : ∀ x ∈ l, I64 x) (hlen : l.length ≤ 100000) (v : Value) (w : World) (hN : IsInts w v l) :
    Calls Tryz.prog 54 #[v] w fun e w' => e = .returned (.tuple #[.int .i64 (fitN (sumI l)), .int .i64 (fitE (sumI l))]) ∧ Later w w' := by
  obtain ⟨p, cp, rfl⟩ := hN.form
  have HN := Lib.hid hN
  have HW := Lib.hid hw
  clear hN hw
  obtain ⟨L, hL⟩ : ∃ L, l.length = L := ⟨_, rfl⟩
  rw [hL] at HN hlen ⊢
  have HL := Lib.hid hL
  clear hL
  obtain ⟨S, hT⟩ : ∃ S, sumI l = S := ⟨_, rfl⟩
  rw [hT]
  have HT := Lib.hid hT
  clear hT
  go_enter Tryz.func54, Tryz.ntmps54
  go_wp2
  go_loopw [4, 5, 12] (fun s4 s5 s12 wr => ∃ j : Nat, j ≤ L ∧ s4 = .int .u64 (hiM (sumI (l.take j))) ∧ s5 = .int .u64 (lo64 (sumI (l.take j))) ∧ s12 = .int .i64 j ∧ Later w wr) (fun _ _ s12 _ => L - (intOf s12).toNat)
  case atStart => exact ⟨0, Nat.zero_le _, by simp [sumI, hiM], by simp [sumI, lo64], rfl, Later.refl _⟩
  case round =>
    obtain ⟨j, hj, rfl, rfl, rfl, hlat⟩ := hrel
    by_cases hlt : j < L
    · have hjl : j < l.length := by rw [HL.out]; exact hlt
      obtain ⟨b, o, cp', hv, hb, g⟩ := HN.out.full (j := j) hjl
      rw [HL.out] at hv
      cases hv
      replace g := ((bcell hlat).1 _ _ hb).trans g
      have hx := HW.out _ (List.getElem_mem hjl)
      have HS := Lib.hid (sum_take hjl)
      generalize l[j] = x at *
      clear HT
      obtain ⟨U, hS⟩ : ∃ U, sumI (l.take j) = U := ⟨_, rfl⟩
      rw [hS] at HS ⊢
      clear hS HN HW
      have a1 := lo_bd U
      have a2 := lo_bd x
      have a3 := hiM_bd U
      have hwx := u64_wrap x
      have HA := Lib.hid (fun W => add64_0 (lo64 U) (lo64 x) a1.1 a1.2 a2.1 a2.2 W)
      have hx' := hx
      unfold I64 at hx
      go_wp2_with (simp only [HA.out])
      go_roundw
      case rel =>
        refine ⟨j + 1, by omega, ?_, ?_, by go_num, by repeat (first | with_reducible exact Later.refl _ | with_reducible assumption | with_reducible refine Later.ofdrew ?_ | with_reducible refine Later.ofdrewN ?_ | with_reducible refine Later.setCell ?_ ?_ _ | with_reducible refine Later.alloc ?_ _ | with_reducible refine Later.drewN ?_ _ | with_reducible refine Later.drew ?_ | (with_reducible refine Later.trans ?_ (by assumption)) | (simp only [World.size_setCell, World.size_alloc, World.heap_drewN]; omega) | (simp; done) | (simp; omega))⟩
        · rw [HS.out]
          exact congrArg _ (hi_step U x hx').symm
        · rw [HS.out]
          simp only [lo64]
          congr 1
          omega
      case measure => simp [intOf]; omega
    · have hjL : j = l.length := by rw [HL.out]; omega
      have HS : sumI (l.take j) = S := by rw [hjL, List.take_length]; exact HT.out
      have hb : -(100000 * 9223372036854775808) ≤ S ∧ S ≤ 100000 * 9223372036854775808 := by
        have := sum_bd l HW.out
        rw [HL.out, HT.out] at this
        omega
      rw [HS]
      clear HW hjL HL HN HS HT
      by_cases hf : -9223372036854775808 ≤ S ∧ S ≤ 9223372036854775807
      · have e1 : Hid (fitN S = S) := Lib.hid (if_pos hf)
        have e2 : Hid (fitE S = 0) := Lib.hid (if_pos hf)
        have e3 : wrap64 (lo64 S) = S := by unfold wrap64 lo64; omega
        have e4 : (hiM S == IntKind.u64.wrap (S / 9223372036854775808)) = true := by
          rw [beq_iff_eq, u64_wrap]; unfold hiM lo64; omega
        clear hf hb
        go_wp2
        go_ret2
        exact ⟨by rw [e1.out, e2.out]; simp [e3], hlat⟩
      · have e1 : Hid (fitN S = 0) := Lib.hid (if_neg hf)
        have e2 : Hid (fitE S = 11) := Lib.hid (if_neg hf)
        have e4 : (hiM S == IntKind.u64.wrap (wrap64 (lo64 S) / 9223372036854775808)) = false := by
          exact sum_over S hb hf
        clear hf hb
        go_wp2
        go_ret2
        exact ⟨by rw [e1.out, e2.out]; rfl, hlat⟩

end Go.Proofs.YtckeaibamgkegaaGreatDoor
end
