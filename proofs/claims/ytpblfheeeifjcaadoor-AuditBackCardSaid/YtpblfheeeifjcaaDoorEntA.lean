/- entries: what may be of a tag, a line; the looks over lines -/
import Derived.Test.YtpblfheeeifjcaaDoorAudP
set_option linter.all false
namespace Go.Proofs.YtpblfheeeifjcaaDoor
open Go.RowKit
set_option maxRecDepth 100000


set_option maxHeartbeats 800000 in
theorem below_fn (n most : Int) (w : World) : Calls Tryd.prog 30 #[.int .i64 n, .int .i64 most] w fun e w' => e = .returned (.bool (inB n most)) ∧ w = w' := by
  obtain ⟨r, hr⟩ : ∃ r, inB n most = r := ⟨_, rfl⟩
  rw [hr]
  unfold inB at hr
  by_cases h1 : 0 ≤ n
  · by_cases h2 : n < most
    · have : r = true := by rw [← hr]; simp [h1, h2]
      subst this
      clear hr
      go_enter Tryd.func30, Tryd.ntmps30
      go_wp2
      go_ret
      exact ⟨by simp [h1, h2], rfl⟩
    · have : r = false := by rw [← hr]; simp [h2]
      subst this
      clear hr
      go_enter Tryd.func30, Tryd.ntmps30
      go_wp2
      go_ret
      exact ⟨by simp [h1, h2], rfl⟩
  · have : r = false := by rw [← hr]; simp [h1]
    subst this
    clear hr
    go_enter Tryd.func30, Tryd.ntmps30
    go_wp2
    go_ret
    exact ⟨by simp [h1], rfl⟩


set_option maxHeartbeats 1600000 in
theorem tag_any (con day cur : Int) (w : World) : Calls Tryd.prog 29 #[.agg #[.int .i64 con, .int .i64 day, .int .i64 cur]] w fun e w' => e = .returned (.bool (tagB con day cur)) ∧ Later w w' := by
  have HB := Lib.hid (fun n most W => below_fn n most W)
  obtain ⟨r, hr⟩ : ∃ r, tagB con day cur = r := ⟨_, rfl⟩
  rw [hr]
  obtain ⟨b0, hb0⟩ : ∃ b, inB con 64 = b := ⟨_, rfl⟩
  obtain ⟨b1, hb1⟩ : ∃ b, inB day 73049 = b := ⟨_, rfl⟩
  obtain ⟨b2, hb2⟩ : ∃ b, inB cur 8 = b := ⟨_, rfl⟩
  unfold tagB at hr
  try simp only at hr
  rw [hb0, hb1, hb2] at hr
  have HB0 := Lib.hid (fun W => hb0 ▸ HB.out con 64 W)
  have HB1 := Lib.hid (fun W => hb1 ▸ HB.out day 73049 W)
  have HB2 := Lib.hid (fun W => hb2 ▸ HB.out cur 8 W)
  clear HB hb0 hb1 hb2
  have tok1 : True := trivial
  have tok2 : True := trivial
  cases b0
  · subst hr
    go_enter Tryd.func29, Tryd.ntmps29
    go_wp2_with (first | (go_at_call 30; clear tok1; go_must (refine (HB0.out _).mono ?_; rintro e w2 ⟨rfl, rfl⟩)) | (go_at_call 30; clear tok2; go_must (refine (HB1.out _).mono ?_; rintro e w2 ⟨rfl, rfl⟩)) | (go_at_call 30; go_must (refine (HB2.out _).mono ?_; rintro e w2 ⟨rfl, rfl⟩)))
    go_ret
    exact ⟨rfl, by repeat (first | with_reducible exact Later.refl _ | with_reducible assumption | with_reducible refine Later.ofdrew ?_ | with_reducible refine Later.ofdrewN ?_ | with_reducible refine Later.setCell ?_ ?_ _ | with_reducible refine Later.alloc ?_ _ | with_reducible refine Later.drewN ?_ _ | with_reducible refine Later.drew ?_ | (with_reducible refine Later.trans ?_ (by assumption)) | (simp only [World.size_setCell, World.size_alloc, World.heap_drewN]; omega) | (simp; done) | (simp; omega))⟩
  ·
    cases b1
    · subst hr
      go_enter Tryd.func29, Tryd.ntmps29
      go_wp2_with (first | (go_at_call 30; clear tok1; go_must (refine (HB0.out _).mono ?_; rintro e w2 ⟨rfl, rfl⟩)) | (go_at_call 30; clear tok2; go_must (refine (HB1.out _).mono ?_; rintro e w2 ⟨rfl, rfl⟩)) | (go_at_call 30; go_must (refine (HB2.out _).mono ?_; rintro e w2 ⟨rfl, rfl⟩)))
      go_ret
      exact ⟨rfl, by repeat (first | with_reducible exact Later.refl _ | with_reducible assumption | with_reducible refine Later.ofdrew ?_ | with_reducible refine Later.ofdrewN ?_ | with_reducible refine Later.setCell ?_ ?_ _ | with_reducible refine Later.alloc ?_ _ | with_reducible refine Later.drewN ?_ _ | with_reducible refine Later.drew ?_ | (with_reducible refine Later.trans ?_ (by assumption)) | (simp only [World.size_setCell, World.size_alloc, World.heap_drewN]; omega) | (simp; done) | (simp; omega))⟩
    ·
      cases b2
      · subst hr
        go_enter Tryd.func29, Tryd.ntmps29
        go_wp2_with (first | (go_at_call 30; clear tok1; go_must (refine (HB0.out _).mono ?_; rintro e w2 ⟨rfl, rfl⟩)) | (go_at_call 30; clear tok2; go_must (refine (HB1.out _).mono ?_; rintro e w2 ⟨rfl, rfl⟩)) | (go_at_call 30; go_must (refine (HB2.out _).mono ?_; rintro e w2 ⟨rfl, rfl⟩)))
        go_ret
        exact ⟨rfl, by repeat (first | with_reducible exact Later.refl _ | with_reducible assumption | with_reducible refine Later.ofdrew ?_ | with_reducible refine Later.ofdrewN ?_ | with_reducible refine Later.setCell ?_ ?_ _ | with_reducible refine Later.alloc ?_ _ | with_reducible refine Later.drewN ?_ _ | with_reducible refine Later.drew ?_ | (with_reducible refine Later.trans ?_ (by assumption)) | (simp only [World.size_setCell, World.size_alloc, World.heap_drewN]; omega) | (simp; done) | (simp; omega))⟩
      ·
        subst hr
        go_enter Tryd.func29, Tryd.ntmps29
        go_wp2_with (first | (go_at_call 30; clear tok1; go_must (refine (HB0.out _).mono ?_; rintro e w2 ⟨rfl, rfl⟩)) | (go_at_call 30; clear tok2; go_must (refine (HB1.out _).mono ?_; rintro e w2 ⟨rfl, rfl⟩)) | (go_at_call 30; go_must (refine (HB2.out _).mono ?_; rintro e w2 ⟨rfl, rfl⟩)))
        go_ret
        exact ⟨rfl, by repeat (first | with_reducible exact Later.refl _ | with_reducible assumption | with_reducible refine Later.ofdrew ?_ | with_reducible refine Later.ofdrewN ?_ | with_reducible refine Later.setCell ?_ ?_ _ | with_reducible refine Later.alloc ?_ _ | with_reducible refine Later.drewN ?_ _ | with_reducible refine Later.drew ?_ | (with_reducible refine Later.trans ?_ (by assumption)) | (simp only [World.size_setCell, World.size_alloc, World.heap_drewN]; omega) | (simp; done) | (simp; omega))⟩

set_option maxHeartbeats 1600000 in
theorem line_any (p c a : Int) (w : World) : Calls Tryd.prog 106 #[.agg #[.int .i64 p, .int .i64 c, .int .i64 a]] w fun e w' => e = .returned (.bool (lnB ⟨p, c, a⟩)) ∧ Later w w' := by
  have HB := Lib.hid (fun n most W => below_fn n most W)
  obtain ⟨r, hr⟩ : ∃ r, lnB ⟨p, c, a⟩ = r := ⟨_, rfl⟩
  rw [hr]
  obtain ⟨b0, hb0⟩ : ∃ b, inB p 16 = b := ⟨_, rfl⟩
  obtain ⟨b1, hb1⟩ : ∃ b, inB c 8 = b := ⟨_, rfl⟩
  unfold lnB at hr
  try simp only at hr
  rw [hb0, hb1] at hr
  have HB0 := Lib.hid (fun W => hb0 ▸ HB.out p 16 W)
  have HB1 := Lib.hid (fun W => hb1 ▸ HB.out c 8 W)
  clear HB hb0 hb1
  have tok1 : True := trivial
  have tok2 : True := trivial
  cases b0
  · subst hr
    go_enter Tryd.func106, Tryd.ntmps106
    go_wp2_with (first | (go_at_call 30; clear tok1; go_must (refine (HB0.out _).mono ?_; rintro e w2 ⟨rfl, rfl⟩)) | (go_at_call 30; go_must (refine (HB1.out _).mono ?_; rintro e w2 ⟨rfl, rfl⟩)))
    go_ret
    exact ⟨rfl, by repeat (first | with_reducible exact Later.refl _ | with_reducible assumption | with_reducible refine Later.ofdrew ?_ | with_reducible refine Later.ofdrewN ?_ | with_reducible refine Later.setCell ?_ ?_ _ | with_reducible refine Later.alloc ?_ _ | with_reducible refine Later.drewN ?_ _ | with_reducible refine Later.drew ?_ | (with_reducible refine Later.trans ?_ (by assumption)) | (simp only [World.size_setCell, World.size_alloc, World.heap_drewN]; omega) | (simp; done) | (simp; omega))⟩
  ·
    cases b1
    · subst hr
      go_enter Tryd.func106, Tryd.ntmps106
      go_wp2_with (first | (go_at_call 30; clear tok1; go_must (refine (HB0.out _).mono ?_; rintro e w2 ⟨rfl, rfl⟩)) | (go_at_call 30; go_must (refine (HB1.out _).mono ?_; rintro e w2 ⟨rfl, rfl⟩)))
      go_ret
      exact ⟨rfl, by repeat (first | with_reducible exact Later.refl _ | with_reducible assumption | with_reducible refine Later.ofdrew ?_ | with_reducible refine Later.ofdrewN ?_ | with_reducible refine Later.setCell ?_ ?_ _ | with_reducible refine Later.alloc ?_ _ | with_reducible refine Later.drewN ?_ _ | with_reducible refine Later.drew ?_ | (with_reducible refine Later.trans ?_ (by assumption)) | (simp only [World.size_setCell, World.size_alloc, World.heap_drewN]; omega) | (simp; done) | (simp; omega))⟩
    ·
      subst hr
      go_enter Tryd.func106, Tryd.ntmps106
      go_wp2_with (first | (go_at_call 30; clear tok1; go_must (refine (HB0.out _).mono ?_; rintro e w2 ⟨rfl, rfl⟩)) | (go_at_call 30; go_must (refine (HB1.out _).mono ?_; rintro e w2 ⟨rfl, rfl⟩)))
      go_ret
      exact ⟨rfl, by repeat (first | with_reducible exact Later.refl _ | with_reducible assumption | with_reducible refine Later.ofdrew ?_ | with_reducible refine Later.ofdrewN ?_ | with_reducible refine Later.setCell ?_ ?_ _ | with_reducible refine Later.alloc ?_ _ | with_reducible refine Later.drewN ?_ _ | with_reducible refine Later.drew ?_ | (with_reducible refine Later.trans ?_ (by assumption)) | (simp only [World.size_setCell, World.size_alloc, World.heap_drewN]; omega) | (simp; done) | (simp; omega))⟩

set_option maxHeartbeats 800000 in
theorem ranges1_any (p c a : Int) (w : World) : Calls Tryd.prog 114 #[.agg #[.int .i64 p, .int .i64 c, .int .i64 a]] w fun e w' => e = .returned (.bool (!lnB ⟨p, c, a⟩)) ∧ Later w w' := by
  have HL := Lib.hid (fun W => line_any p c a W)
  obtain ⟨r, hr⟩ : ∃ r, lnB ⟨p, c, a⟩ = r := ⟨_, rfl⟩
  rw [hr] at HL ⊢
  clear hr
  go_enter Tryd.func114, Tryd.ntmps114
  go_wp2_with (go_at_call 106; go_must (refine (HL.out _).mono ?_; rintro e w2 ⟨rfl, hb2⟩))
  go_ret
  exact ⟨rfl, by repeat (first | with_reducible exact Later.refl _ | with_reducible assumption | with_reducible refine Later.ofdrew ?_ | with_reducible refine Later.ofdrewN ?_ | with_reducible refine Later.setCell ?_ ?_ _ | with_reducible refine Later.alloc ?_ _ | with_reducible refine Later.drewN ?_ _ | with_reducible refine Later.drew ?_ | (with_reducible refine Later.trans ?_ (by assumption)) | (simp only [World.size_setCell, World.size_alloc, World.heap_drewN]; omega) | (simp; done) | (simp; omega))⟩

set_option maxHeartbeats 800000 in
theorem lines1_any (B : Nat) (cur : Int) (p c a : Int) (w : World) (hc : w.cell? ⟨B, 2, none⟩ = some (.int .i64 cur)) : Calls Tryd.prog 115 #[.agg #[.int .i64 p, .int .i64 c, .int .i64 a], .pointer (some ⟨B, 0, none⟩)] w fun e w' => e = .returned (.bool (decide (c ≠ cur))) ∧ Later w w' := by
  have z := World.block_lt_of_cell? _ _ hc
  by_cases h : c = cur
  · subst h
    go_enter Tryd.func115, Tryd.ntmps115
    go_wp2
    go_ret
    exact ⟨by simp, by repeat (first | with_reducible exact Later.refl _ | with_reducible assumption | with_reducible refine Later.ofdrew ?_ | with_reducible refine Later.ofdrewN ?_ | with_reducible refine Later.setCell ?_ ?_ _ | with_reducible refine Later.alloc ?_ _ | with_reducible refine Later.drewN ?_ _ | with_reducible refine Later.drew ?_ | (with_reducible refine Later.trans ?_ (by assumption)) | (simp only [World.size_setCell, World.size_alloc, World.heap_drewN]; omega) | (simp; done) | (simp; omega))⟩
  · have e1 : (c != cur) = true := by simpa using h
    go_enter Tryd.func115, Tryd.ntmps115
    go_wp2
    go_ret
    exact ⟨by simp [h], by repeat (first | with_reducible exact Later.refl _ | with_reducible assumption | with_reducible refine Later.ofdrew ?_ | with_reducible refine Later.ofdrewN ?_ | with_reducible refine Later.setCell ?_ ?_ _ | with_reducible refine Later.alloc ?_ _ | with_reducible refine Later.drewN ?_ _ | with_reducible refine Later.drew ?_ | (with_reducible refine Later.trans ?_ (by assumption)) | (simp only [World.size_setCell, World.size_alloc, World.heap_drewN]; omega) | (simp; done) | (simp; omega))⟩

set_option maxHeartbeats 800000 in
theorem some1_any (p c a : Int) (w : World) : Calls Tryd.prog 116 #[.agg #[.int .i64 p, .int .i64 c, .int .i64 a]] w fun e w' => e = .returned (.bool (decide (a = 0))) ∧ Later w w' := by
  by_cases h : a = 0
  · subst h
    go_enter Tryd.func116, Tryd.ntmps116
    go_wp2
    go_ret
    exact ⟨by simp, by repeat (first | with_reducible exact Later.refl _ | with_reducible assumption | with_reducible refine Later.ofdrew ?_ | with_reducible refine Later.ofdrewN ?_ | with_reducible refine Later.setCell ?_ ?_ _ | with_reducible refine Later.alloc ?_ _ | with_reducible refine Later.drewN ?_ _ | with_reducible refine Later.drew ?_ | (with_reducible refine Later.trans ?_ (by assumption)) | (simp only [World.size_setCell, World.size_alloc, World.heap_drewN]; omega) | (simp; done) | (simp; omega))⟩
  · have e1 : (a == 0) = false := by simpa using h
    go_enter Tryd.func116, Tryd.ntmps116
    go_wp2
    go_ret
    exact ⟨by simp [h], by repeat (first | with_reducible exact Later.refl _ | with_reducible assumption | with_reducible refine Later.ofdrew ?_ | with_reducible refine Later.ofdrewN ?_ | with_reducible refine Later.setCell ?_ ?_ _ | with_reducible refine Later.alloc ?_ _ | with_reducible refine Later.drewN ?_ _ | with_reducible refine Later.drew ?_ | (with_reducible refine Later.trans ?_ (by assumption)) | (simp only [World.size_setCell, World.size_alloc, World.heap_drewN]; omega) | (simp; done) | (simp; omega))⟩

set_option maxHeartbeats 800000 in
theorem fits1_any (p c a : Int) (w : World) : Calls Tryd.prog 117 #[.agg #[.int .i64 p, .int .i64 c, .int .i64 a]] w fun e w' => e = .returned (.bool (decide (a = -9223372036854775808))) ∧ Later w w' := by
  by_cases h : a = -9223372036854775808
  · subst h
    go_enter Tryd.func117, Tryd.ntmps117
    go_wp2
    go_ret
    exact ⟨by simp, by repeat (first | with_reducible exact Later.refl _ | with_reducible assumption | with_reducible refine Later.ofdrew ?_ | with_reducible refine Later.ofdrewN ?_ | with_reducible refine Later.setCell ?_ ?_ _ | with_reducible refine Later.alloc ?_ _ | with_reducible refine Later.drewN ?_ _ | with_reducible refine Later.drew ?_ | (with_reducible refine Later.trans ?_ (by assumption)) | (simp only [World.size_setCell, World.size_alloc, World.heap_drewN]; omega) | (simp; done) | (simp; omega))⟩
  · have e1 : (a == -9223372036854775808) = false := by simpa using h
    go_enter Tryd.func117, Tryd.ntmps117
    go_wp2
    go_ret
    exact ⟨by simp [h], by repeat (first | with_reducible exact Later.refl _ | with_reducible assumption | with_reducible refine Later.ofdrew ?_ | with_reducible refine Later.ofdrewN ?_ | with_reducible refine Later.setCell ?_ ?_ _ | with_reducible refine Later.alloc ?_ _ | with_reducible refine Later.drewN ?_ _ | with_reducible refine Later.drew ?_ | (with_reducible refine Later.trans ?_ (by assumption)) | (simp only [World.size_setCell, World.size_alloc, World.heap_drewN]; omega) | (simp; done) | (simp; omega))⟩

set_option maxHeartbeats 1600000 in
theorem ranges1_idx (ls : List Ln) (hlen : ls.length ≤ 100000) (v : Value) (w : World) (hN : IsLines w v ls) :
    Calls Tryd.prog 118 #[v, .func (.func 114) #[] #[]] w fun e w' => (∃ r : Int, e = .returned (.int .i64 r) ∧ decide (0 ≤ r) = ls.any (fun x => !lnB x)) ∧ Later w w' := by
  obtain ⟨p, cp, rfl⟩ := hN.form
  have HCL := Lib.hid (fun (x : Ln) W (hl : Later w W) => ranges1_any x.p x.c x.a W)
  have HN := Lib.hid hN
  clear hN
  obtain ⟨L, hL⟩ : ∃ L, ls.length = L := ⟨_, rfl⟩
  rw [hL] at HN hlen ⊢
  have HL := Lib.hid hL
  clear hL
  go_enter Tryd.func118, Tryd.ntmps118
  go_wp2
  go_loopw [8] (fun s8 wr => ∃ j : Nat, j ≤ L ∧ s8 = .int .i64 j ∧ Hid (∀ i (h : i < ls.length), i < j → (fun x : Ln => !lnB x) ls[i] = false) ∧ Later w wr) (fun s8 _ => L - (intOf s8).toNat)
  case atStart => exact ⟨0, Nat.zero_le _, rfl, Lib.hid (fun i _ h => by omega), Later.refl _⟩
  case round =>
    obtain ⟨j, hj, rfl, hall, hlat⟩ := hrel
    by_cases hlt : j < L
    · have hjl : j < ls.length := by rw [HL.out]; exact hlt
      obtain ⟨b, o, cp', hv, hb, g⟩ := HN.out.full (i := j) hjl
      rw [HL.out] at hv
      cases hv
      have g0 := ((bcell hlat).1 _ _ hb).trans (g 0 (by omega))
      have g1 := ((bcell hlat).1 _ _ hb).trans (g 1 (by omega))
      have g2 := ((bcell hlat).1 _ _ hb).trans (g 2 (by omega))
      have HC := Lib.hid (fun W (hl : Later wr W) => HCL.out ls[j] W (hlat.trans hl))
      have hf0 : ∀ bb, (fun x : Ln => !lnB x) ls[j] = bb → (!lnB ls[j]) = bb := fun bb h => h
      simp only [lnF, Nat.add_zero] at g0 g1 g2
      clear g HCL HN
      cases hf : (fun x : Ln => !lnB x) ls[j] with
      | false =>
        have HA : Hid (∀ i (h : i < ls.length), i < j + 1 → (fun x : Ln => !lnB x) ls[i] = false) := Lib.hid (fun i h1 h2 => by
          by_cases h : i = j
          · subst h; exact hf
          · exact hall.out i h1 (by omega))
        have hf1 := hf0 _ hf
        rw [hf1] at HC
        clear hf hf0 hf1 hall HL
        generalize ls[j] = X at *
        obtain ⟨x0, x1, x2⟩ := X
        simp only at g0 g1 g2 HC
        go_wp2_with (go_at_call 114; go_must (refine (HC.out _ (by repeat (first | with_reducible exact Later.refl _ | with_reducible assumption | with_reducible refine Later.ofdrew ?_ | with_reducible refine Later.ofdrewN ?_ | with_reducible refine Later.setCell ?_ ?_ _ | with_reducible refine Later.alloc ?_ _ | with_reducible refine Later.drewN ?_ _ | with_reducible refine Later.drew ?_ | (with_reducible refine Later.trans ?_ (by assumption)) | (simp only [World.size_setCell, World.size_alloc, World.heap_drewN]; omega) | (simp; done) | (simp; omega)))).mono ?_; rintro e w3 ⟨rfl, hb3⟩))
        go_roundw
        case rel => exact ⟨j + 1, by omega, by go_num, HA, hlat.trans hb3⟩
        case measure => simp [intOf]; omega
      | true =>
        have HF : Hid (ls.any (fun x => !lnB x) = true) := Lib.hid (List.any_eq_true.2 ⟨ls[j], List.getElem_mem _, hf⟩)
        have hf1 := hf0 _ hf
        rw [hf1] at HC
        clear hf hf0 hf1 hall HL
        generalize ls[j] = X at *
        obtain ⟨x0, x1, x2⟩ := X
        simp only at g0 g1 g2 HC
        go_wp2_with (go_at_call 114; go_must (refine (HC.out _ (by repeat (first | with_reducible exact Later.refl _ | with_reducible assumption | with_reducible refine Later.ofdrew ?_ | with_reducible refine Later.ofdrewN ?_ | with_reducible refine Later.setCell ?_ ?_ _ | with_reducible refine Later.alloc ?_ _ | with_reducible refine Later.drewN ?_ _ | with_reducible refine Later.drew ?_ | (with_reducible refine Later.trans ?_ (by assumption)) | (simp only [World.size_setCell, World.size_alloc, World.heap_drewN]; omega) | (simp; done) | (simp; omega)))).mono ?_; rintro e w3 ⟨rfl, hb3⟩))
        go_ret
        exact ⟨⟨j, rfl, by rw [HF.out]; simp⟩, hlat.trans hb3⟩
    · have HF : Hid (ls.any (fun x => !lnB x) = false) := Lib.hid (by
        rw [List.any_eq_false]
        intro x hx
        obtain ⟨i, hi, rfl⟩ := List.getElem_of_mem hx
        have := hall.out i hi (by rw [HL.out] at hi; omega)
        simpa using this)
      clear hall
      go_wp2
      go_ret
      exact ⟨⟨-1, rfl, by rw [HF.out]; simp⟩, hlat⟩

set_option maxHeartbeats 400000 in
theorem ranges1_con (ls : List Ln) (hlen : ls.length ≤ 100000) (v : Value) (w : World) (hN : IsLines w v ls) :
    Calls Tryd.prog 113 #[v, .func (.func 114) #[] #[]] w fun e w' => e = .returned (.bool (ls.any (fun x => !lnB x))) ∧ Later w w' := by
  have HC := Lib.hid (ranges1_idx ls hlen v w hN)
  obtain ⟨p, cp, rfl⟩ := hN.form
  clear hN
  generalize ls.any (fun x => !lnB x) = bb at *
  go_enter Tryd.func113, Tryd.ntmps113
  go_wp2_with (go_at_call 118; go_must (refine HC.out.mono ?_; rintro e w1 ⟨⟨r, rfl, hr⟩, hb1⟩))
  go_ret
  exact ⟨by rw [← hr]; rfl, hb1⟩

set_option maxHeartbeats 1600000 in
theorem lines1_idx (B : Nat) (cur : Int) (ls : List Ln) (hlen : ls.length ≤ 100000) (v : Value) (w : World) (hN : IsLines w v ls) (hc : w.cell? ⟨B, 2, none⟩ = some (.int .i64 cur)) :
    Calls Tryd.prog 118 #[v, .func (.func 115) #[] #[.pointer (some ⟨B, 0, none⟩)]] w fun e w' => (∃ r : Int, e = .returned (.int .i64 r) ∧ decide (0 ≤ r) = ls.any (fun x => decide (x.c ≠ cur))) ∧ Later w w' := by
  obtain ⟨p, cp, rfl⟩ := hN.form
  have HCL := Lib.hid (fun (x : Ln) W (hl : Later w W) => lines1_any B cur x.p x.c x.a W (((bcell hl).1 _ _ (World.block_lt_of_cell? _ _ hc)).trans hc))
  have HN := Lib.hid hN
  clear hN
  obtain ⟨L, hL⟩ : ∃ L, ls.length = L := ⟨_, rfl⟩
  rw [hL] at HN hlen ⊢
  have HL := Lib.hid hL
  clear hL
  go_enter Tryd.func118, Tryd.ntmps118
  go_wp2
  go_loopw [8] (fun s8 wr => ∃ j : Nat, j ≤ L ∧ s8 = .int .i64 j ∧ Hid (∀ i (h : i < ls.length), i < j → (fun x : Ln => decide (x.c ≠ cur)) ls[i] = false) ∧ Later w wr) (fun s8 _ => L - (intOf s8).toNat)
  case atStart => exact ⟨0, Nat.zero_le _, rfl, Lib.hid (fun i _ h => by omega), Later.refl _⟩
  case round =>
    obtain ⟨j, hj, rfl, hall, hlat⟩ := hrel
    by_cases hlt : j < L
    · have hjl : j < ls.length := by rw [HL.out]; exact hlt
      obtain ⟨b, o, cp', hv, hb, g⟩ := HN.out.full (i := j) hjl
      rw [HL.out] at hv
      cases hv
      have g0 := ((bcell hlat).1 _ _ hb).trans (g 0 (by omega))
      have g1 := ((bcell hlat).1 _ _ hb).trans (g 1 (by omega))
      have g2 := ((bcell hlat).1 _ _ hb).trans (g 2 (by omega))
      have HC := Lib.hid (fun W (hl : Later wr W) => HCL.out ls[j] W (hlat.trans hl))
      have hf0 : ∀ bb, (fun x : Ln => decide (x.c ≠ cur)) ls[j] = bb → (decide ((ls[j]).c ≠ cur)) = bb := fun bb h => h
      simp only [lnF, Nat.add_zero] at g0 g1 g2
      clear g HCL HN
      cases hf : (fun x : Ln => decide (x.c ≠ cur)) ls[j] with
      | false =>
        have HA : Hid (∀ i (h : i < ls.length), i < j + 1 → (fun x : Ln => decide (x.c ≠ cur)) ls[i] = false) := Lib.hid (fun i h1 h2 => by
          by_cases h : i = j
          · subst h; exact hf
          · exact hall.out i h1 (by omega))
        have hf1 := hf0 _ hf
        rw [hf1] at HC
        clear hf hf0 hf1 hall HL
        generalize ls[j] = X at *
        obtain ⟨x0, x1, x2⟩ := X
        simp only at g0 g1 g2 HC
        go_wp2_with (go_at_call 115; go_must (refine (HC.out _ (by repeat (first | with_reducible exact Later.refl _ | with_reducible assumption | with_reducible refine Later.ofdrew ?_ | with_reducible refine Later.ofdrewN ?_ | with_reducible refine Later.setCell ?_ ?_ _ | with_reducible refine Later.alloc ?_ _ | with_reducible refine Later.drewN ?_ _ | with_reducible refine Later.drew ?_ | (with_reducible refine Later.trans ?_ (by assumption)) | (simp only [World.size_setCell, World.size_alloc, World.heap_drewN]; omega) | (simp; done) | (simp; omega)))).mono ?_; rintro e w3 ⟨rfl, hb3⟩))
        go_roundw
        case rel => exact ⟨j + 1, by omega, by go_num, HA, hlat.trans hb3⟩
        case measure => simp [intOf]; omega
      | true =>
        have HF : Hid (ls.any (fun x => decide (x.c ≠ cur)) = true) := Lib.hid (List.any_eq_true.2 ⟨ls[j], List.getElem_mem _, hf⟩)
        have hf1 := hf0 _ hf
        rw [hf1] at HC
        clear hf hf0 hf1 hall HL
        generalize ls[j] = X at *
        obtain ⟨x0, x1, x2⟩ := X
        simp only at g0 g1 g2 HC
        go_wp2_with (go_at_call 115; go_must (refine (HC.out _ (by repeat (first | with_reducible exact Later.refl _ | with_reducible assumption | with_reducible refine Later.ofdrew ?_ | with_reducible refine Later.ofdrewN ?_ | with_reducible refine Later.setCell ?_ ?_ _ | with_reducible refine Later.alloc ?_ _ | with_reducible refine Later.drewN ?_ _ | with_reducible refine Later.drew ?_ | (with_reducible refine Later.trans ?_ (by assumption)) | (simp only [World.size_setCell, World.size_alloc, World.heap_drewN]; omega) | (simp; done) | (simp; omega)))).mono ?_; rintro e w3 ⟨rfl, hb3⟩))
        go_ret
        exact ⟨⟨j, rfl, by rw [HF.out]; simp⟩, hlat.trans hb3⟩
    · have HF : Hid (ls.any (fun x => decide (x.c ≠ cur)) = false) := Lib.hid (by
        rw [List.any_eq_false]
        intro x hx
        obtain ⟨i, hi, rfl⟩ := List.getElem_of_mem hx
        have := hall.out i hi (by rw [HL.out] at hi; omega)
        simpa using this)
      clear hall
      go_wp2
      go_ret
      exact ⟨⟨-1, rfl, by rw [HF.out]; simp⟩, hlat⟩

set_option maxHeartbeats 400000 in
theorem lines1_con (B : Nat) (cur : Int) (ls : List Ln) (hlen : ls.length ≤ 100000) (v : Value) (w : World) (hN : IsLines w v ls) (hc : w.cell? ⟨B, 2, none⟩ = some (.int .i64 cur)) :
    Calls Tryd.prog 113 #[v, .func (.func 115) #[] #[.pointer (some ⟨B, 0, none⟩)]] w fun e w' => e = .returned (.bool (ls.any (fun x => decide (x.c ≠ cur)))) ∧ Later w w' := by
  have HC := Lib.hid (lines1_idx B cur ls hlen v w hN hc)
  obtain ⟨p, cp, rfl⟩ := hN.form
  clear hN
  generalize ls.any (fun x => decide (x.c ≠ cur)) = bb at *
  go_enter Tryd.func113, Tryd.ntmps113
  go_wp2_with (go_at_call 118; go_must (refine HC.out.mono ?_; rintro e w1 ⟨⟨r, rfl, hr⟩, hb1⟩))
  go_ret
  exact ⟨by rw [← hr]; rfl, hb1⟩

set_option maxHeartbeats 1600000 in
theorem some1_idx (ls : List Ln) (hlen : ls.length ≤ 100000) (v : Value) (w : World) (hN : IsLines w v ls) :
    Calls Tryd.prog 118 #[v, .func (.func 116) #[] #[]] w fun e w' => (∃ r : Int, e = .returned (.int .i64 r) ∧ decide (0 ≤ r) = ls.any (fun x => decide (x.a = 0))) ∧ Later w w' := by
  obtain ⟨p, cp, rfl⟩ := hN.form
  have HCL := Lib.hid (fun (x : Ln) W (hl : Later w W) => some1_any x.p x.c x.a W)
  have HN := Lib.hid hN
  clear hN
  obtain ⟨L, hL⟩ : ∃ L, ls.length = L := ⟨_, rfl⟩
  rw [hL] at HN hlen ⊢
  have HL := Lib.hid hL
  clear hL
  go_enter Tryd.func118, Tryd.ntmps118
  go_wp2
  go_loopw [8] (fun s8 wr => ∃ j : Nat, j ≤ L ∧ s8 = .int .i64 j ∧ Hid (∀ i (h : i < ls.length), i < j → (fun x : Ln => decide (x.a = 0)) ls[i] = false) ∧ Later w wr) (fun s8 _ => L - (intOf s8).toNat)
  case atStart => exact ⟨0, Nat.zero_le _, rfl, Lib.hid (fun i _ h => by omega), Later.refl _⟩
  case round =>
    obtain ⟨j, hj, rfl, hall, hlat⟩ := hrel
    by_cases hlt : j < L
    · have hjl : j < ls.length := by rw [HL.out]; exact hlt
      obtain ⟨b, o, cp', hv, hb, g⟩ := HN.out.full (i := j) hjl
      rw [HL.out] at hv
      cases hv
      have g0 := ((bcell hlat).1 _ _ hb).trans (g 0 (by omega))
      have g1 := ((bcell hlat).1 _ _ hb).trans (g 1 (by omega))
      have g2 := ((bcell hlat).1 _ _ hb).trans (g 2 (by omega))
      have HC := Lib.hid (fun W (hl : Later wr W) => HCL.out ls[j] W (hlat.trans hl))
      have hf0 : ∀ bb, (fun x : Ln => decide (x.a = 0)) ls[j] = bb → (decide ((ls[j]).a = 0)) = bb := fun bb h => h
      simp only [lnF, Nat.add_zero] at g0 g1 g2
      clear g HCL HN
      cases hf : (fun x : Ln => decide (x.a = 0)) ls[j] with
      | false =>
        have HA : Hid (∀ i (h : i < ls.length), i < j + 1 → (fun x : Ln => decide (x.a = 0)) ls[i] = false) := Lib.hid (fun i h1 h2 => by
          by_cases h : i = j
          · subst h; exact hf
          · exact hall.out i h1 (by omega))
        have hf1 := hf0 _ hf
        rw [hf1] at HC
        clear hf hf0 hf1 hall HL
        generalize ls[j] = X at *
        obtain ⟨x0, x1, x2⟩ := X
        simp only at g0 g1 g2 HC
        go_wp2_with (go_at_call 116; go_must (refine (HC.out _ (by repeat (first | with_reducible exact Later.refl _ | with_reducible assumption | with_reducible refine Later.ofdrew ?_ | with_reducible refine Later.ofdrewN ?_ | with_reducible refine Later.setCell ?_ ?_ _ | with_reducible refine Later.alloc ?_ _ | with_reducible refine Later.drewN ?_ _ | with_reducible refine Later.drew ?_ | (with_reducible refine Later.trans ?_ (by assumption)) | (simp only [World.size_setCell, World.size_alloc, World.heap_drewN]; omega) | (simp; done) | (simp; omega)))).mono ?_; rintro e w3 ⟨rfl, hb3⟩))
        go_roundw
        case rel => exact ⟨j + 1, by omega, by go_num, HA, hlat.trans hb3⟩
        case measure => simp [intOf]; omega
      | true =>
        have HF : Hid (ls.any (fun x => decide (x.a = 0)) = true) := Lib.hid (List.any_eq_true.2 ⟨ls[j], List.getElem_mem _, hf⟩)
        have hf1 := hf0 _ hf
        rw [hf1] at HC
        clear hf hf0 hf1 hall HL
        generalize ls[j] = X at *
        obtain ⟨x0, x1, x2⟩ := X
        simp only at g0 g1 g2 HC
        go_wp2_with (go_at_call 116; go_must (refine (HC.out _ (by repeat (first | with_reducible exact Later.refl _ | with_reducible assumption | with_reducible refine Later.ofdrew ?_ | with_reducible refine Later.ofdrewN ?_ | with_reducible refine Later.setCell ?_ ?_ _ | with_reducible refine Later.alloc ?_ _ | with_reducible refine Later.drewN ?_ _ | with_reducible refine Later.drew ?_ | (with_reducible refine Later.trans ?_ (by assumption)) | (simp only [World.size_setCell, World.size_alloc, World.heap_drewN]; omega) | (simp; done) | (simp; omega)))).mono ?_; rintro e w3 ⟨rfl, hb3⟩))
        go_ret
        exact ⟨⟨j, rfl, by rw [HF.out]; simp⟩, hlat.trans hb3⟩
    · have HF : Hid (ls.any (fun x => decide (x.a = 0)) = false) := Lib.hid (by
        rw [List.any_eq_false]
        intro x hx
        obtain ⟨i, hi, rfl⟩ := List.getElem_of_mem hx
        have := hall.out i hi (by rw [HL.out] at hi; omega)
        simpa using this)
      clear hall
      go_wp2
      go_ret
      exact ⟨⟨-1, rfl, by rw [HF.out]; simp⟩, hlat⟩

set_option maxHeartbeats 400000 in
theorem some1_con (ls : List Ln) (hlen : ls.length ≤ 100000) (v : Value) (w : World) (hN : IsLines w v ls) :
    Calls Tryd.prog 113 #[v, .func (.func 116) #[] #[]] w fun e w' => e = .returned (.bool (ls.any (fun x => decide (x.a = 0)))) ∧ Later w w' := by
  have HC := Lib.hid (some1_idx ls hlen v w hN)
  obtain ⟨p, cp, rfl⟩ := hN.form
  clear hN
  generalize ls.any (fun x => decide (x.a = 0)) = bb at *
  go_enter Tryd.func113, Tryd.ntmps113
  go_wp2_with (go_at_call 118; go_must (refine HC.out.mono ?_; rintro e w1 ⟨⟨r, rfl, hr⟩, hb1⟩))
  go_ret
  exact ⟨by rw [← hr]; rfl, hb1⟩

set_option maxHeartbeats 1600000 in
theorem fits1_idx (ls : List Ln) (hlen : ls.length ≤ 100000) (v : Value) (w : World) (hN : IsLines w v ls) :
    Calls Tryd.prog 118 #[v, .func (.func 117) #[] #[]] w fun e w' => (∃ r : Int, e = .returned (.int .i64 r) ∧ decide (0 ≤ r) = ls.any (fun x => decide (x.a = -9223372036854775808))) ∧ Later w w' := by
  obtain ⟨p, cp, rfl⟩ := hN.form
  have HCL := Lib.hid (fun (x : Ln) W (hl : Later w W) => fits1_any x.p x.c x.a W)
  have HN := Lib.hid hN
  clear hN
  obtain ⟨L, hL⟩ : ∃ L, ls.length = L := ⟨_, rfl⟩
  rw [hL] at HN hlen ⊢
  have HL := Lib.hid hL
  clear hL
  go_enter Tryd.func118, Tryd.ntmps118
  go_wp2
  go_loopw [8] (fun s8 wr => ∃ j : Nat, j ≤ L ∧ s8 = .int .i64 j ∧ Hid (∀ i (h : i < ls.length), i < j → (fun x : Ln => decide (x.a = -9223372036854775808)) ls[i] = false) ∧ Later w wr) (fun s8 _ => L - (intOf s8).toNat)
  case atStart => exact ⟨0, Nat.zero_le _, rfl, Lib.hid (fun i _ h => by omega), Later.refl _⟩
  case round =>
    obtain ⟨j, hj, rfl, hall, hlat⟩ := hrel
    by_cases hlt : j < L
    · have hjl : j < ls.length := by rw [HL.out]; exact hlt
      obtain ⟨b, o, cp', hv, hb, g⟩ := HN.out.full (i := j) hjl
      rw [HL.out] at hv
      cases hv
      have g0 := ((bcell hlat).1 _ _ hb).trans (g 0 (by omega))
      have g1 := ((bcell hlat).1 _ _ hb).trans (g 1 (by omega))
      have g2 := ((bcell hlat).1 _ _ hb).trans (g 2 (by omega))
      have HC := Lib.hid (fun W (hl : Later wr W) => HCL.out ls[j] W (hlat.trans hl))
      have hf0 : ∀ bb, (fun x : Ln => decide (x.a = -9223372036854775808)) ls[j] = bb → (decide ((ls[j]).a = -9223372036854775808)) = bb := fun bb h => h
      simp only [lnF, Nat.add_zero] at g0 g1 g2
      clear g HCL HN
      cases hf : (fun x : Ln => decide (x.a = -9223372036854775808)) ls[j] with
      | false =>
        have HA : Hid (∀ i (h : i < ls.length), i < j + 1 → (fun x : Ln => decide (x.a = -9223372036854775808)) ls[i] = false) := Lib.hid (fun i h1 h2 => by
          by_cases h : i = j
          · subst h; exact hf
          · exact hall.out i h1 (by omega))
        have hf1 := hf0 _ hf
        rw [hf1] at HC
        clear hf hf0 hf1 hall HL
        generalize ls[j] = X at *
        obtain ⟨x0, x1, x2⟩ := X
        simp only at g0 g1 g2 HC
        go_wp2_with (go_at_call 117; go_must (refine (HC.out _ (by repeat (first | with_reducible exact Later.refl _ | with_reducible assumption | with_reducible refine Later.ofdrew ?_ | with_reducible refine Later.ofdrewN ?_ | with_reducible refine Later.setCell ?_ ?_ _ | with_reducible refine Later.alloc ?_ _ | with_reducible refine Later.drewN ?_ _ | with_reducible refine Later.drew ?_ | (with_reducible refine Later.trans ?_ (by assumption)) | (simp only [World.size_setCell, World.size_alloc, World.heap_drewN]; omega) | (simp; done) | (simp; omega)))).mono ?_; rintro e w3 ⟨rfl, hb3⟩))
        go_roundw
        case rel => exact ⟨j + 1, by omega, by go_num, HA, hlat.trans hb3⟩
        case measure => simp [intOf]; omega
      | true =>
        have HF : Hid (ls.any (fun x => decide (x.a = -9223372036854775808)) = true) := Lib.hid (List.any_eq_true.2 ⟨ls[j], List.getElem_mem _, hf⟩)
        have hf1 := hf0 _ hf
        rw [hf1] at HC
        clear hf hf0 hf1 hall HL
        generalize ls[j] = X at *
        obtain ⟨x0, x1, x2⟩ := X
        simp only at g0 g1 g2 HC
        go_wp2_with (go_at_call 117; go_must (refine (HC.out _ (by repeat (first | with_reducible exact Later.refl _ | with_reducible assumption | with_reducible refine Later.ofdrew ?_ | with_reducible refine Later.ofdrewN ?_ | with_reducible refine Later.setCell ?_ ?_ _ | with_reducible refine Later.alloc ?_ _ | with_reducible refine Later.drewN ?_ _ | with_reducible refine Later.drew ?_ | (with_reducible refine Later.trans ?_ (by assumption)) | (simp only [World.size_setCell, World.size_alloc, World.heap_drewN]; omega) | (simp; done) | (simp; omega)))).mono ?_; rintro e w3 ⟨rfl, hb3⟩))
        go_ret
        exact ⟨⟨j, rfl, by rw [HF.out]; simp⟩, hlat.trans hb3⟩
    · have HF : Hid (ls.any (fun x => decide (x.a = -9223372036854775808)) = false) := Lib.hid (by
        rw [List.any_eq_false]
        intro x hx
        obtain ⟨i, hi, rfl⟩ := List.getElem_of_mem hx
        have := hall.out i hi (by rw [HL.out] at hi; omega)
        simpa using this)
      clear hall
      go_wp2
      go_ret
      exact ⟨⟨-1, rfl, by rw [HF.out]; simp⟩, hlat⟩

set_option maxHeartbeats 400000 in
theorem fits1_con (ls : List Ln) (hlen : ls.length ≤ 100000) (v : Value) (w : World) (hN : IsLines w v ls) :
    Calls Tryd.prog 113 #[v, .func (.func 117) #[] #[]] w fun e w' => e = .returned (.bool (ls.any (fun x => decide (x.a = -9223372036854775808)))) ∧ Later w w' := by
  have HC := Lib.hid (fits1_idx ls hlen v w hN)
  obtain ⟨p, cp, rfl⟩ := hN.form
  clear hN
  generalize ls.any (fun x => decide (x.a = -9223372036854775808)) = bb at *
  go_enter Tryd.func113, Tryd.ntmps113
  go_wp2_with (go_at_call 118; go_must (refine HC.out.mono ?_; rintro e w1 ⟨⟨r, rfl, hr⟩, hb1⟩))
  go_ret
  exact ⟨by rw [← hr]; rfl, hb1⟩
end Go.Proofs.YtpblfheeeifjcaaDoor
