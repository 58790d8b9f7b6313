/- walks: the first error of two ratios; two ratios together -/
import Derived.Test.YtckeaibamgkegaaDoorRatC
import Derived.Deep.DeepCutAuto
import Derived.Deep.CutBlock
set_option linter.all false
namespace Go.Proofs.YtckeaibamgkegaaDoor
open Go.RowKit
set_option maxRecDepth 100000

/-- The first error of two. -/
def firstE (an ad bn bd : Int) : Int := if chkE an ad ≠ 0 then chkE an ad else chkE bn bd

theorem chk_bd (n d : Int) : chkE n d = 0 ∨ chkE n d = 12 ∨ chkE n d = 13 := by
  unfold chkE; split
  · exact .inr (.inl rfl)
  · split
    · exact .inr (.inr rfl)
    · exact .inl rfl

set_option maxHeartbeats 1000000 in
theorem first_any (an ad bn bd : Int) (b : Nat) (w : World) (an1 : -9223372036854775808 ≤ an) (an2 : an ≤ 9223372036854775807) (ad1 : -9223372036854775808 ≤ ad) (ad2 : ad ≤ 9223372036854775807)
    (bn1 : -9223372036854775808 ≤ bn) (bn2 : bn ≤ 9223372036854775807) (bd1 : -9223372036854775808 ≤ bd) (bd2 : bd ≤ 9223372036854775807)
    (hb : b < w.heap.size) (cs : ∀ i, w.cell? ⟨b, i, none⟩ = #[Value.int .i64 an, .int .i64 ad, .int .i64 bn, .int .i64 bd][i]?) :
    Calls Tryd.prog 77 #[.slice (some ⟨b, 0, none⟩) 2 2] w fun e w' => e = .returned (.int .i64 (firstE an ad bn bd)) ∧ Later w w' := by
  have A := chk_bd an ad
  have B := chk_bd bn bd
  go_enter Tryd.func77, Tryd.ntmps77
  go_wp2_with fail
  go_step3
  go_wp2_with fail
  go_step3
  go_upto_block 0 with fail
  go_cut [3, 5, 8] (fun s3 s5 s8 wx => s3 = .int .i64 (firstE an ad bn bd) ∧ Later w wx)
  case first =>
    go_wp2_with fail
    go_loopw [3, 5, 8] (fun s3 s5 s8 wr => ∃ k : Nat, k ≤ 2 ∧ s8 = .int .i64 k ∧ s3 = .int .i64 0 ∧ (1 ≤ k → Hid (chkE an ad = 0)) ∧ (2 ≤ k → Hid (chkE bn bd = 0)) ∧ Later w wr) (fun _ _ s8 _ => 2 - (intOf s8).toNat)
    case atStart => exact ⟨0, by omega, rfl, rfl, fun h => by omega, fun h => by omega, Later.refl _⟩
    case round =>
      obtain ⟨k, hk, rfl, rfl, h1, h2, hl⟩ := hrel
      have hc : ∀ i, wr.cell? ⟨b, i, none⟩ = #[Value.int .i64 an, .int .i64 ad, .int .i64 bn, .int .i64 bd][i]? := fun i => (hl.cell (p := ⟨b, i, none⟩) hb).trans (cs i)
      match k, hk, h1, h2 with
      | 0, _, h1, _ =>
        by_cases he : chkE an ad = 0
        · have HE := Lib.hid he
          clear he
          go_wp2_with (go_at_call 29; refine (check_any _ _ _ (by omega) (by omega) (by omega) (by omega)).mono ?_; rw [HE.out]; rintro e w1 ⟨rfl, hb1⟩)
          go_roundw
          case rel => exact ⟨1, by omega, rfl, rfl, fun _ => HE, fun h => by omega, by repeat (first | with_reducible exact Later.refl _ | with_reducible assumption | with_reducible refine Later.ofdrew ?_ | with_reducible refine Later.ofdrewN ?_ | with_reducible refine Later.setCell ?_ ?_ _ | with_reducible refine Later.alloc ?_ _ | with_reducible refine Later.drewN ?_ _ | with_reducible refine Later.drew ?_ | (with_reducible refine Later.trans ?_ (by assumption)) | (simp only [World.size_setCell, World.size_alloc, World.heap_drewN]; omega) | (simp; done) | (simp; omega))⟩
          case measure => simp [intOf]
        · have hF : firstE an ad bn bd = chkE an ad := by unfold firstE; rw [if_pos he]
          have HF := Lib.hid hF
          clear hF
          obtain ⟨E, hE⟩ : ∃ E, E = chkE an ad := ⟨_, rfl⟩
          rw [← hE] at he HF
          have HE := Lib.hid hE
          have he' : (E != 0) = true := by simpa using he
          clear hE he
          go_wp2_with (go_at_call 29; refine (check_any _ _ _ (by omega) (by omega) (by omega) (by omega)).mono ?_; rw [← HE.out]; rintro e w1 ⟨rfl, hb1⟩)
          go_meet
          exact ⟨by rw [HF.out], by repeat (first | with_reducible exact Later.refl _ | with_reducible assumption | with_reducible refine Later.ofdrew ?_ | with_reducible refine Later.ofdrewN ?_ | with_reducible refine Later.setCell ?_ ?_ _ | with_reducible refine Later.alloc ?_ _ | with_reducible refine Later.drewN ?_ _ | with_reducible refine Later.drew ?_ | (with_reducible refine Later.trans ?_ (by assumption)) | (simp only [World.size_setCell, World.size_alloc, World.heap_drewN]; omega) | (simp; done) | (simp; omega))⟩
      | 1, _, h1, _ =>
        by_cases he : chkE bn bd = 0
        · have HE := Lib.hid he
          clear he
          go_wp2_with (go_at_call 29; refine (check_any _ _ _ (by omega) (by omega) (by omega) (by omega)).mono ?_; rw [HE.out]; rintro e w1 ⟨rfl, hb1⟩)
          go_roundw
          case rel => exact ⟨2, by omega, rfl, rfl, fun _ => h1 (by omega), fun _ => HE, by repeat (first | with_reducible exact Later.refl _ | with_reducible assumption | with_reducible refine Later.ofdrew ?_ | with_reducible refine Later.ofdrewN ?_ | with_reducible refine Later.setCell ?_ ?_ _ | with_reducible refine Later.alloc ?_ _ | with_reducible refine Later.drewN ?_ _ | with_reducible refine Later.drew ?_ | (with_reducible refine Later.trans ?_ (by assumption)) | (simp only [World.size_setCell, World.size_alloc, World.heap_drewN]; omega) | (simp; done) | (simp; omega))⟩
          case measure => simp [intOf]
        · have hF : firstE an ad bn bd = chkE bn bd := by unfold firstE; rw [if_neg (by rw [(h1 (by omega)).out]; decide)]
          have HF := Lib.hid hF
          clear hF
          obtain ⟨E, hE⟩ : ∃ E, E = chkE bn bd := ⟨_, rfl⟩
          rw [← hE] at he HF
          have HE := Lib.hid hE
          have he' : (E != 0) = true := by simpa using he
          clear hE he
          go_wp2_with (go_at_call 29; refine (check_any _ _ _ (by omega) (by omega) (by omega) (by omega)).mono ?_; rw [← HE.out]; rintro e w1 ⟨rfl, hb1⟩)
          go_meet
          exact ⟨by rw [HF.out], by repeat (first | with_reducible exact Later.refl _ | with_reducible assumption | with_reducible refine Later.ofdrew ?_ | with_reducible refine Later.ofdrewN ?_ | with_reducible refine Later.setCell ?_ ?_ _ | with_reducible refine Later.alloc ?_ _ | with_reducible refine Later.drewN ?_ _ | with_reducible refine Later.drew ?_ | (with_reducible refine Later.trans ?_ (by assumption)) | (simp only [World.size_setCell, World.size_alloc, World.heap_drewN]; omega) | (simp; done) | (simp; omega))⟩
      | 2, _, h1, h2 =>
        go_wp2_with fail
        go_meet
        exact ⟨by rw [show firstE an ad bn bd = 0 by unfold firstE; rw [(h1 (by omega)).out, (h2 (by omega)).out]; rfl], hl⟩
      | k + 3, hk, _, _ => omega
  case rest =>
    obtain ⟨rfl, hl⟩ := hcut
    go_wp2_with fail
    rw [Exit.noGoto_ret]
    go_ret
    exact ⟨rfl, hl⟩

set_option maxHeartbeats 1000000 in
theorem two_bad (an ad bn bd : Int) (f : FuncId) (w : World) (an1 : -9223372036854775808 ≤ an) (an2 : an ≤ 9223372036854775807) (ad1 : -9223372036854775808 ≤ ad) (ad2 : ad ≤ 9223372036854775807)
    (bn1 : -9223372036854775808 ≤ bn) (bn2 : bn ≤ 9223372036854775807) (bd1 : -9223372036854775808 ≤ bd) (bd2 : bd ≤ 9223372036854775807) (E : Int) (HE : Hid (firstE an ad bn bd = E)) (he : (E != 0) = true) :
    Calls Tryd.prog 50 #[.agg #[.int .i64 an, .int .i64 ad], .agg #[.int .i64 bn, .int .i64 bd], .func (.func f) #[] #[]] w fun e w' => e = .returned (.tuple #[.agg #[.int .i64 0, .int .i64 0], .int .i64 E]) ∧ Later w w' := by
  go_enter Tryd.func50, Tryd.ntmps50
  go_wp2_with fail
  refine (first_any an ad bn bd _ _ an1 an2 ad1 ad2 bn1 bn2 bd1 bd2 (by simp) (fun i => by simp [go_sem])).mono ?_
  rw [HE.out]
  rintro e w1 ⟨rfl, hb1⟩
  obtain ⟨c0, f0, c1, f1, c2, f2, z1⟩ := own3 (Later.unalloc hb1)
  go_wp2_with fail
  exact bodyPost_ret (v := .tuple #[.agg #[.int .i64 0, .int .i64 0], .int .i64 E]) (by simp [results, Tryd.results50, go_sem, c2]) rfl ⟨rfl, by repeat (first | with_reducible exact Later.refl _ | with_reducible assumption | with_reducible refine Later.ofdrew ?_ | with_reducible refine Later.ofdrewN ?_ | with_reducible refine Later.setCell ?_ ?_ _ | with_reducible refine Later.alloc ?_ _ | with_reducible refine Later.drewN ?_ _ | with_reducible refine Later.drew ?_ | (with_reducible refine Later.trans ?_ (by assumption)) | (simp only [World.size_setCell, World.size_alloc, World.heap_drewN]; omega) | (simp; done) | (simp; omega))⟩

set_option maxHeartbeats 1000000 in
theorem two_good_add (an ad bn bd n d e : Int) (w : World) (an1 : -9223372036854775808 ≤ an) (an2 : an ≤ 9223372036854775807) (ad1 : -9223372036854775808 ≤ ad) (ad2 : ad ≤ 9223372036854775807)
    (bn1 : -9223372036854775808 ≤ bn) (bn2 : bn ≤ 9223372036854775807) (bd1 : -9223372036854775808 ≤ bd) (bd2 : bd ≤ 9223372036854775807) (HE : Hid (firstE an ad bn bd = 0))
    (HF : Hid (∀ w, Calls Tryd.prog 51 #[.agg #[.int .i64 an, .int .i64 ad], .agg #[.int .i64 bn, .int .i64 bd]] w fun e' w' => e' = .returned (.tuple #[.agg #[.int .i64 n, .int .i64 d], .int .i64 e]) ∧ Later w w')) :
    Calls Tryd.prog 50 #[.agg #[.int .i64 an, .int .i64 ad], .agg #[.int .i64 bn, .int .i64 bd], .func (.func 51) #[] #[]] w fun e' w' => e' = .returned (.tuple #[.agg #[.int .i64 n, .int .i64 d], .int .i64 e]) ∧ Later w w' := by
  go_enter Tryd.func50, Tryd.ntmps50
  go_wp2_with fail
  refine (first_any an ad bn bd _ _ an1 an2 ad1 ad2 bn1 bn2 bd1 bd2 (by simp) (fun i => by simp [go_sem])).mono ?_
  rw [HE.out]
  rintro e w1 ⟨rfl, hb1⟩
  obtain ⟨c0, f0, c1, f1, c2, f2, z1⟩ := own3 (Later.unalloc hb1)
  go_wp2_with fail
  refine (HF.out _).mono ?_
  rintro e w2 ⟨rfl, hb2⟩
  obtain ⟨hc, hf⟩ := bcell hb2; have hz := Later.size hb2; (try simp only [World.size_alloc, World.size_drew, World.heap_drewN, World.size_setCell] at hz); (repeat (first | (with_reducible refine use_of (Later.undrew hb2) ?_; intro hb2) | (with_reducible refine use_of (Later.undrewN hb2) ?_; intro hb2) | (with_reducible refine use_of (Later.unalloc hb2) ?_; intro hb2))); obtain ⟨hc, hf⟩ := bcell hb2; (try (refine use_of (fun i => (hc _ i (by omega)).trans (c2 i)) ?_; clear c2; intro c2)); (try (refine use_of (fun i hi => (hf _ i (by omega)).trans (f2 i hi)) ?_; clear f2; intro f2))
  go_wp2_with fail
  exact bodyPost_ret (v := .tuple #[.agg #[.int .i64 n, .int .i64 d], .int .i64 e]) (by simp [results, Tryd.results50, go_sem, c2]) rfl ⟨rfl, by repeat (first | with_reducible exact Later.refl _ | with_reducible assumption | with_reducible refine Later.ofdrew ?_ | with_reducible refine Later.ofdrewN ?_ | with_reducible refine Later.setCell ?_ ?_ _ | with_reducible refine Later.alloc ?_ _ | with_reducible refine Later.drewN ?_ _ | with_reducible refine Later.drew ?_ | (with_reducible refine Later.trans ?_ (by assumption)) | (simp only [World.size_setCell, World.size_alloc, World.heap_drewN]; omega) | (simp; done) | (simp; omega))⟩

/-- A call of two ratios and of what is done with them: its result, handed on. -/
theorem two_add (an ad bn bd n d e : Int) (w : World) (an1 : -9223372036854775808 ≤ an) (an2 : an ≤ 9223372036854775807) (ad1 : -9223372036854775808 ≤ ad) (ad2 : ad ≤ 9223372036854775807)
    (bn1 : -9223372036854775808 ≤ bn) (bn2 : bn ≤ 9223372036854775807) (bd1 : -9223372036854775808 ≤ bd) (bd2 : bd ≤ 9223372036854775807)
    (HF : Hid (firstE an ad bn bd = 0 → ∀ w, Calls Tryd.prog 51 #[.agg #[.int .i64 an, .int .i64 ad], .agg #[.int .i64 bn, .int .i64 bd]] w fun e' w' => e' = .returned (.tuple #[.agg #[.int .i64 n, .int .i64 d], .int .i64 e]) ∧ Later w w')) :
    Calls Tryd.prog 50 #[.agg #[.int .i64 an, .int .i64 ad], .agg #[.int .i64 bn, .int .i64 bd], .func (.func 51) #[] #[]] w fun e' w' =>
      e' = .returned (.tuple #[.agg #[.int .i64 (if firstE an ad bn bd = 0 then n else 0), .int .i64 (if firstE an ad bn bd = 0 then d else 0)], .int .i64 (if firstE an ad bn bd = 0 then e else firstE an ad bn bd)]) ∧ Later w w' := by
  by_cases h : firstE an ad bn bd = 0
  · simp only [h, if_true]
    exact two_good_add an ad bn bd n d e w an1 an2 ad1 ad2 bn1 bn2 bd1 bd2 (Lib.hid h) (Lib.hid (HF.out h))
  · simp only [h, if_false]
    exact two_bad an ad bn bd 51 w an1 an2 ad1 ad2 bn1 bn2 bd1 bd2 _ (Lib.hid rfl) (by simpa using h)
end Go.Proofs.YtckeaibamgkegaaDoor
