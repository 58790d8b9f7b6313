/- the exported functions of ratio, by their walks -/
import Derived.Test.YtckeaibamgkegaaDoorRatF
import Derived.Test.YtckeaibamgkegaaDoorRatE
set_option linter.all false
namespace Go.Proofs.YtckeaibamgkegaaDoor
open Go.RowKit
set_option maxRecDepth 100000

theorem first_zero {an ad bn bd : Int} (an1 : -9223372036854775808 ≤ an) (an2 : an ≤ 9223372036854775807) (ad2 : ad ≤ 9223372036854775807)
    (bn1 : -9223372036854775808 ≤ bn) (bn2 : bn ≤ 9223372036854775807) (bd2 : bd ≤ 9223372036854775807) : firstE an ad bn bd = 0 ↔ Valid an ad ∧ Valid bn bd := by
  rw [← chk_valid an1 an2 ad2, ← chk_valid bn1 bn2 bd2]
  unfold firstE
  constructor
  · intro h
    by_cases ha : chkE an ad = 0
    · rw [if_neg (by simpa using ha)] at h; exact ⟨ha, h⟩
    · rw [if_pos ha] at h; exact absurd h ha
  · rintro ⟨h1, h2⟩
    rw [if_neg (by simpa using h1)]; exact h2

theorem valid_neg {n d : Int} (h : Valid n d) : Valid (-n) d := ⟨h.d0, h.d1, by have := h.n1; omega, by have := h.n0; omega, by rw [Int.natAbs_neg]; exact h.co⟩
theorem valid_turn {n d : Int} (h : Valid n d) (hn : 0 < n) : Valid d n := ⟨hn, h.n1, by have := h.d0; omega, h.d1, h.co.symm⟩

theorem r_neg (n d : Int) : rN (-n) (-d) = rN n d ∧ rD (-n) (-d) = rD n d ∧ rE (-n) (-d) = rE n d := by
  by_cases hd : d = 0
  · subst hd
    have h1 := r_zero n
    have h2 := r_zero (-n)
    rw [Int.neg_zero]
    exact ⟨by rw [h1.1, h2.1], by rw [h1.2.1, h2.2.1], by rw [h1.2.2, h2.2.2]⟩
  · obtain ⟨h1, h2⟩ := red_neg n d hd
    have e : rE (-n) (-d) = rE n d := by unfold rE; rw [← h1, ← h2, if_neg hd, if_neg (by omega)]
    unfold rN rD
    rw [e, ← h1, ← h2]; exact ⟨rfl, rfl, rfl⟩

set_option maxHeartbeats 1000000 in
theorem Add_walk (an ad bn bd N D E : Int) (w : World) (HH : Hid (∀ w, Calls Tryd.prog 50 #[.agg #[.int .i64 an, .int .i64 ad], .agg #[.int .i64 bn, .int .i64 bd], .func (.func 51) #[] #[]] w fun e' w' => e' = .returned (.tuple #[.agg #[.int .i64 N, .int .i64 D], .int .i64 E]) ∧ Later w w')) :
    Calls Tryd.prog 27 #[.agg #[.int .i64 an, .int .i64 ad], .agg #[.int .i64 bn, .int .i64 bd]] w fun e' w' => e' = .returned (.tuple #[.agg #[.int .i64 N, .int .i64 D], .int .i64 E]) ∧ Later w w' := by
  go_enter Tryd.func27, Tryd.ntmps27
  go_wp2_with fail
  refine (HH.out _).mono ?_
  rintro e w1 ⟨rfl, hb1⟩
  obtain ⟨c0, f0, c1, f1, c2, f2, z1⟩ := own3 hb1
  go_wp2_with fail
  exact bodyPost_ret (v := .tuple #[.agg #[.int .i64 N, .int .i64 D], .int .i64 E]) (by simp [results, Tryd.results27, go_sem, c2]) rfl ⟨rfl, by repeat (first | with_reducible exact Later.refl _ | with_reducible assumption | with_reducible refine Later.ofdrew ?_ | with_reducible refine Later.ofdrewN ?_ | with_reducible refine Later.setCell ?_ ?_ _ | with_reducible refine Later.alloc ?_ _ | with_reducible refine Later.drewN ?_ _ | with_reducible refine Later.drew ?_ | (with_reducible refine Later.trans ?_ (by assumption)) | (simp only [World.size_setCell, World.size_alloc, World.heap_drewN]; omega) | (simp; done) | (simp; omega))⟩

theorem Add_good (an ad bn bd : Int) (w : World) (hA : Valid an ad) (hB : Valid bn bd) :
    Calls Tryd.prog 27 #[.agg #[.int .i64 an, .int .i64 ad], .agg #[.int .i64 bn, .int .i64 bd]] w fun e' w' =>
      e' = .returned (.tuple #[.agg #[.int .i64 (rN (an * bd + bn * ad) (ad * bd)), .int .i64 (rD (an * bd + bn * ad) (ad * bd))], .int .i64 (rE (an * bd + bn * ad) (ad * bd))]) ∧ Later w w' := by
  have ad0 := hA.d0; have ad1 := hA.d1; have an0 := hA.n0; have an1 := hA.n1
  have bd0 := hB.d0; have bd1 := hB.d1; have bn0 := hB.n0; have bn1 := hB.n1
  exact Add_walk an ad bn bd _ _ _ w (Lib.hid fun w => two_good_add an ad bn bd _ _ _ w (by omega) an1 (by omega) ad1 (by omega) bn1 (by omega) bd1
    (Lib.hid ((first_zero (by omega) an1 ad1 (by omega) bn1 bd1).2 ⟨hA, hB⟩)) (Lib.hid fun w => add_any an ad bn bd w hA hB))

theorem Add_bad (an ad bn bd E : Int) (w : World) (an1 : -9223372036854775808 ≤ an) (an2 : an ≤ 9223372036854775807) (ad1 : -9223372036854775808 ≤ ad) (ad2 : ad ≤ 9223372036854775807)
    (bn1 : -9223372036854775808 ≤ bn) (bn2 : bn ≤ 9223372036854775807) (bd1 : -9223372036854775808 ≤ bd) (bd2 : bd ≤ 9223372036854775807) (hE : firstE an ad bn bd = E) (he : E ≠ 0) :
    Calls Tryd.prog 27 #[.agg #[.int .i64 an, .int .i64 ad], .agg #[.int .i64 bn, .int .i64 bd]] w fun e' w' => e' = .returned (.tuple #[.agg #[.int .i64 0, .int .i64 0], .int .i64 E]) ∧ Later w w' :=
  Add_walk an ad bn bd _ _ _ w (Lib.hid fun w => two_bad an ad bn bd _ w an1 an2 ad1 ad2 bn1 bn2 bd1 bd2 E (Lib.hid hE) (by simpa using he))

end Go.Proofs.YtckeaibamgkegaaDoor
