/- the chapter's examples -/
import Derived.Test.YtckeaibamgkegaaDoorRatI
set_option linter.all false
namespace Go.Proofs.YtckeaibamgkegaaDoor
open Go.RowKit
set_option maxRecDepth 100000

theorem v12 : Valid 1 2 := ⟨by decide, by decide, by decide, by decide, by decide⟩
theorem v13 : Valid 1 3 := ⟨by decide, by decide, by decide, by decide, by decide⟩
theorem v52 : Valid 5 2 := ⟨by decide, by decide, by decide, by decide, by decide⟩
theorem of64 : rN 6 (-4) = -3 ∧ rD 6 (-4) = 2 ∧ rE 6 (-4) = 0 := by
  have h := r_neg (-6) 4
  have R := (r_of (n := -6) (d := 4) (k := 2) (n' := -3) (d' := 2) (by decide) (by decide) (by decide) (by decide) (by decide)).1 (by decide) (by decide)
  exact ⟨h.1.trans R.1, h.2.1.trans R.2.1, h.2.2.trans R.2.2⟩
theorem sum56 : rN (1 * 3 + 1 * 2) (2 * 3) = 5 ∧ rD (1 * 3 + 1 * 2) (2 * 3) = 6 ∧ rE (1 * 3 + 1 * 2) (2 * 3) = 0 :=
  (r_of (k := 1) (n' := 5) (d' := 6) (by decide) (by decide) (by decide) (by decide) (by decide)).1 (by decide) (by decide)

set_option maxHeartbeats 1000000 in
theorem awake_any (w : World) : Calls Tryd.prog 9 #[] w fun e w' => e = .returned (.bool true) ∧ Later w w' := by
  have HO := fun w => of_any 6 (-4) w (by decide) (by decide) (by decide) (by decide)
  rw [of64.1, of64.2.1, of64.2.2] at HO
  have HS := fun w => Add_good 1 2 1 3 w v12 v13
  rw [sum56.1, sum56.2.1, sum56.2.2] at HS
  have HR := fun w => round_good 5 2 w v52
  rw [show roundI 5 2 = 2 by decide] at HR
  have H1 := Lib.hid HO
  have H2 := Lib.hid HS
  have H3 := Lib.hid HR
  clear HO HS HR
  go_enter Tryd.func9, Tryd.ntmps9
  go_wp2_with fail
  refine (H1.out _).mono ?_
  rintro e w1 ⟨rfl, hb1⟩
  go_wp2_with fail
  refine (H2.out _).mono ?_
  rintro e w2 ⟨rfl, hb2⟩
  obtain ⟨hc, hf⟩ := bcell hb2; have hz := Later.size hb2; (try simp only [World.size_alloc, World.size_drew, World.heap_drewN, World.size_setCell] at hz); (first | (with_reducible refine use_own1 hb2 ?_; intro oa fa za) | (with_reducible refine use_own1 (Later.undrew hb2) ?_; intro oa fa za) | skip)
  go_wp2_with fail
  refine (H3.out _).mono ?_
  rintro e w3 ⟨rfl, hb3⟩
  obtain ⟨hc, hf⟩ := bcell hb3; have hz := Later.size hb3; (try simp only [World.size_alloc, World.size_drew, World.heap_drewN, World.size_setCell] at hz); (first | (with_reducible refine use_own1 hb3 ?_; intro ob fb zb) | (with_reducible refine use_own1 (Later.undrew hb3) ?_; intro ob fb zb) | skip); (repeat (first | (with_reducible refine use_of (Later.undrew hb3) ?_; intro hb3) | (with_reducible refine use_of (Later.undrewN hb3) ?_; intro hb3) | (with_reducible refine use_of (Later.unalloc hb3) ?_; intro hb3))); obtain ⟨hc, hf⟩ := bcell hb3; (try (refine use_of (fun i => (hc _ i (by omega)).trans (oa i)) ?_; clear oa; intro oa))
  go_wp2_with fail
  trace_state
  go_ret
  exact ⟨rfl, by repeat (first | with_reducible exact Later.refl _ | with_reducible assumption | with_reducible refine Later.ofdrew ?_ | with_reducible refine Later.ofdrewN ?_ | with_reducible refine Later.setCell ?_ ?_ _ | with_reducible refine Later.alloc ?_ _ | with_reducible refine Later.drewN ?_ _ | with_reducible refine Later.drew ?_ | (with_reducible refine Later.trans ?_ (by assumption)) | (simp only [World.size_setCell, World.size_alloc, World.heap_drewN]; omega) | (simp; done) | (simp; omega))⟩
end Go.Proofs.YtckeaibamgkegaaDoor
