/- the reference's Parse, whole; the walk of CashParses -/
import Derived.Test.YtckeaibamgkegaaDoorCashY
set_option linter.all false
namespace Go.Proofs.YtckeaibamgkegaaDoor
open Go.RowKit
set_option maxRecDepth 100000

theorem rcparse_any (s : List UInt8) (hl : s.length ≤ 60) (w : World) :
    Calls Tryd.prog 19 #[.string ⟨s.toArray⟩] w fun e w' => RPs s e ∧ Later w w' := by
  obtain ⟨S, hS⟩ : ∃ S, ByteArray.mk s.toArray = S := ⟨_, rfl⟩
  rw [hS]
  by_cases h5 : s.length < 5
  · exact rcparse_short s S hS (.inl h5) w
  · by_cases h3 : s[3]? = some 32
    · by_cases hno : ∀ c, c < 8 → nmL c ≠ s.take 3
      · exact rcparse_noname s S hS h5 h3 hno w
      · obtain ⟨c, hc⟩ := Classical.not_forall.1 hno
        obtain ⟨hc, hn⟩ := Classical.not_imp.1 hc
        exact rcparse_name s hl S hS h5 h3 c hc (Classical.not_not.1 hn) w
    · exact rcparse_short s S hS (.inr h3) w

set_option maxHeartbeats 1600000 in
theorem lparses_any (s : List UInt8) (hs : s.length ≤ 9223372036854775807) (w : World) (hL : LibAt w) (hC : CurAt w) :
    Calls Tryd.prog 5 #[.string ⟨s.toArray⟩] w fun e w' => e = .returned (.bool true) ∧ Later w w' := by
  have HAW := Lib.hid (fun W (hl : Later w W) => cawake_any W (hL.later hl) (hC.later hl))
  obtain ⟨S, hS⟩ : ∃ S, ByteArray.mk s.toArray = S := ⟨_, rfl⟩
  have hsz : S.size = s.length := by rw [← hS, ba_len]
  by_cases h60 : s.length ≤ 60
  · have hI : ¬ ((60 : Int) < S.size) := by omega
    have HPS := Lib.hid (fun W (hl : Later w W) => cparse_any s (by omega) W (hL.later hl) (hC.later hl))
    have HRS := Lib.hid (fun W => rcparse_any s h60 W)
    rw [hS] at HPS HRS ⊢
    clear hL hC hs hS hsz h60
    go_enter Tryd.func5, Tryd.ntmps5
    go_wp2_with (first | (go_at_call 18; go_must (refine (HPS.out _ (by repeat (first | with_reducible exact Later.refl _ | with_reducible assumption | with_reducible refine Later.ofdrew ?_ | with_reducible refine Later.ofdrewN ?_ | with_reducible refine Later.setCell ?_ ?_ _ | with_reducible refine Later.alloc ?_ _ | with_reducible refine Later.drewN ?_ _ | with_reducible refine Later.drew ?_ | (with_reducible refine Later.trans ?_ (by assumption)) | (simp only [World.size_setCell, World.size_alloc, World.heap_drewN]; omega) | (simp; done) | (simp; omega)))).mono ?_; rintro e w3 ⟨⟨a, m, f, rfl, hp, -⟩, hb3⟩; have HP3 := Lib.hid hp; clear hp)) | (go_at_call 19; go_must (refine (HRS.out _).mono ?_; rintro e w4 ⟨⟨a', m', f', rfl, hp'⟩, hb4⟩; obtain ⟨rfl, rfl, rfl⟩ := MP_one hp' HP3.out; clear hp')) | (go_at_call 16; go_must (refine (HAW.out _ (by repeat (first | with_reducible exact Later.refl _ | with_reducible assumption | with_reducible refine Later.ofdrew ?_ | with_reducible refine Later.ofdrewN ?_ | with_reducible refine Later.setCell ?_ ?_ _ | with_reducible refine Later.alloc ?_ _ | with_reducible refine Later.drewN ?_ _ | with_reducible refine Later.drew ?_ | (with_reducible refine Later.trans ?_ (by assumption)) | (simp only [World.size_setCell, World.size_alloc, World.heap_drewN]; omega) | (simp; done) | (simp; omega)))).mono ?_; rintro e w5 ⟨rfl, hb5⟩)))
    go_ret
    exact ⟨rfl, by repeat (first | with_reducible exact Later.refl _ | with_reducible assumption | with_reducible refine Later.ofdrew ?_ | with_reducible refine Later.ofdrewN ?_ | with_reducible refine Later.setCell ?_ ?_ _ | with_reducible refine Later.alloc ?_ _ | with_reducible refine Later.drewN ?_ _ | with_reducible refine Later.drew ?_ | (with_reducible refine Later.trans ?_ (by assumption)) | (simp only [World.size_setCell, World.size_alloc, World.heap_drewN]; omega) | (simp; done) | (simp; omega))⟩
  · have hI : (60 : Int) < S.size := by omega
    rw [hS]
    clear hL hC hs hS hsz h60
    go_enter Tryd.func5, Tryd.ntmps5
    go_wp2_with (go_at_call 16; go_must (refine (HAW.out _ (by repeat (first | with_reducible exact Later.refl _ | with_reducible assumption | with_reducible refine Later.ofdrew ?_ | with_reducible refine Later.ofdrewN ?_ | with_reducible refine Later.setCell ?_ ?_ _ | with_reducible refine Later.alloc ?_ _ | with_reducible refine Later.drewN ?_ _ | with_reducible refine Later.drew ?_ | (with_reducible refine Later.trans ?_ (by assumption)) | (simp only [World.size_setCell, World.size_alloc, World.heap_drewN]; omega) | (simp; done) | (simp; omega)))).mono ?_; rintro e w3 ⟨rfl, hb3⟩))
    go_ret
    exact ⟨rfl, by repeat (first | with_reducible exact Later.refl _ | with_reducible assumption | with_reducible refine Later.ofdrew ?_ | with_reducible refine Later.ofdrewN ?_ | with_reducible refine Later.setCell ?_ ?_ _ | with_reducible refine Later.alloc ?_ _ | with_reducible refine Later.drewN ?_ _ | with_reducible refine Later.drew ?_ | (with_reducible refine Later.trans ?_ (by assumption)) | (simp only [World.size_setCell, World.size_alloc, World.heap_drewN]; omega) | (simp; done) | (simp; omega))⟩
end Go.Proofs.YtckeaibamgkegaaDoor
