/- the reference's Parse: the walk (under way) -/
import Derived.Test.YtckeaibamgkegaaDoorCashW
set_option linter.all false
namespace Go.Proofs.YtckeaibamgkegaaDoor
open Go.RowKit
set_option maxRecDepth 100000

/-- What the reference's Parse answers. -/
def RPs (s : List UInt8) (e : Ending) : Prop := ∃ c n er, e = .returned (.tuple #[.int .i64 c, .int .i64 n, .int .i64 er]) ∧ MP s c n er
theorem RPs.mk {s : List UInt8} {c n er : Int} (h : MP s c n er) : RPs s (.returned (.tuple #[.int .i64 c, .int .i64 n, .int .i64 er])) := ⟨c, n, er, rfl, h⟩

set_option maxHeartbeats 1600000 in
theorem rcparse_short (s : List UInt8) (S : ByteArray) (hS : ByteArray.mk s.toArray = S) (h5 : s.length < 5 ∨ s[3]? ≠ some 32) (w : World) :
    Calls Tryd.prog 19 #[.string S] w fun e w' => RPs s e ∧ Later w w' := by
  have hsz : S.size = s.length := by rw [← hS, ba_len]
  by_cases h : s.length < 5
  · have HM := Lib.hid (no_short h)
    have hI : (S.size : Int) < 5 := by omega
    clear hS hsz h5 h
    go_enter Tryd.func19, Tryd.ntmps19
    go_wp2
    go_ret3
    exact ⟨RPs.mk HM.out, Later.refl _⟩
  · have h3 : s[3]? ≠ some 32 := by rcases h5 with h5 | h5; exact absurd h5 h; exact h5
    have HM := Lib.hid (no_space h3)
    have hI : ¬ ((S.size : Int) < 5) := by omega
    have hI3 : (3 : Int) < S.size := by omega
    have hlt : 3 < S.size := by omega
    have hne : (S[3].toNat : Int) ≠ 32 := by
      intro e
      refine h3 ?_
      have hg : S[3] = s[3]'(by omega) := by subst hS; rfl
      rw [List.getElem?_eq_getElem (by omega), ← hg]
      exact congrArg some (UInt8.toNat_inj.1 (by show S[3].toNat = 32; omega))
    have hb1 : ((S[3].toNat : Int) == 32) = false := by rw [beq_eq_false_iff_ne]; exact hne
    have hb2 : ((S[3].toNat : Int) != 32) = true := by rw [bne_iff_ne]; exact hne
    clear hS hsz h5 h h3 hne
    go_enter Tryd.func19, Tryd.ntmps19
    go_wp2
    go_ret3
    exact ⟨RPs.mk HM.out, Later.refl _⟩

set_option maxHeartbeats 1600000 in
theorem rcparse_noname (s : List UInt8) (S : ByteArray) (hS : ByteArray.mk s.toArray = S) (h5 : ¬ s.length < 5) (h3 : s[3]? = some 32) (hno : ∀ c, c < 8 → nmL c ≠ s.take 3) (w : World) :
    Calls Tryd.prog 19 #[.string S] w fun e w' => RPs s e ∧ Later w w' := by
  have hsz : S.size = s.length := by rw [← hS, ba_len]
  have HM := Lib.hid (no_name hno)
  have hI : ¬ ((S.size : Int) < 5) := by omega
  have hI3 : (3 : Int) < S.size := by omega
  have hI3b : (3 : Int) ≤ S.size := by omega
  have hlt : 3 < S.size := by omega
  have hne : (S[3].toNat : Int) = 32 := by
    have hg : S[3] = s[3]'(by omega) := by subst hS; rfl
    rw [List.getElem?_eq_getElem (by omega), ← hg] at h3
    rw [Option.some.inj h3]; rfl
  have hb1 : ((S[3].toNat : Int) == 32) = true := by rw [beq_iff_eq]; exact hne
  have hb2 : ((S[3].toNat : Int) != 32) = false := by rw [bne_eq_false_iff_eq]; exact hne
  have HNE : Hid (∀ c, c < 8 → nmB c ≠ S.extract 0 3) := Lib.hid (fun c hc e => by
    refine hno c hc ?_
    have : (nmB c).data.toList = (S.extract 0 3).data.toList := congrArg (fun b : ByteArray => b.data.toList) e
    rw [Lib.extract_data, ← hS] at this
    unfold nmB at this
    simpa using this)
  have HRI := Lib.hid (fun (i : Nat) (hi : i < 8) W => rname_yes i hi W)
  clear hS hsz h5 h3 hno hne
  go_enter Tryd.func19, Tryd.ntmps19
  go_wp2
  go_loopw [5, 6] (fun s5 s6 wr => ∃ j : Nat, j ≤ 8 ∧ s6 = .int .i64 j ∧ s5 = .int .i64 (-1) ∧ Later w wr) (fun _ s6 _ => 8 - (intOf s6).toNat)
  case atStart => exact ⟨0, Nat.zero_le _, rfl, rfl, Later.refl _⟩
  case round =>
    obtain ⟨j, hj, rfl, rfl, hlat⟩ := hrel
    by_cases hlt8 : j < 8
    · have hI2 : (j : Int) < 8 := by omega
      have HRj := Lib.hid (fun W => HRI.out j hlt8 W)
      have ht : ((nmB j).toList == (S.extract 0 3).toList) = false := by rw [list_beq]; exact decide_eq_false (HNE.out j hlt8)
      obtain ⟨J, hJ⟩ : ∃ J, nmB j = J := ⟨_, rfl⟩
      rw [hJ] at HRj ht
      clear hJ HRI HNE
      go_wp2
      refine wp_region_plan 5 (.one [0, 2, 3] 1 (.done [4])) (by kernel_rfl) (by kernel_rfl) (fun _ _ d _ _ h => by cases d <;> exact h) ?_
      repeat' (first
        | (refine plan_done (fun K hK => ?_); (first | (simp only [pick_cons, pick_nil, toList_some_append, List.getElem?_toArray, List.getElem?_cons_zero, List.getElem?_cons_succ]; repeat (go_big_quiet_step (fail))) | simp only [pick_nil]); refine wpQuiet_nil (hK _ ?_); clear hK K)
        | (refine plan_one (by rfl) (fun K hK => ?_); (first | (simp only [pick_cons, pick_nil, toList_some_append, List.getElem?_toArray, List.getElem?_cons_zero, List.getElem?_cons_succ]; repeat (go_big_quiet_step (fail))) | simp only [pick_nil]); refine wpQuiet_nil (hK _ ?_); clear hK K)
        | ((with_reducible refine at_list ?_); go_wp2_with ((go_at_call 22; go_must (refine (HRj.out _).mono ?_; rintro e w3 ⟨rfl, hb3⟩))); first | refine behind_store (t := 5) (by decide) ?_ | refine behind (by repeat (first | with_reducible exact Later.refl _ | with_reducible assumption | with_reducible refine Later.ofdrew ?_ | with_reducible refine Later.ofdrewN ?_ | with_reducible refine Later.alloc ?_ _ | with_reducible refine Later.drewN ?_ _ | with_reducible refine Later.drew ?_ | (with_reducible refine Later.trans ?_ (by assumption)))) ?_))
      go_wp2
      go_roundw
      case rel => exact ⟨j + 1, by omega, by go_num, rfl, by repeat (first | with_reducible exact Later.refl _ | with_reducible assumption | with_reducible refine Later.ofdrew ?_ | with_reducible refine Later.ofdrewN ?_ | with_reducible refine Later.setCell ?_ ?_ _ | with_reducible refine Later.alloc ?_ _ | with_reducible refine Later.drewN ?_ _ | with_reducible refine Later.drew ?_ | (with_reducible refine Later.trans ?_ (by assumption)) | (simp only [World.size_setCell, World.size_alloc, World.heap_drewN]; omega) | (simp; done) | (simp; omega))⟩
      case measure => simp [intOf]; omega
    · have hge : ¬ ((j : Int) < 8) := by omega
      clear HRI HNE
      go_wp2
      go_ret3
      exact ⟨RPs.mk HM.out, by repeat (first | with_reducible exact Later.refl _ | with_reducible assumption | with_reducible refine Later.ofdrew ?_ | with_reducible refine Later.ofdrewN ?_ | with_reducible refine Later.setCell ?_ ?_ _ | with_reducible refine Later.alloc ?_ _ | with_reducible refine Later.drewN ?_ _ | with_reducible refine Later.drew ?_ | (with_reducible refine Later.trans ?_ (by assumption)) | (simp only [World.size_setCell, World.size_alloc, World.heap_drewN]; omega) | (simp; done) | (simp; omega))⟩
end Go.Proofs.YtckeaibamgkegaaDoor
