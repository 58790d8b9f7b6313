/- the arguments of a law, opened: slices of structs; and read again behind the call -/
import Derived.Test.YtkjabiabeemfhaaGreatDoorV37
import Derived.Test.YtkjabiabeemfhaaGreatDoorV2
import Derived.Below
import Derived.ChangeSame
import Derived.ProofKit
import Derived.Carry
import Derived.Test.YtkjabiabeemfhaaGreatDoorV17
import Derived.ReadAgain
import Derived.Deep.Slices
import Derived.OpenShut
import Derived.LaidMore
set_option linter.all false
set_option linter.all false
section
namespace Go.Proofs.YtkjabiabeemfhaaGreatDoor
open Go.RowKit
set_option maxRecDepth 100000
set_option maxHeartbeats 1600000 in
theorem same_far (ts : List Nd) (l : List Td) (v u : Value) (day tod : Int) (w : World) (lok : ∀ x ∈ l, x.ok) (hS : Shapes w) (hN : IsNodes w v ts) (hT : IsTolds w u l) (h : ¬ (ts.length ≤ 100 ∧ l.length ≤ 60) ∨ (ts.length ≤ 100 ∧ l.length ≤ 60) ∧ (40 < ts.length ∨ ts.length ≤ 40 ∧ (day < 0 ∨ 73048 < day))) :
    Calls Tryz.prog 6 #[.agg #[v, .int .i64 day, .int .i64 tod, u]] w fun e w' => e = .returned (.bool true) ∧ Later w w' := by
  have HAW := Lib.hid (fun W (hl : Later w W) => dawake_any W (hS.later hl))
  have HM := Lib.hid (fun W (hl : Later w W) => made_big l (row_len hT) lok u W (hT.later hl))
  have HFW := Lib.hid (fun W (hl : Later w W) => lfew_any ts l v u day tod W (hN.later hl) (hT.later hl))
  obtain ⟨pv, cv, rfl⟩ := hN.form
  obtain ⟨F, hF⟩ : ∃ F, (decide (ts.length ≤ 100) && decide (l.length ≤ 60)) = F := ⟨_, rfl⟩
  rw [hF] at HFW
  have hc : F = false ∨ F = true ∧ ((40 : Int) < (ts.length : Int) ∨ ¬ (40 : Int) < (ts.length : Int) ∧ (day < 0 ∨ ¬ day < 0 ∧ 73048 < day)) := by
    cases F with
    | false => exact .inl rfl
    | true =>
      simp only [Bool.and_eq_true, decide_eq_true_eq] at hF
      exact .inr ⟨rfl, by omega⟩
  clear hS hN hT lok h hF
  generalize ts.length = L at *
  rcases hc with rfl | ⟨rfl, g1 | ⟨g1, g2 | ⟨g2, g3⟩⟩⟩
  all_goals
    go_enter Tryz.func6, Tryz.ntmps6
    go_upto_region 1 with (fail)
    refine wp_opaque (fun w0 hb0 => ?_)
    have hO0 := Own.one hb0
    have hl0 := hb0.un1
    obtain ⟨z0, d0, -⟩ := own_get hO0
    clear hb0
    go_wp2_with (first
      | (go_at_call 15; go_must (refine (HM.out _ hl0).mono ?_; rintro e w1 ⟨p, m1, m2, rfl, hF1, ge1, ge2, hb1⟩; have hl1 : Later w w1 := hl0.trans hb1; have hO1 := hO0.later hb1; clear hF1 d0 z0; obtain ⟨z0, d0, -⟩ := own_get hO1))
      | (go_at_call 16; go_must (refine (HFW.out _ hl1).mono ?_; rintro e w2 ⟨rfl, hb2⟩; have hl2 := hl1.trans hb2; have hO2 := hO1.later hb2; clear d0 z0; obtain ⟨z0, d0, -⟩ := own_get hO2))
      | (go_at_call 17; go_must (refine (HAW.out _ hl2).mono ?_; rintro e w9 ⟨rfl, hb9⟩)))
    go_ret
    exact ⟨rfl, hl2.trans hb9⟩
set_option maxHeartbeats 1600000 in
theorem same_ct (ts : List Nd) (l : List Td) (v u : Value) (day tod : Int) (w : World) (hok : ∀ x ∈ ts, x.ok) (lok : ∀ x ∈ l, x.ok) (hS : Shapes w) (hN : IsNodes w v ts) (hT : IsTolds w u l) (h : (ts.length ≤ 100 ∧ l.length ≤ 60) ∧ ts.length ≤ 40 ∧ 0 ≤ day ∧ day ≤ 73048 ∧ ctE ts ≠ 0) :
    Calls Tryz.prog 6 #[.agg #[v, .int .i64 day, .int .i64 tod, u]] w fun e w' => e = .returned (.bool true) ∧ Later w w' := by
  have HAW := Lib.hid (fun W (hl : Later w W) => dawake_any W (hS.later hl))
  have HM := Lib.hid (fun W (hl : Later w W) => made_big l (row_len hT) lok u W (hT.later hl))
  have HFW := Lib.hid (fun W (hl : Later w W) => lfew_any ts l v u day tod W (hN.later hl) (hT.later hl))
  rw [decide_eq_true h.1.1, decide_eq_true h.1.2, Bool.true_and] at HFW
  have HCH := Lib.hid (fun W (hl : Later w W) => rcheck_any ts (by have := h.1.1; omega) hok v W (hN.later hl))
  have hct := h.2.2.2.2
  obtain ⟨E, hE⟩ : ∃ E, ctE ts = E := ⟨_, rfl⟩
  rw [hE] at HCH hct
  have he1 : (E == 0) = false := by simpa using hct
  have he2 : (E != 0) = true := by simpa using hct
  clear hct hE
  obtain ⟨pv, cv, rfl⟩ := hN.form
  have h2 := h.2
  clear h
  generalize ts.length = L at *
  obtain ⟨h3, h4, h5, -⟩ := h2
  have g1 : ¬ (40 : Int) < (L : Int) := by omega
  have g2 : ¬ day < 0 := by omega
  have g3 : ¬ 73048 < day := by omega
  clear h3 h4 h5
  clear hS hN hT lok hok
  go_enter Tryz.func6, Tryz.ntmps6
  go_upto_region 1 with (fail)
  refine wp_opaque (fun w0 hb0 => ?_)
  have hO0 := Own.one hb0
  have hl0 := hb0.un1
  obtain ⟨z0, d0, -⟩ := own_get hO0
  clear hb0
  go_wp2_with (first
    | (go_at_call 15; go_must (refine (HM.out _ hl0).mono ?_; rintro e w1 ⟨p, m1, m2, rfl, hF1, ge1, ge2, hb1⟩; have hl1 : Later w w1 := hl0.trans hb1; have hO1 := hO0.later hb1; clear hF1 d0 z0; obtain ⟨z0, d0, -⟩ := own_get hO1))
    | (go_at_call 16; go_must (refine (HFW.out _ hl1).mono ?_; rintro e w2 ⟨rfl, hb2⟩; have hl2 := hl1.trans hb2; have hO2 := hO1.later hb2; clear d0 z0; obtain ⟨z0, d0, -⟩ := own_get hO2))
    | (go_at_call 27; go_must (refine (HCH.out _ hl2).mono ?_; rintro e w3 ⟨rfl, hb3⟩; have hl3 := hl2.trans hb3; have hO3 := hO2.later hb3; clear d0 z0; obtain ⟨z0, d0, -⟩ := own_get hO3))
    | (go_at_call 17; go_must (refine (HAW.out _ hl3).mono ?_; rintro e w9 ⟨rfl, hb9⟩)))
  go_ret
  exact ⟨rfl, hl3.trans hb9⟩
set_option maxHeartbeats 1600000 in
theorem same_deep (ts : List Nd) (l : List Td) (v u : Value) (day tod : Int) (w : World) (hok : ∀ x ∈ ts, x.ok) (lok : ∀ x ∈ l, x.ok) (hS : Shapes w) (hN : IsNodes w v ts) (hT : IsTolds w u l) (h : (ts.length ≤ 100 ∧ l.length ≤ 60) ∧ ts.length ≤ 40 ∧ 0 ≤ day ∧ day ≤ 73048 ∧ ctE ts = 0 ∧ ∃ T, Good ts T ∧ 11 < T.depth) :
    Calls Tryz.prog 6 #[.agg #[v, .int .i64 day, .int .i64 tod, u]] w fun e w' => e = .returned (.bool true) ∧ Later w w' := by
  have HAW := Lib.hid (fun W (hl : Later w W) => dawake_any W (hS.later hl))
  have HM := Lib.hid (fun W (hl : Later w W) => made_big l (row_len hT) lok u W (hT.later hl))
  have HFW := Lib.hid (fun W (hl : Later w W) => lfew_any ts l v u day tod W (hN.later hl) (hT.later hl))
  rw [decide_eq_true h.1.1, decide_eq_true h.1.2, Bool.true_and] at HFW
  have HCH := Lib.hid (fun W (hl : Later w W) => rcheck_any ts (by have := h.1.1; omega) hok v W (hN.later hl))
  obtain ⟨T, hG, hdp⟩ := h.2.2.2.2.2
  rw [h.2.2.2.2.1] at HCH
  have HDP := Lib.hid (fun W (hl : Later w W) => rdepth_any ts (by have := h.1.1; omega) T 0 v W hG.at.1 (hN.later hl))
  obtain ⟨D, hD⟩ : ∃ D, T.depth = D := ⟨_, rfl⟩
  rw [hD] at HDP hdp
  have gd : (11 : Int) < (D : Int) := by omega
  clear hD hdp hG
  obtain ⟨pv, cv, rfl⟩ := hN.form
  have h2 := h.2
  clear h
  generalize ts.length = L at *
  obtain ⟨h3, h4, h5, -⟩ := h2
  have g1 : ¬ (40 : Int) < (L : Int) := by omega
  have g2 : ¬ day < 0 := by omega
  have g3 : ¬ 73048 < day := by omega
  clear h3 h4 h5
  clear hS hN hT lok hok
  go_enter Tryz.func6, Tryz.ntmps6
  go_upto_region 1 with (fail)
  refine wp_opaque (fun w0 hb0 => ?_)
  have hO0 := Own.one hb0
  have hl0 := hb0.un1
  obtain ⟨z0, d0, -⟩ := own_get hO0
  clear hb0
  go_wp2_with (first
    | (go_at_call 15; go_must (refine (HM.out _ hl0).mono ?_; rintro e w1 ⟨p, m1, m2, rfl, hF1, ge1, ge2, hb1⟩; have hl1 : Later w w1 := hl0.trans hb1; have hO1 := hO0.later hb1; clear hF1 d0 z0; obtain ⟨z0, d0, -⟩ := own_get hO1))
    | (go_at_call 16; go_must (refine (HFW.out _ hl1).mono ?_; rintro e w2 ⟨rfl, hb2⟩; have hl2 := hl1.trans hb2; have hO2 := hO1.later hb2; clear d0 z0; obtain ⟨z0, d0, -⟩ := own_get hO2))
    | (go_at_call 27; go_must (refine (HCH.out _ hl2).mono ?_; rintro e w3 ⟨rfl, hb3⟩; have hl3 := hl2.trans hb3; have hO3 := hO2.later hb3; clear d0 z0; obtain ⟨z0, d0, -⟩ := own_get hO3))
    | (go_at_call 28; go_must (refine (HDP.out _ hl3).mono ?_; rintro e w4 ⟨rfl, hb4⟩; have hl4 := hl3.trans hb4))
    | (go_at_call 17; go_must (refine (HAW.out _ hl4).mono ?_; rintro e w9 ⟨rfl, hb9⟩)))
  go_ret
  exact ⟨rfl, hl4.trans hb9⟩
set_option maxHeartbeats 6400000 in
theorem same_near (ts : List Nd) (T : Tm) (l : List Td) (v u : Value) (day tod : Int) (w : World) (hok : ∀ x ∈ ts, x.ok) (lok : ∀ x ∈ l, x.ok) (hS : Shapes w) (hN : IsNodes w v ts) (hT : IsTolds w u l) (h1 : ts.length ≤ 40) (h2 : l.length ≤ 60) (h3 : 0 ≤ day) (h4 : day ≤ 73048) (hG : Good ts T) (hm : makesI T.root.op = 2) (hd : T.depth ≤ 11) :
    Calls Tryz.prog 6 #[.agg #[v, .int .i64 day, .int .i64 tod, u]] w fun e w' => e = .returned (.bool true) ∧ Later w w' := by
  have HAW := Lib.hid (fun W (hl : Later w W) => dawake_any W (hS.later hl))
  have HM := Lib.hid (fun W (hl : Later w W) => made_any l (by omega) lok u W (hT.later hl))
  have HFW := Lib.hid (fun W (hl : Later w W) => lfew_any ts l v u day tod W (hN.later hl) (hT.later hl))
  rw [decide_eq_true (show ts.length ≤ 100 by omega), decide_eq_true h2, Bool.true_and] at HFW
  have HCH := Lib.hid (fun W (hl : Later w W) => rcheck_any ts (by omega) hok v W (hN.later hl))
  rw [show ctE ts = 0 from ct_of_good hG hm] at HCH
  have HDP := Lib.hid (fun W (hl : Later w W) => rdepth_any ts (by omega) T 0 v W hG.at.1 (hN.later hl))
  have hfc := fcOk_made l lok
  have HPRE := Lib.hid (fun (us : List Nd) (hus : us.length ≤ 1000) (huok : ∀ x ∈ us, x.ok) (t : Value) W (hl : Later w W) p m1 m2 (hNu : IsNodes W t us) hF => (⟨by omega, huok, hS.later hl, hNu, hF, hfc.fo, hfc.co, hfc.cn, Nat.le_trans hfc.cl (by omega)⟩ : PreAt W us t (madeFx l) (madeCh l) p m1 m2))
  have hh := heads_env (env := envT (madeFx l) (madeCh l)) (tod := tod) hG hm h1 hd h3 h4
  have hhok : ∀ h ∈ headsS day, ∀ x ∈ h ++ ts, x.ok := fun h hm' x hx => (List.mem_append.1 hx).elim ((hh h hm').2.2 x) (hok x)
  have hhfl : ∀ h ∈ headsS day, flowsT (envT (madeFx l) (madeCh l)) (h ++ ts) day tod = flowsT (envT (madeFx l) (madeCh l)) ts day tod := fun h hm' => by unfold flowsT; rw [(hh h hm').1]
  have hhwt : ∀ h ∈ headsS day, waitsT (envT (madeFx l) (madeCh l)) (h ++ ts) day tod = waitsT (envT (madeFx l) (madeCh l)) ts day tod := fun h hm' => by unfold waitsT; rw [(hh h hm').1]
  have HA := Lib.hid (fun W (hl : Later w W) p m1 m2 hF => flows_any (HPRE.out ts (by omega) hok v W hl p m1 m2 (hN.later hl) hF) day tod)
  have HB := Lib.hid (fun W (hl : Later w W) p m1 m2 hF => waits_any (HPRE.out ts (by omega) hok v W hl p m1 m2 (hN.later hl) hF) day tod)
  have HA1 : Hid (∀ h ∈ headsS day, ∀ t W, Later w W → ∀ p m1 m2, IsNodes W t (h ++ ts) → FactsAt W p m1 m2 (madeFx l) (madeCh l) → Calls Tryz.prog 18 #[t, .int .i64 day, .int .i64 tod, .pointer (some ⟨p, 0, none⟩)] W fun e w' => ∃ v', e = .returned (.tuple #[v', .int .i64 (outT (envT (madeFx l) (madeCh l)) ts day tod).1]) ∧ IsFlows w' v' (flowsT (envT (madeFx l) (madeCh l)) ts day tod) ∧ Later W w') := Lib.hid (fun h hm' t W hl p m1 m2 hNu hF => by
    have := flows_any (HPRE.out (h ++ ts) (by have := (hh h hm').2.1; rw [List.length_append]; omega) (hhok h hm') t W hl p m1 m2 hNu hF) day tod
    rw [(hh h hm').1, hhfl h hm'] at this
    exact this)
  have HB1 : Hid (∀ h ∈ headsS day, ∀ t W, Later w W → ∀ p m1 m2, IsNodes W t (h ++ ts) → FactsAt W p m1 m2 (madeFx l) (madeCh l) → Calls Tryz.prog 19 #[t, .int .i64 day, .int .i64 tod, .pointer (some ⟨p, 0, none⟩)] W fun e w' => ∃ v', e = .returned (.tuple #[v', .int .i64 (outT (envT (madeFx l) (madeCh l)) ts day tod).1]) ∧ IsWaits w' v' (waitsT (envT (madeFx l) (madeCh l)) ts day tod) ∧ Later W w') := Lib.hid (fun h hm' t W hl p m1 m2 hNu hF => by
    have := waits_any (HPRE.out (h ++ ts) (by have := (hh h hm').2.1; rw [List.length_append]; omega) (hhok h hm') t W hl p m1 m2 hNu hF) day tod
    rw [(hh h hm').1, hhwt h hm'] at this
    exact this)
  have hnot := same_not (env := envT (madeFx l) (madeCh l)) (day := day) (tod := tod) hG hm h1 hd
  obtain ⟨X, hX⟩ : ∃ X, condN :: oneN :: noughtN :: (ts ++ [zeroN]) = X := ⟨_, rfl⟩
  have hXl : X.length = ts.length + 4 := by rw [← hX]; simp
  have hXok : ∀ x ∈ X, x.ok := by
    rw [← hX]
    intro x hx
    simp only [List.mem_cons, List.mem_append, List.not_mem_nil, or_false] at hx
    rcases hx with rfl | rfl | rfl | hx | rfl
    · unfold Nd.ok I64; decide
    · unfold Nd.ok I64; decide
    · unfold Nd.ok I64; decide
    · exact hok x hx
    · unfold Nd.ok I64; decide
  rw [hX] at hnot
  obtain ⟨E7, hE7⟩ : ∃ E, (if day < 0 ∨ 73048 < day ∨ tod < -1 ∨ 73048 < tod then (18 : Int) else 0) = E := ⟨_, rfl⟩
  have hnot2 : outT (envT (madeFx l) (madeCh l)) X day tod = (E7, [], []) := by rw [hnot, ← hE7]; split <;> rfl
  have hX0 : flowsT (envT (madeFx l) (madeCh l)) X day tod = [] := by unfold flowsT; rw [hnot2]; simp [sortL]
  have hX1 : waitsT (envT (madeFx l) (madeCh l)) X day tod = [] := by unfold waitsT; rw [hnot2]; simp [waitL, sortL, cmpL]
  have HA2 := Lib.hid (fun t W (hl : Later w W) p m1 m2 hNu hF => flows_any (HPRE.out X (by omega) hXok t W hl p m1 m2 hNu hF) day tod)
  have HB2 := Lib.hid (fun t W (hl : Later w W) p m1 m2 hNu hF => waits_any (HPRE.out X (by omega) hXok t W hl p m1 m2 hNu hF) day tod)
  rw [hnot2, hX0] at HA2
  rw [hnot2, hX1] at HB2
  have HLT : Hid ((tod < -1 ∨ 73048 < tod) → (outT (envT (madeFx l) (madeCh l)) ts day tod).1 = 18 ∧ E7 = 18) := Lib.hid (fun hr => ⟨by rw [out_late hG hm (.inr (.inr hr))], by rw [← hE7, if_pos (.inr (.inr hr))]⟩)
  have HLE : Hid (¬ (tod < -1 ∨ 73048 < tod) → E7 = 0) := Lib.hid (fun hr => by rw [← hE7, if_neg (by omega)])
  have HLN : Hid ((flowsT (envT (madeFx l) (madeCh l)) ts day tod).length ≤ 64) := Lib.hid (flows_few _ _ _ _)
  have HLW : Hid ((waitsT (envT (madeFx l) (madeCh l)) ts day tod).length ≤ 8192) := Lib.hid (waits_few _ _ _ _)
  clear hnot hnot2 hX0 hX1 hE7 hXok HPRE hfc hh hhok hhfl hhwt
  obtain ⟨E, hE⟩ : ∃ E, (outT (envT (madeFx l) (madeCh l)) ts day tod).1 = E := ⟨_, rfl⟩
  rw [hE] at HA HB HLT HA1 HB1
  generalize flowsT (envT (madeFx l) (madeCh l)) ts day tod = A at *
  generalize waitsT (envT (madeFx l) (madeCh l)) ts day tod = Y at *
  obtain ⟨D, hD⟩ : ∃ D, T.depth = D := ⟨_, rfl⟩
  rw [hD] at HDP hd
  have hT0 : 0 < ts.length := by rw [← hG.at.2]; exact T.size_pos
  have g1 : ¬ (40 : Int) < ((ts.length : Nat) : Int) := by omega
  have g2 : ¬ day < 0 := by omega
  have g3 : ¬ 73048 < day := by omega
  have g4 : ¬ (11 : Int) < (D : Int) := by omega
  clear hE hG hm hD hd
  have HN := Lib.hid hN
  obtain ⟨pv, cv, rfl⟩ := hN.form
  obtain ⟨pu, cu, rfl⟩ := hT.form
  generalize madeFx l = FX at *
  generalize madeCh l = CH at *
  obtain ⟨L, hL⟩ : ∃ L, ts.length = L := ⟨_, rfl⟩
  have HLL := Lib.hid (show ts.length = L ∧ 0 < L ∧ L ≤ 40 from ⟨hL, by omega, by omega⟩)
  have HX := Lib.hid (show condN :: oneN :: noughtN :: (ts ++ [zeroN]) = X ∧ X.length = L + 4 from ⟨hX, by omega⟩)
  have hL40 : L ≤ 40 := by omega
  rw [hL] at HN HA HB HFW g1 HCH HDP
  rw [hL]
  clear hS hN hT lok hok hL hX hXl h1 h2 h3 h4 hT0
  generalize l.length = M at *
  go_enter Tryz.func6, Tryz.ntmps6
  go_upto_region 1 with (fail)
  refine wp_opaque (fun w0 hb0 => ?_)
  have hO0 := Own.one hb0
  have hl0 := hb0.un1
  obtain ⟨z0, d0, -⟩ := own_get hO0
  clear hb0
  go_upto_region 4 with (first
    | (go_at_call 15; go_must (refine (HM.out _ hl0).mono ?_; rintro e w1 ⟨p, m1, m2, rfl, hF1, ge1, ge2, hb1⟩; have hl1 : Later w w1 := hl0.trans hb1; have hO1 := hO0.later hb1; clear d0 z0; obtain ⟨z0, d0, -⟩ := own_get hO1))
    | (go_at_call 16; go_must (refine (HFW.out _ hl1).mono ?_; rintro e w2 ⟨rfl, hb2⟩; have hl2 := hl1.trans hb2; have hO2 := hO1.later hb2; clear d0 z0; obtain ⟨z0, d0, -⟩ := own_get hO2))
    | (go_at_call 27; go_must (refine (HCH.out _ hl2).mono ?_; rintro e w3 ⟨rfl, hb3⟩; have hl3 := hl2.trans hb3; have hO3 := hO2.later hb3; clear d0 z0; obtain ⟨z0, d0, -⟩ := own_get hO3))
    | (go_at_call 28; go_must (refine (HDP.out _ hl3).mono ?_; rintro e w4 ⟨rfl, hb4⟩; have hl4 := hl3.trans hb4; have hO4 := hO3.later hb4; clear d0 z0; obtain ⟨z0, d0, -⟩ := own_get hO4)))
  have HO4 := Lib.hid hO4
  have HF4 := Lib.hid (((hF1.later hb2).later hb3).later hb4)
  clear hb1 hb2 hb3 hb4 hF1 hl1 hl2 hl3 hl0 HM HFW HCH HDP ge1 ge2 hO0 hO1 hO2 hO3 hO4 g1 g2 g3 g4
  obtain ⟨N, hNn⟩ : ∃ N, A.length = N := ⟨_, rfl⟩
  obtain ⟨K, hKn⟩ : ∃ K, Y.length = K := ⟨_, rfl⟩
  rw [hNn] at HLN
  rw [hKn] at HLW
  have HNK := Lib.hid (show A.length = N ∧ Y.length = K from ⟨hNn, hKn⟩)
  clear hNn hKn
  go_upto_region 5 with (go_at_call 18; go_must (refine (HA.out _ hl4 _ _ _ HF4.out).mono ?_; rintro e w5 ⟨va, rfl, hfa, hb5⟩; obtain ⟨qa, ca, rfl⟩ := hfa.form; rw [HNK.out.1] at hfa ⊢; clear d0 z0; obtain ⟨z0, d0, -⟩ := own_get (HO4.out.later hb5)))
  have HFA5 := Lib.hid hfa
  have HF5 := Lib.hid (HF4.out.later hb5)
  have HO5 := Lib.hid (HO4.out.later hb5)
  have hl5 := hl4.trans hb5
  clear hfa HA HF4 HO4 hl4 hb5
  go_upto_region 6 with (go_at_call 19; go_must (refine (HB.out _ hl5 _ _ _ HF5.out).mono ?_; rintro e w6 ⟨vy, rfl, hfy, hb6⟩; obtain ⟨qy, cy, rfl⟩ := hfy.form; rw [HNK.out.2] at hfy ⊢; clear d0 z0; obtain ⟨z0, d0, -⟩ := own_get (HO5.out.later hb6)))
  have HFY6 := Lib.hid hfy
  have HFA6 := Lib.hid (HFA5.out.later hb6)
  have HF6 := Lib.hid (HF5.out.later hb6)
  have HO6 := Lib.hid (HO5.out.later hb6)
  have hl6 := hl5.trans hb6
  clear hfy HB HF5 HO5 HFA5 hl5 hb6
  go_upto_region 8 with (first | refine wpList_built (ratio_den _) rfl rfl rfl ?_ | refine wpList_built (ratio_build _ _) rfl rfl rfl ?_ | refine wpList_built (node_build3 _ _ _) rfl rfl rfl ?_)
  refine wp_opaque (fun w8 hb8 => ?_)
  have hO8 := Own.two hb8
  have hl8 : Later w6 w8 := hb8.un1.un1
  clear hb8
  obtain ⟨B8, hB8⟩ : ∃ x, w6.heap.size = x := ⟨_, rfl⟩
  rw [hB8] at hO8 ⊢
  have HOB := Lib.hid hO8
  obtain ⟨⟨zn, cn, -⟩, ⟨zo, co, -⟩, -⟩ := hO8
  have HO8 := Lib.hid (HO6.out.later hl8)
  have HFA8 := Lib.hid (HFA6.out.later hl8)
  have HFY8 := Lib.hid (HFY6.out.later hl8)
  have HF8 := Lib.hid (HF6.out.later hl8)
  have hlw8 := hl6.trans hl8
  clear d0 z0
  obtain ⟨z0, d0, -⟩ := own_get HO8.out
  clear HO6 HFA6 HFY6 HF6 hl6 hl8 hB8
  have n0 : w8.cell? ⟨B8, 0, none⟩ = some (.int .i64 1) := cn 0
  have n1 : w8.cell? ⟨B8, 1, none⟩ = some (.int .i64 0) := cn 1
  have n2 : w8.cell? ⟨B8, 2, none⟩ = some (.int .i64 0) := cn 2
  have n3 : w8.cell? ⟨B8, 3, none⟩ = some (.int .i64 0) := cn 3
  have n4 : w8.cell? ⟨B8, 4, none⟩ = some (.int .i64 1) := cn 4
  have o0 : w8.cell? ⟨B8 + 1, 0, none⟩ = some (.int .i64 1) := co 0
  have o1 : w8.cell? ⟨B8 + 1, 1, none⟩ = some (.int .i64 0) := co 1
  have o2 : w8.cell? ⟨B8 + 1, 2, none⟩ = some (.int .i64 0) := co 2
  have o3 : w8.cell? ⟨B8 + 1, 3, none⟩ = some (.int .i64 1) := co 3
  have o4 : w8.cell? ⟨B8 + 1, 4, none⟩ = some (.int .i64 1) := co 4
  clear cn co
  have u1 : B8 < w8.heap.size + 1 := by omega
  have u2 : B8 < w8.heap.size + 1 + 1 := by omega
  have u3 : B8 < w8.heap.size + 1 + 1 + 1 := by omega
  have u4 : B8 < w8.heap.size + 1 + 1 + 1 + 1 := by omega
  have u5 : ¬ B8 = w8.heap.size + 1 + 1 := by omega
  have u6 : ¬ B8 = w8.heap.size + 1 + 1 + 1 := by omega
  have u7 : ¬ B8 = w8.heap.size + 2 := by omega
  have u8 : ¬ B8 = w8.heap.size + 3 := by omega
  have u9 : ¬ w8.heap.size + 1 + 1 = B8 := by omega
  have u10 : ¬ w8.heap.size + 2 = B8 := by omega
  go_upto_region 9 with (first | refine wpList_built (node_build _) rfl rfl rfl ?_ | refine wpList_built (node_build1 _ _) rfl rfl rfl ?_ | refine wpList_builtS (nodes_one _ _ _ _ _) rfl rfl rfl ?_ | refine wpList_builtS (nodes_two _ _ _ _ _ _ _ _ _ _) rfl rfl rfl ?_ | refine wpList_builtS (hnodes_four _ _ _ _ _ _ _ _ _ _ _ _ _ _ _ _ _ _ _ _) rfl rfl rfl ?_ | refine wpList_builtS (heads_build _ _ _ _ _ _ _ _ _ _ _ _ _ _ _ _) rfl rfl rfl ?_)
  refine wp_opaque (fun w9 hb9 => ?_)
  have HH := Lib.hid (heads_at hb9)
  have hl9 : Later w8 w9 := hb9.un1.un1.un1.un1.un1.un1
  have HO9 := Lib.hid (HO8.out.later hl9)
  have HOB9 := Lib.hid (HOB.out.later hl9)
  have HFA9 := Lib.hid (HFA8.out.later hl9)
  have HFY9 := Lib.hid (HFY8.out.later hl9)
  have HF9 := Lib.hid (HF8.out.later hl9)
  have hlw9 := hlw8.trans hl9
  obtain ⟨BH, hBH⟩ : ∃ x, w8.heap.size + 1 + 1 + 1 + 1 + 1 = x := ⟨_, rfl⟩
  rw [hBH] at HH ⊢
  clear hb9 HO8 HOB HFA8 HFY8 HF8 hlw8 hBH z0 d0 zn zo n0 n1 n2 n3 n4 o0 o1 o2 o3 o4 u1 u2 u3 u4 u5 u6 u7 u8 u9 u10
  have hN64 : N ≤ 64 := HLN.out
  have hK64 : K ≤ 8192 := HLW.out
  have HSAME := Lib.hid (fun va W (ha : IsFlows W (.slice qa N ca) A) (hb : IsFlows W va A) => lflows_any A A (.slice qa N ca) va W ha hb (by have := HNK.out.1; omega))
  have HSAMW := Lib.hid (fun va W (ha : IsWaits W (.slice qy K cy) Y) (hb : IsWaits W va Y) => lwaits_any Y Y (.slice qy K cy) va W ha hb (by have := HNK.out.2; omega))
  rw [show decide (A = A) = true by simp] at HSAME
  rw [show decide (Y = Y) = true by simp] at HSAMW
  go_upto_region 10 with (fail)
  go_loopw [11] (fun s11 wr => ∃ j : Nat, j ≤ 5 ∧ s11 = .int .i64 j ∧ Later w9 wr) (fun s11 _ => 5 - (intOf s11).toNat)
  case atStart => exact ⟨0, Nat.zero_le _, rfl, Later.refl _⟩
  case round =>
    obtain ⟨j, hj, rfl, hlat⟩ := hrel
    obtain ⟨z0, d0, -⟩ := own_get (HO9.out.later hlat)
    by_cases hlt : j < 5
    · have hjl : j < (headsS day).length := hlt
      have hltI : (j : Int) < 5 := by omega
      obtain ⟨hc, hn⟩ := (HH.out.later hlat).2 j hjl
      have hmem := List.getElem_mem hjl
      have HA3 := Lib.hid (HA1.out _ hmem)
      have HB3 := Lib.hid (HB1.out _ hmem)
      have zH := (HH.out.later hlat).1
      obtain ⟨hd, hhd⟩ : ∃ x, (headsS day)[j] = x := ⟨_, rfl⟩
      rw [hhd] at hc hn HA3 HB3
      obtain ⟨n, hnn⟩ : ∃ x, hd.length = x := ⟨_, rfl⟩
      have hn4 : n ≤ 4 := by
        rw [← hnn, ← hhd]
        have hall : ∀ h ∈ headsS day, h.length ≤ 4 := by
          intro h hh
          simp only [headsS, List.mem_cons, List.not_mem_nil, or_false] at hh
          rcases hh with rfl | rfl | rfl | rfl | rfl <;> simp
        exact hall _ hmem
      rw [hnn] at hc hn
      obtain ⟨u, hu⟩ : ∃ x, w8.heap.size + j = x := ⟨_, rfl⟩
      rw [hu] at hc hn
      have HNH := Lib.hid hn
      have HNL := Lib.hid (show hd.length = n from hnn)
      have hwr := hlw9.trans hlat
      have HNT := Lib.hid (HN.out.later hwr)
      have HFr := Lib.hid (HF9.out.later hlat)
      have HFAr := Lib.hid (HFA9.out.later hlat)
      have HFYr := Lib.hid (HFY9.out.later hlat)
      have HOr := Lib.hid (HO9.out.later hlat)
      clear hn hmem hjl hhd hu hnn HA1 HB1 HA2 HB2 HO9 HOB9 HFA9 HFY9 HF9 hlw9
      go_upto_region 14 with (at_builtin; go_must (refine wpList_nodes_full HNH.out HNL.out HNT.out (by have := HLL.out; omega) rfl _ _ rfl rfl rfl (by have := HLL.out; omega) ?_; intro v9 wa hM; have hla := hM.lat; have HM := Lib.hid hM.nodes; obtain ⟨p9, c9, hv9⟩ := hM.form; obtain ⟨NL, hNL⟩ : ∃ x, (hd ++ ts).length = x := ⟨_, rfl⟩; rw [hNL] at hv9; subst hv9; clear hM hNL d0 z0; obtain ⟨z0, d0, -⟩ := own_get (HOr.out.later hla)))
      go_upto_region 15 with (go_at_call 18; go_must (refine (HA3.out _ _ (hwr.trans hla) _ _ _ HM.out (HFr.out.later hla)).mono ?_; rintro e wb ⟨vb, rfl, hfb, hbb⟩; obtain ⟨qb, cb, rfl⟩ := hfb.form; rw [HNK.out.1] at hfb ⊢; clear d0 z0; obtain ⟨z0, d0, -⟩ := own_get (HOr.out.later (hla.trans hbb))))
      have HFB := Lib.hid hfb
      clear hfb HA3
      go_upto_region 16 with (go_at_call 19; go_must (refine (HB3.out _ _ ((hwr.trans hla).trans hbb) _ _ _ (HM.out.later hbb) (HFr.out.later (hla.trans hbb))).mono ?_; rintro e wd ⟨vd, rfl, hfd, hbd⟩; obtain ⟨qd, cd, rfl⟩ := hfd.form; rw [HNK.out.2] at hfd ⊢))
      have HFD := Lib.hid hfd
      have hl4 := (hla.trans hbb).trans hbd
      have HS1 := Lib.hid (HSAME.out _ wd (HFAr.out.later hl4) (HFB.out.later hbd))
      have HS2 := Lib.hid (fun W (hl : Later wd W) => HSAMW.out _ W ((HFYr.out.later hl4).later hl) (HFD.out.later hl))
      clear hfd HB3 HFB HFr HFAr HFYr HM HNH HNT HSAME HSAMW d0 z0
      go_wp2_with (first
        | (go_at_call 23; go_must (refine HS1.out.mono ?_; rintro e we ⟨rfl, hbe⟩))
        | (go_at_call 29; go_must (refine (HS2.out _ hbe).mono ?_; rintro e wf ⟨rfl, hbf⟩)))
      go_roundw
      case rel => exact ⟨j + 1, by omega, by go_num, hlat.trans ((hl4.trans hbe).trans hbf)⟩
      case measure => simp [intOf]; omega
    · have hge : ¬ ((j : Int) < 5) := by omega
      have hwr := hlw9.trans hlat
      obtain ⟨⟨zn, cn, -⟩, ⟨zo, co, -⟩, -⟩ := HOB9.out.later hlat
      have n0 : wr.cell? ⟨B8, 0, none⟩ = some (.int .i64 1) := cn 0
      have n1 : wr.cell? ⟨B8, 1, none⟩ = some (.int .i64 0) := cn 1
      have n2 : wr.cell? ⟨B8, 2, none⟩ = some (.int .i64 0) := cn 2
      have n3 : wr.cell? ⟨B8, 3, none⟩ = some (.int .i64 0) := cn 3
      have n4 : wr.cell? ⟨B8, 4, none⟩ = some (.int .i64 1) := cn 4
      have o0 : wr.cell? ⟨B8 + 1, 0, none⟩ = some (.int .i64 1) := co 0
      have o1 : wr.cell? ⟨B8 + 1, 1, none⟩ = some (.int .i64 0) := co 1
      have o2 : wr.cell? ⟨B8 + 1, 2, none⟩ = some (.int .i64 0) := co 2
      have o3 : wr.cell? ⟨B8 + 1, 3, none⟩ = some (.int .i64 1) := co 3
      have o4 : wr.cell? ⟨B8 + 1, 4, none⟩ = some (.int .i64 1) := co 4
      have HFr := Lib.hid (HF9.out.later hlat)
      have HOr := Lib.hid (HO9.out.later hlat)
      have HNT := Lib.hid (HN.out.later hwr)
      clear cn co HA1 HB1 HH HSAME HSAMW HFA9 HFY9 HO9 HOB9 HF9
      go_upto_region 19 with (first | refine wpList_built (node_build _) rfl rfl rfl ?_ | refine wpList_builtS (nodes_three _ _ _ _ _ _ _ _ _ _ _ _ _ _ _) rfl rfl rfl ?_)
      refine wp_opaque (fun wa hba => ?_)
      have HN3 : Hid (IsNodes wa (.slice (some ⟨wr.heap.size, 0, none⟩) 3 3) [condN, oneN, noughtN]) := Lib.hid (nodes_of_own (Own.one hba) [condN, oneN, noughtN] rfl (by decide))
      have hla := hba.un1
      obtain ⟨BT, hBT⟩ : ∃ x, wr.heap.size = x := ⟨_, rfl⟩
      rw [hBT] at HN3 ⊢
      clear d0 z0 hba hBT n0 n1 n2 n3 n4 o0 o1 o2 o3 o4 zn zo
      obtain ⟨z0, d0, -⟩ := own_get (HOr.out.later hla)
      go_upto_region 20 with (at_builtin; go_must (refine wpList_nodes_full HN3.out rfl (HNT.out.later hla) (by have := HLL.out; omega) rfl _ _ rfl rfl rfl (by have := HLL.out; omega) ?_; intro v9 wb hM; have hlb := hM.lat; have HM := Lib.hid hM; obtain ⟨p9, c9, hv9⟩ := hM.form; obtain ⟨NL, hNL⟩ : ∃ x, ([condN, oneN, noughtN] ++ ts).length = x := ⟨_, rfl⟩; rw [hNL] at hv9; subst hv9; have HNL := Lib.hid hNL; clear hM hNL d0 z0; obtain ⟨z0, d0, -⟩ := own_get (HOr.out.later (hla.trans hlb))))
      have hNLb : NL ≤ 100 := by
        rw [← HNL.out, List.length_append]
        have := HLL.out
        simp
        omega
      have hlab := hla.trans hlb
      clear HN3 HNT
      go_upto_region 21 with (first | refine wpList_built (node_build _) rfl rfl rfl ?_ | refine wpList_builtS (nodes_one _ _ _ _ _) rfl rfl rfl ?_ | (at_builtin; go_must (refine wpList_nodes (V := .slice (some ⟨wb.heap.size, 0, none⟩) 1 1) (ts := [zeroN]) (HM.out.later ((Later.refl wb).alloc _)) (nodes_of_own (own_alloc wb _ _) [zeroN] rfl (by decide)) rfl _ _ rfl rfl rfl (by rw [HNL.out]; simp; omega) ?_; intro v10 wd hM2 hl2; have HM2 := Lib.hid hM2.nodes; obtain ⟨p10, c10, hv10⟩ := hM2.form; obtain ⟨NX, hNX⟩ : ∃ x, (([condN, oneN, noughtN] ++ ts) ++ [zeroN]).length = x := ⟨_, rfl⟩; rw [hNX] at hv10; subst hv10; clear hM2 hNX d0 z0; obtain ⟨z0, d0, -⟩ := own_get (HOr.out.later (hla.trans hl2))))) 
      have HX7 : Hid (IsNodes wd (.slice p10 NX c10) X) := Lib.hid (by
        have h7 := HM2.out
        rw [show ([condN, oneN, noughtN] ++ ts) ++ [zeroN] = X from by rw [← HX.out.1]; simp] at h7
        exact h7)
      have hld := (hwr.trans hla).trans hl2
      have HF7 := Lib.hid (HFr.out.later (hla.trans hl2))
      have HO7 := Lib.hid (HOr.out.later (hla.trans hl2))
      clear HM2 HX HFr HOr hl2 hlab hlb HM HNL hNLb
      go_upto_region 22 with (go_at_call 18; go_must (refine (HA2.out _ _ hld _ _ _ HX7.out HF7.out).mono ?_; rintro e we ⟨vb, rfl, hfb, hbe⟩; obtain ⟨qb, cb, hvb⟩ := hfb.form; replace hvb : vb = .slice qb 0 cb := hvb; subst hvb; clear hfb d0 z0; obtain ⟨z0, d0, -⟩ := own_get (HO7.out.later hbe)))
      go_upto_region 23 with (go_at_call 19; go_must (refine (HB2.out _ _ (hld.trans hbe) _ _ _ (HX7.out.later hbe) (HF7.out.later hbe)).mono ?_; rintro e wf ⟨vd, rfl, hfd, hbf⟩; obtain ⟨qd, cd, hvd⟩ := hfd.form; replace hvd : vd = .slice qd 0 cd := hvd; subst hvd; clear hfd d0 z0; obtain ⟨z0, d0, -⟩ := own_get (HO7.out.later (hbe.trans hbf))))
      have hl7 := (hld.trans hbe).trans hbf
      clear HX7 HF7 HA2 HB2 hge
      by_cases hr : tod < -1 ∨ 73048 < tod
      · obtain ⟨e1, e2⟩ := HLT.out hr
        clear HLT HLE
        subst e1 e2
        by_cases hr1 : tod < -1
        · clear hr
          go_wp2_with (go_at_call 17; go_must (refine (HAW.out _ hl7).mono ?_; rintro e wg ⟨rfl, hbg⟩))
          go_ret
          exact ⟨rfl, hl7.trans hbg⟩
        · have hr2 : 73048 < tod := by omega
          clear hr
          go_wp2_with (go_at_call 17; go_must (refine (HAW.out _ hl7).mono ?_; rintro e wg ⟨rfl, hbg⟩))
          go_ret
          exact ⟨rfl, hl7.trans hbg⟩
      · have e2 := HLE.out hr
        clear HLT HLE
        subst e2
        have hr1 : ¬ tod < -1 := by omega
        have hr2 : ¬ 73048 < tod := by omega
        clear hr
        go_wp2_with (go_at_call 17; go_must (refine (HAW.out _ hl7).mono ?_; rintro e wg ⟨rfl, hbg⟩))
        go_ret
        exact ⟨rfl, hl7.trans hbg⟩
theorem same_any (ts : List Nd) (l : List Td) (v u : Value) (day tod : Int) (w : World) (hok : ∀ x ∈ ts, x.ok) (lok : ∀ x ∈ l, x.ok) (hS : Shapes w) (hN : IsNodes w v ts) (hT : IsTolds w u l) :
    Calls Tryz.prog 6 #[.agg #[v, .int .i64 day, .int .i64 tod, u]] w fun e w' => e = .returned (.bool true) ∧ Later w w' := by
  by_cases nh1 : ¬ (ts.length ≤ 100 ∧ l.length ≤ 60)
  · exact same_far ts l v u day tod w lok hS hN hT (.inl nh1)
  have h1 : ts.length ≤ 100 ∧ l.length ≤ 60 := Classical.not_not.1 nh1
  by_cases nh2 : ¬ (ts.length ≤ 40)
  · exact same_far ts l v u day tod w lok hS hN hT (.inr ⟨h1, by omega⟩)
  have h2 : ts.length ≤ 40 := Classical.not_not.1 nh2
  by_cases nh3 : ¬ (0 ≤ day)
  · exact same_far ts l v u day tod w lok hS hN hT (.inr ⟨h1, by omega⟩)
  have h3 : 0 ≤ day := Classical.not_not.1 nh3
  by_cases nh4 : ¬ (day ≤ 73048)
  · exact same_far ts l v u day tod w lok hS hN hT (.inr ⟨h1, by omega⟩)
  have h4 : day ≤ 73048 := Classical.not_not.1 nh4
  by_cases nh5 : ¬ (ctE ts = 0)
  · exact same_ct ts l v u day tod w hok lok hS hN hT ⟨h1, h2, h3, h4, nh5⟩
  have h5 : ctE ts = 0 := Classical.not_not.1 nh5
  obtain ⟨T, hG, hm⟩ := ct_good h5
  by_cases h6 : T.depth ≤ 11
  · exact same_near ts T l v u day tod w hok lok hS hN hT h2 h1.2 h3 h4 hG hm h6
  · exact same_deep ts l v u day tod w hok lok hS hN hT ⟨h1, h2, h3, h4, h5, T, hG, by omega⟩
end Go.Proofs.YtkjabiabeemfhaaGreatDoor
end
section
namespace Go.Proofs.YtkjabiabeemfhaaGreatDoor
open Go.RowKit Go.WideShapes Go.ChangeShapes
section
variable {H : Type} {enc : TypeId × Value → H} {P : Program}
theorem post_of_later {f : Func} {s : ChangeSpec} {apart fresh handsOn again : Bool} {W W' : World} {args : Array Value} {v : Value} {ds gs : List (DataW H)} {before pa pv : List MemPlace}
    (hW : DataW.Whole enc P f.params.toList s.vars apart W args.toList ds gs before)
    (hres : ∀ (b : Nat) (sp : Nat → Bool) (hd : Bool), DataW.TrodAll enc P W' b sp hd f.resultTypes.toList (v.resultList f.resultTypes.size) (s.fn H (ds ++ gs)).results [])
    (hargs : ∀ sp : Nat → Bool, (∀ p ∈ before, sp p.block = true) → DataW.TrodAll enc P W' 0 sp true f.params.toList args.toList (s.fn H (ds ++ gs)).args pa)
    (hvars : ∀ sp : Nat → Bool, (∀ p ∈ before, sp p.block = true) → DataW.TrodVars enc P W' sp s.vars (s.fn H (ds ++ gs)).vars pv)
    (hps : before = pa ++ pv) (hb : Later W W')
    (hok : ∀ (j : Nat) (t : TypeId) (r : Value), f.resultTypes[j]? = some t → (v.resultList f.resultTypes.size)[j]? = some r → Value.okWide P W' .any 0 t r) :
    s.post enc P f apart fresh handsOn again W args v W' := by
  have lt : ∀ p ∈ before, p.block < W.heap.size := fun p hp => hW.lt p hp
  have old : ∀ p ∈ before, (fun b => decide (b < W.heap.size)) p.block = true := fun p hp => by simpa using lt p hp
  have kept := Below.frame hb (· ∈ before)
  refine ⟨ds, gs, before, [], pa, pv, hW, hres _ _ _, hargs _ old, hvars _ old, World.keptBut_mono (fun p hp => ⟨hp, ?_⟩) kept, fun _ => ?_⟩
  · rw [hps, List.mem_append] at hp
    exact .inr hp
  · obtain ⟨_, _, _, _, _, hz, hn⟩ := hW
    refine ⟨hok, _, _, ([] ++ pa) ++ pv, ⟨[] ++ pa, pv, trodAll_append (hargs _ (fun _ _ => rfl)) (hres _ _ _), hvars _ (fun _ _ => rfl), rfl, ?_, ?_⟩, ?_⟩
    · intro b off hp
      have mem : MemPlace.cell b off ∈ before := by rw [hps]; simpa using hp
      rw [Below.frozen hb (lt _ mem)]
      exact hz b off mem
    · intro ha
      have := hn ha
      rw [hps] at this
      simpa using this
    · intro p hp _
      rw [hps]
      simpa using hp
end
theorem wf_i64 {x : Int} (h : (Lit.int .i64 x).wf = true) : -9223372036854775808 ≤ x ∧ x ≤ 9223372036854775807 := by
  simp [Lit.wf, IntKind.min, IntKind.max, IntKind.signed, IntKind.bits] at h
  omega
end Go.Proofs.YtkjabiabeemfhaaGreatDoor
end
section
namespace Go.Proofs.YtkjabiabeemfhaaGreatDoor
open Go.ChangeShapes Go.WideShapes Go.ChangeAt Go.RowKit
set_option maxRecDepth 100000
section
variable {H : Type} {enc : TypeId × Value → H} {W : World} {r : Reach} {base : Nat} {sp : Nat → Bool} {held : Bool}
theorem int_of_trod {t : TypeId} {n : Nat} {cs : List Value} {y : DataW H × List MemPlace} (ht : Tryz.prog.underlying t = some (.int .i64)) (h : DataW.trod enc Tryz.prog W 0 sp held n t cs = some y) : ∃ a, cs = [.int .i64 a] ∧ I64 a := by
  obtain ⟨a, h1, _, h2⟩ := DataW.trod_int ht h
  exact ⟨a, h1, wf_i64 h2⟩
theorem len2 {α : Type} {l : List α} (h : l.length = 2) : ∃ a b, l = [a, b] := by match l, h with | [a, b], _ => exact ⟨a, b, rfl⟩
theorem len5 {α : Type} {l : List α} (h : l.length = 5) : ∃ a b c d e, l = [a, b, c, d, e] := by match l, h with | [a, b, c, d, e], _ => exact ⟨a, b, c, d, e, rfl⟩
theorem len6 {α : Type} {l : List α} (h : l.length = 6) : ∃ a b c d e g, l = [a, b, c, d, e, g] := by match l, h with | [a, b, c, d, e, g], _ => exact ⟨a, b, c, d, e, g, rfl⟩
theorem some_of_lt {α : Type} {xs : List α} {i : Nat} (h : i < xs.length) : ∃ y, xs[i]? = some y := ⟨_, List.getElem?_eq_getElem h⟩
theorem ratio_of_trod {n : Nat} {cs : List Value} {y : DataW H × List MemPlace} (h : DataW.trod enc Tryz.prog W 0 sp held n 53 cs = some y) : ∃ a b, cs = [.int .i64 a, .int .i64 b] ∧ I64 a ∧ I64 b := by
  obtain ⟨xs, m, _, _, hl, hlen, hf⟩ := DataW.trod_struct Tryz.underlying53 h
  have c0 : Tryz.prog.cellsOf 53 = 2 := by kernel_rfl
  have c1 : Tryz.prog.cellsOf 3 = 1 := by kernel_rfl
  have hlen : xs.length = 2 := hlen
  have f0 : DataW.trod enc Tryz.prog W 0 sp held m 3 ((cs.drop 0).take (Tryz.prog.cellsOf 3)) = xs[0]? := hf 0 _ rfl
  have f1 : DataW.trod enc Tryz.prog W 0 sp held m 3 ((cs.drop 1).take (Tryz.prog.cellsOf 3)) = xs[1]? := hf 1 _ rfl
  obtain ⟨y0, e0⟩ := some_of_lt (xs := xs) (i := 0) (by omega)
  obtain ⟨y1, e1⟩ := some_of_lt (xs := xs) (i := 1) (by omega)
  rw [c1, e0] at f0
  rw [c1, e1] at f1
  rw [c0] at hl
  obtain ⟨a, b, rfl⟩ := len2 hl
  clear hf hl h
  · skip
    obtain ⟨p, hp, ip⟩ := int_of_trod Tryz.underlying3 f0
    obtain ⟨q, hq, iq⟩ := int_of_trod Tryz.underlying3 f1
    simp at hp hq
    subst hp hq
    exact ⟨p, q, rfl, ip, iq⟩
theorem node_of_trod {n : Nat} {cs : List Value} {y : DataW H × List MemPlace} (h : DataW.trod enc Tryz.prog W 0 sp held n 61 cs = some y) : ∃ x : Nd, x.ok ∧ ∀ j, j < 5 → cs[j]? = some (.int .i64 (x.cell j)) := by
  obtain ⟨xs, m, _, _, hl, hlen, hf⟩ := DataW.trod_struct Tryz.underlying61 h
  have c0 : Tryz.prog.cellsOf 61 = 5 := by kernel_rfl
  have c1 : Tryz.prog.cellsOf 3 = 1 := by kernel_rfl
  have c2 : Tryz.prog.cellsOf 53 = 2 := by kernel_rfl
  have hlen : xs.length = 4 := hlen
  have f0 : DataW.trod enc Tryz.prog W 0 sp held m 3 ((cs.drop 0).take (Tryz.prog.cellsOf 3)) = xs[0]? := hf 0 _ rfl
  have f1 : DataW.trod enc Tryz.prog W 0 sp held m 3 ((cs.drop 1).take (Tryz.prog.cellsOf 3)) = xs[1]? := hf 1 _ rfl
  have f2 : DataW.trod enc Tryz.prog W 0 sp held m 3 ((cs.drop 2).take (Tryz.prog.cellsOf 3)) = xs[2]? := hf 2 _ rfl
  have f3 : DataW.trod enc Tryz.prog W 0 sp held m 53 ((cs.drop 3).take (Tryz.prog.cellsOf 53)) = xs[3]? := hf 3 _ rfl
  obtain ⟨y0, e0⟩ := some_of_lt (xs := xs) (i := 0) (by omega)
  obtain ⟨y1, e1⟩ := some_of_lt (xs := xs) (i := 1) (by omega)
  obtain ⟨y2, e2⟩ := some_of_lt (xs := xs) (i := 2) (by omega)
  obtain ⟨y3, e3⟩ := some_of_lt (xs := xs) (i := 3) (by omega)
  rw [c1, e0] at f0
  rw [c1, e1] at f1
  rw [c1, e2] at f2
  rw [c2, e3] at f3
  rw [c0] at hl
  obtain ⟨a, b, c, d, e, rfl⟩ := len5 hl
  clear hf hl h
  · skip
    obtain ⟨p, hp, ip⟩ := int_of_trod Tryz.underlying3 f0
    obtain ⟨q, hq, iq⟩ := int_of_trod Tryz.underlying3 f1
    obtain ⟨r, hr, ir⟩ := int_of_trod Tryz.underlying3 f2
    obtain ⟨s, t, hs, is, it⟩ := ratio_of_trod f3
    simp at hp hq hr hs
    obtain ⟨hs, ht⟩ := hs
    subst hp hq hr hs ht
    refine ⟨⟨p, q, r, s, t⟩, ⟨ip, iq, ir, is, it⟩, fun j hj => ?_⟩
    rcases j with _ | _ | _ | _ | _ | j
    all_goals first | rfl | omega
theorem told_of_trod {n : Nat} {cs : List Value} {y : DataW H × List MemPlace} (h : DataW.trod enc Tryz.prog W 0 sp held n 55 cs = some y) : ∃ x : Td, x.ok ∧ ∀ j, j < 6 → cs[j]? = some (x.cell j) := by
  obtain ⟨xs, m, _, _, hl, hlen, hf⟩ := DataW.trod_struct Tryz.underlying55 h
  have c0 : Tryz.prog.cellsOf 55 = 6 := by kernel_rfl
  have c1 : Tryz.prog.cellsOf 3 = 1 := by kernel_rfl
  have c2 : Tryz.prog.cellsOf 53 = 2 := by kernel_rfl
  have c4 : Tryz.prog.cellsOf 4 = 1 := by kernel_rfl
  have hlen : xs.length = 5 := hlen
  have f0 : DataW.trod enc Tryz.prog W 0 sp held m 4 ((cs.drop 0).take (Tryz.prog.cellsOf 4)) = xs[0]? := hf 0 _ rfl
  have f1 : DataW.trod enc Tryz.prog W 0 sp held m 3 ((cs.drop 1).take (Tryz.prog.cellsOf 3)) = xs[1]? := hf 1 _ rfl
  have f2 : DataW.trod enc Tryz.prog W 0 sp held m 3 ((cs.drop 2).take (Tryz.prog.cellsOf 3)) = xs[2]? := hf 2 _ rfl
  have f3 : DataW.trod enc Tryz.prog W 0 sp held m 53 ((cs.drop 3).take (Tryz.prog.cellsOf 53)) = xs[3]? := hf 3 _ rfl
  have f4 : DataW.trod enc Tryz.prog W 0 sp held m 3 ((cs.drop 5).take (Tryz.prog.cellsOf 3)) = xs[4]? := hf 4 _ rfl
  obtain ⟨y0, e0⟩ := some_of_lt (xs := xs) (i := 0) (by omega)
  obtain ⟨y1, e1⟩ := some_of_lt (xs := xs) (i := 1) (by omega)
  obtain ⟨y2, e2⟩ := some_of_lt (xs := xs) (i := 2) (by omega)
  obtain ⟨y3, e3⟩ := some_of_lt (xs := xs) (i := 3) (by omega)
  obtain ⟨y4, e4⟩ := some_of_lt (xs := xs) (i := 4) (by omega)
  rw [c4, e0] at f0
  rw [c1, e1] at f1
  rw [c1, e2] at f2
  rw [c2, e3] at f3
  rw [c1, e4] at f4
  rw [c0] at hl
  obtain ⟨a, b, c, d, e, g, rfl⟩ := len6 hl
  clear hf hl h
  · skip
    obtain ⟨p, hp, _⟩ := DataW.trod_bool Tryz.underlying4 f0
    obtain ⟨q, hq, iq⟩ := int_of_trod Tryz.underlying3 f1
    obtain ⟨r, hr, ir⟩ := int_of_trod Tryz.underlying3 f2
    obtain ⟨s, t, hs, is, it⟩ := ratio_of_trod f3
    obtain ⟨u, hu, iu⟩ := int_of_trod Tryz.underlying3 f4
    simp at hp hq hr hs hu
    obtain ⟨hs, ht⟩ := hs
    subst hp hq hr hs ht hu
    refine ⟨⟨p, q, r, s, t, u⟩, ⟨iq, ir, is, it, iu⟩, fun j hj => ?_⟩
    rcases j with _ | _ | _ | _ | _ | _ | j
    all_goals first | rfl | omega
theorem kidsAll : Kids Tryz.prog (· < Tryz.prog.types.size) := kids_rows (by kernel_rfl) (by kernel_rfl)
theorem slicesFull : ∀ t e, t < Tryz.prog.types.size → Tryz.prog.underlying t = some (.slice e) → 0 < Tryz.prog.cellsOf e := slices_full_of Tryz.prog (by kernel_rfl)
theorem same_later {W W' : World} (hb : Later W W') {p : MemPlace} (h : p.block < W.heap.size) : W.sameAt W' p := by
  cases p with
  | cell b o => exact (bcell hb).1 b o h
  | map b => exact hb.block b h
theorem carryAll {P : Program} {W W' : World} : ∀ {ts : List TypeId} {vs : List Value} {ds : List (DataW H)} {ps : List MemPlace}, DataW.TrodAll enc P W base sp held ts vs ds ps → (∀ p ∈ ps, W.sameAt W' p) → DataW.TrodAll enc P W' base sp held ts vs ds ps
  | [], [], [], _, h, _ => h
  | _ :: _, _ :: _, _ :: _, _, ⟨p, q, ⟨n, h1⟩, h2, e⟩, hs => ⟨p, q, ⟨n, DataW.trod_carry _ _ _ _ h1 (fun x hx => hs x (by rw [e]; exact List.mem_append_left _ hx))⟩, carryAll h2 (fun x hx => hs x (by rw [e]; exact List.mem_append_right _ hx)), e⟩
theorem args_stay {W W' : World} {ts : List TypeId} {vs : List Value} {ds : List (DataW H)} {ps : List MemPlace} {sp : Nat → Bool} (ht : ∀ t ∈ ts, t < Tryz.prog.types.size) (h : DataW.TrodAll enc Tryz.prog W 0 (fun _ => true) true ts vs ds ps)
    (lt : ∀ p ∈ ps, p.block < W.heap.size) (hb : Later W W') (hs : ∀ p ∈ ps, sp p.block = true) : DataW.TrodAll enc Tryz.prog W' 0 sp true ts vs ds ps :=
  (carryAll h (fun p hp => same_later hb (lt p hp))).respare kidsAll slicesFull ht hs
end
end Go.Proofs.YtkjabiabeemfhaaGreatDoor
end
