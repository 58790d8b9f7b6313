/- ValueTells: its walk -/
import Derived.Test.YtkpadahpepeaoaaDoorJt
set_option linter.all false
namespace Go.Proofs.YtkpadahpepeaoaaDoor
open Go.RowKit
set_option maxRecDepth 100000

theorem valT_err {get : Int → Option Q2} (T : Tm) (h : (valT get T).1 ≠ 0) : (valT get T).2 = none := by
  obtain ⟨x, l⟩ := T
  rw [valT_node] at h ⊢
  unfold nodeV at h ⊢
  by_cases h1 : x.op = 1
  · rw [if_pos h1] at h; simp at h
  rw [if_neg h1] at h ⊢
  by_cases h2 : x.op = 2
  · rw [if_pos h2] at h; simp at h
  rw [if_neg h2] at h ⊢
  split at h
  · rfl
  · split at h
    · rename_i h3; rw [if_pos h3]; exact applyV_err h
    · simp at h
theorem atV_wrong {ts : List Nd} {fx : FxL} {k day : Int} (h : wrongV ts k ≠ 0) : atV ts fx k day = (wrongV ts k, none) := by unfold atV; rw [if_pos h]
theorem atV_day {ts : List Nd} {fx : FxL} {k day : Int} (h : wrongV ts k = 0) (hd : day < 0 ∨ 73048 < day) : atV ts fx k day = (18, none) := by unfold atV; rw [if_neg (by rw [h]; simp), if_pos hd]
/-- Where nothing is wrong. -/
theorem atV_fine {ts : List Nd} {fx : FxL} {k day : Int} (hok : ∀ x ∈ ts, x.ok) (h : wrongV ts k = 0) (hd : ¬ (day < 0 ∨ 73048 < day)) : ∃ (j : Nat) (s : Tm), k = (j : Nat) ∧ TmAt ts j s ∧ NumT s ∧ atV ts fx k day = valT (getF fx day) s := by
  obtain ⟨T, j, s, rfl, hT, hj, hs, hm, hso⟩ := wrongV_zero h
  refine ⟨j, s, rfl, hs, numT_of hT.fields hok hs hso hm, ?_⟩
  unfold atV; rw [if_neg (by rw [h]; simp), if_neg hd, Int.toNat_natCast, subAt_eq hs]
theorem atV_err {ts : List Nd} {fx : FxL} {k day : Int} (h : (atV ts fx k day).1 ≠ 0) : (atV ts fx k day).2 = none := by
  unfold atV at h ⊢
  split at h
  · rename_i h1; rw [if_pos h1]
  rename_i h1
  rw [if_neg h1]
  split at h
  · rename_i h2; rw [if_pos h2]
  rename_i h2
  rw [if_neg h2]
  split at h
  · simp at h
  · exact valT_err _ h


set_option maxHeartbeats 1600000 in
theorem tells_far (ts : List Nd) (ls : List Td) (k day : Int) (v lv : Value) (w : World) (hS : Shapes w) (hN : IsNodes w v ts) (hT : IsTolds w lv ls) (h1 : 100 < ts.length) :
    Calls Tryd.prog 3 #[v, lv, .agg #[.int .i64 k, .int .i64 day]] w fun e w' => e = .returned (.bool true) ∧ Later w w' := by
  have HAW := Lib.hid (fun W (hl : Later w W) => vawake_any W (hS.later hl))
  obtain ⟨p0, c0, rfl⟩ := hN.form
  obtain ⟨p1, c1, rfl⟩ := hT.form
  generalize ts.length = L at *
  generalize ls.length = M at *
  clear hN hT hS
  have g1 : 100 < (L : Int) := by omega
  clear h1
  go_enter Tryd.func3, Tryd.ntmps3
  go_wp2_with (go_at_call 8; go_must (refine (HAW.out _ (by repeat (first | with_reducible exact Later.refl _ | with_reducible assumption | with_reducible refine Later.ofdrew ?_ | with_reducible refine Later.ofdrewN ?_ | with_reducible refine Later.setCell ?_ ?_ _ | with_reducible refine Later.alloc ?_ _ | with_reducible refine Later.drewN ?_ _ | with_reducible refine Later.drew ?_ | (with_reducible refine Later.trans ?_ (by assumption)) | (simp only [World.size_setCell, World.size_alloc, World.heap_drewN]; omega) | (simp; done) | (simp; omega)))).mono ?_; rintro e w9 ⟨rfl, hb9⟩))
  go_ret
  exact ⟨rfl, by repeat (first | with_reducible exact Later.refl _ | with_reducible assumption | with_reducible refine Later.ofdrew ?_ | with_reducible refine Later.ofdrewN ?_ | with_reducible refine Later.setCell ?_ ?_ _ | with_reducible refine Later.alloc ?_ _ | with_reducible refine Later.drewN ?_ _ | with_reducible refine Later.drew ?_ | (with_reducible refine Later.trans ?_ (by assumption)) | (simp only [World.size_setCell, World.size_alloc, World.heap_drewN]; omega) | (simp; done) | (simp; omega))⟩

set_option maxHeartbeats 1600000 in
theorem tells_told (ts : List Nd) (ls : List Td) (k day : Int) (v lv : Value) (w : World) (hS : Shapes w) (hN : IsNodes w v ts) (hT : IsTolds w lv ls) (h1 : ts.length ≤ 100) (h2 : 60 < ls.length) :
    Calls Tryd.prog 3 #[v, lv, .agg #[.int .i64 k, .int .i64 day]] w fun e w' => e = .returned (.bool true) ∧ Later w w' := by
  have HAW := Lib.hid (fun W (hl : Later w W) => vawake_any W (hS.later hl))
  obtain ⟨p0, c0, rfl⟩ := hN.form
  obtain ⟨p1, c1, rfl⟩ := hT.form
  generalize ts.length = L at *
  generalize ls.length = M at *
  clear hN hT hS
  have g1 : ¬ (100 < (L : Int)) := by omega
  have g2 : 60 < (M : Int) := by omega
  clear h1 h2
  go_enter Tryd.func3, Tryd.ntmps3
  go_wp2_with (go_at_call 8; go_must (refine (HAW.out _ (by repeat (first | with_reducible exact Later.refl _ | with_reducible assumption | with_reducible refine Later.ofdrew ?_ | with_reducible refine Later.ofdrewN ?_ | with_reducible refine Later.setCell ?_ ?_ _ | with_reducible refine Later.alloc ?_ _ | with_reducible refine Later.drewN ?_ _ | with_reducible refine Later.drew ?_ | (with_reducible refine Later.trans ?_ (by assumption)) | (simp only [World.size_setCell, World.size_alloc, World.heap_drewN]; omega) | (simp; done) | (simp; omega)))).mono ?_; rintro e w9 ⟨rfl, hb9⟩))
  go_ret
  exact ⟨rfl, by repeat (first | with_reducible exact Later.refl _ | with_reducible assumption | with_reducible refine Later.ofdrew ?_ | with_reducible refine Later.ofdrewN ?_ | with_reducible refine Later.setCell ?_ ?_ _ | with_reducible refine Later.alloc ?_ _ | with_reducible refine Later.drewN ?_ _ | with_reducible refine Later.drew ?_ | (with_reducible refine Later.trans ?_ (by assumption)) | (simp only [World.size_setCell, World.size_alloc, World.heap_drewN]; omega) | (simp; done) | (simp; omega))⟩

set_option maxHeartbeats 3200000 in
theorem tells_wrong (ts : List Nd) (ls : List Td) (k day : Int) (v lv : Value) (w : World)
    (hok : ∀ x ∈ ts, x.ok) (lok : ∀ x ∈ ls, x.ok) (hd : I64 day) (hS : Shapes w) (hN : IsNodes w v ts) (hT : IsTolds w lv ls) (h1 : ts.length ≤ 100) (h2 : ls.length ≤ 60) (h0 : wrongV ts k ≠ 0) :
    Calls Tryd.prog 3 #[v, lv, .agg #[.int .i64 k, .int .i64 day]] w fun e w' => e = .returned (.bool true) ∧ Later w w' := by
  have HAW := Lib.hid (fun W (hl : Later w W) => vawake_any W (hS.later hl))
  have HM := Lib.hid (fun W (hl : Later w W) => made_any ls (by omega) lok lv W (hT.later hl))
  have HG := getOk_of (fxOk_made ls lok) day
  have HA := Lib.hid (fun p m1 m2 W (hl : Later w W) hF => vat_any ts (madeFx ls) (madeCh ls) p m1 m2 k day v W (by omega) hok hd HG (hS.later hl) (hN.later hl) hF)
  have HW := Lib.hid (fun W (hl : Later w W) => vwrong_any ts (by omega) hok v k W (hN.later hl))
  rw [atV_wrong h0] at HA
  have hvr : ∀ E, valR (E, none) = .agg #[.bool false, .int .i64 0, .int .i64 0] := fun _ => rfl
  rw [hvr] at HA
  obtain ⟨E, hE⟩ : ∃ E, wrongV ts k = E := ⟨_, rfl⟩
  rw [hE] at HA HW h0
  have he1 : (E == 0) = false := by simpa using h0
  have he2 : (E != 0) = true := by simpa using h0
  clear h0 hE hvr
  obtain ⟨p0, c0, rfl⟩ := hN.form
  obtain ⟨p1, c1, rfl⟩ := hT.form
  clear hN hT hS hok lok HG
  have g1 : ¬ (100 < (ts.length : Int)) := by omega
  have g2 : ¬ (60 < (ls.length : Int)) := by omega
  clear h1 h2
  generalize ts.length = L at *
  generalize ls.length = M at *
  generalize madeFx ls = FX at *
  generalize madeCh ls = CH at *
  go_enter Tryd.func3, Tryd.ntmps3
  go_upto_region 1 with (fail)
  refine wp_opaque (fun w0 hb0 => ?_)
  have hO0 := Own.one hb0
  have hl0 := hb0.un1
  obtain ⟨z0, d0, -⟩ := own_get hO0
  clear hb0
  go_upto_region 7 with (first
    | (go_at_call 9; go_must (refine (HM.out _ hl0).mono ?_; rintro e w1 ⟨p, m1, m2, rfl, hF1, -, -, hb1⟩; have hl1 : Later w w1 := hl0.trans hb1; clear d0 z0; obtain ⟨z0, d0, -⟩ := own_get (hO0.later hb1)))
    | (go_at_call 10; go_must (refine (HA.out _ _ _ _ hl1 hF1).mono ?_; rintro e w2 ⟨rfl, hb2⟩)))
  refine wp_opaque (fun w3 hb3 => ?_)
  have hO3 := Own.one hb3
  have hl3 := hl1.trans (hb2.trans hb3.un1)
  have hOz := hO0.later (hb1.trans (hb2.trans hb3.un1))
  clear HM HA hF1 hb1 hb2 hb3 hO0 hl1 hl0 d0 z0
  obtain ⟨z0, d0, -⟩ := own_get hOz
  obtain ⟨z8, d8, -⟩ := own_get hO3
  go_wp2_with (first | (go_at_call 11; go_must (refine (HW.out _ hl3).mono ?_; rintro e w4 ⟨rfl, hb4⟩; have hl4 := hl3.trans hb4; clear d0 z0 d8 z8; obtain ⟨z0, d0, -⟩ := own_get (hOz.later hb4); obtain ⟨z8, d8, -⟩ := own_get (hO3.later hb4))) | (go_at_call 8; go_must (refine (HAW.out _ hl4).mono ?_; rintro e w9 ⟨rfl, hb9⟩)))
  go_ret
  exact ⟨rfl, hl4.trans hb9⟩

set_option maxHeartbeats 3200000 in
theorem tells_early (ts : List Nd) (ls : List Td) (k day : Int) (v lv : Value) (w : World)
    (hok : ∀ x ∈ ts, x.ok) (lok : ∀ x ∈ ls, x.ok) (hd : I64 day) (hS : Shapes w) (hN : IsNodes w v ts) (hT : IsTolds w lv ls) (h1 : ts.length ≤ 100) (h2 : ls.length ≤ 60) (h0 : wrongV ts k = 0) (hday : day < 0) :
    Calls Tryd.prog 3 #[v, lv, .agg #[.int .i64 k, .int .i64 day]] w fun e w' => e = .returned (.bool true) ∧ Later w w' := by
  have HAW := Lib.hid (fun W (hl : Later w W) => vawake_any W (hS.later hl))
  have HM := Lib.hid (fun W (hl : Later w W) => made_any ls (by omega) lok lv W (hT.later hl))
  have HG := getOk_of (fxOk_made ls lok) day
  have HA := Lib.hid (fun p m1 m2 W (hl : Later w W) hF => vat_any ts (madeFx ls) (madeCh ls) p m1 m2 k day v W (by omega) hok hd HG (hS.later hl) (hN.later hl) hF)
  have HW := Lib.hid (fun W (hl : Later w W) => vwrong_any ts (by omega) hok v k W (hN.later hl))
  rw [atV_day h0 (by omega)] at HA
  have hvr : ∀ E, valR (E, none) = .agg #[.bool false, .int .i64 0, .int .i64 0] := fun _ => rfl
  rw [hvr] at HA
  rw [h0] at HW
  clear h0 hvr
  obtain ⟨p0, c0, rfl⟩ := hN.form
  obtain ⟨p1, c1, rfl⟩ := hT.form
  clear hN hT hS hok lok HG
  have g1 : ¬ (100 < (ts.length : Int)) := by omega
  have g2 : ¬ (60 < (ls.length : Int)) := by omega
  clear h1 h2
  generalize ts.length = L at *
  generalize ls.length = M at *
  generalize madeFx ls = FX at *
  generalize madeCh ls = CH at *
  go_enter Tryd.func3, Tryd.ntmps3
  go_upto_region 1 with (fail)
  refine wp_opaque (fun w0 hb0 => ?_)
  have hO0 := Own.one hb0
  have hl0 := hb0.un1
  obtain ⟨z0, d0, -⟩ := own_get hO0
  clear hb0
  go_upto_region 7 with (first
    | (go_at_call 9; go_must (refine (HM.out _ hl0).mono ?_; rintro e w1 ⟨p, m1, m2, rfl, hF1, -, -, hb1⟩; have hl1 : Later w w1 := hl0.trans hb1; clear d0 z0; obtain ⟨z0, d0, -⟩ := own_get (hO0.later hb1)))
    | (go_at_call 10; go_must (refine (HA.out _ _ _ _ hl1 hF1).mono ?_; rintro e w2 ⟨rfl, hb2⟩)))
  refine wp_opaque (fun w3 hb3 => ?_)
  have hO3 := Own.one hb3
  have hl3 := hl1.trans (hb2.trans hb3.un1)
  have hOz := hO0.later (hb1.trans (hb2.trans hb3.un1))
  clear HM HA hF1 hb1 hb2 hb3 hO0 hl1 hl0 d0 z0
  obtain ⟨z0, d0, -⟩ := own_get hOz
  obtain ⟨z8, d8, -⟩ := own_get hO3
  go_wp2_with (first | (go_at_call 11; go_must (refine (HW.out _ hl3).mono ?_; rintro e w4 ⟨rfl, hb4⟩; have hl4 := hl3.trans hb4; clear d0 z0 d8 z8; obtain ⟨z0, d0, -⟩ := own_get (hOz.later hb4); obtain ⟨z8, d8, -⟩ := own_get (hO3.later hb4))) | (go_at_call 8; go_must (refine (HAW.out _ hl4).mono ?_; rintro e w9 ⟨rfl, hb9⟩)))
  go_ret
  exact ⟨rfl, hl4.trans hb9⟩

set_option maxHeartbeats 3200000 in
theorem tells_late (ts : List Nd) (ls : List Td) (k day : Int) (v lv : Value) (w : World)
    (hok : ∀ x ∈ ts, x.ok) (lok : ∀ x ∈ ls, x.ok) (hd : I64 day) (hS : Shapes w) (hN : IsNodes w v ts) (hT : IsTolds w lv ls) (h1 : ts.length ≤ 100) (h2 : ls.length ≤ 60) (h0 : wrongV ts k = 0) (hday : 73048 < day) :
    Calls Tryd.prog 3 #[v, lv, .agg #[.int .i64 k, .int .i64 day]] w fun e w' => e = .returned (.bool true) ∧ Later w w' := by
  have HAW := Lib.hid (fun W (hl : Later w W) => vawake_any W (hS.later hl))
  have HM := Lib.hid (fun W (hl : Later w W) => made_any ls (by omega) lok lv W (hT.later hl))
  have HG := getOk_of (fxOk_made ls lok) day
  have HA := Lib.hid (fun p m1 m2 W (hl : Later w W) hF => vat_any ts (madeFx ls) (madeCh ls) p m1 m2 k day v W (by omega) hok hd HG (hS.later hl) (hN.later hl) hF)
  have HW := Lib.hid (fun W (hl : Later w W) => vwrong_any ts (by omega) hok v k W (hN.later hl))
  have hd1 : ¬ (day < 0) := by omega
  rw [atV_day h0 (by omega)] at HA
  have hvr : ∀ E, valR (E, none) = .agg #[.bool false, .int .i64 0, .int .i64 0] := fun _ => rfl
  rw [hvr] at HA
  rw [h0] at HW
  clear h0 hvr
  obtain ⟨p0, c0, rfl⟩ := hN.form
  obtain ⟨p1, c1, rfl⟩ := hT.form
  clear hN hT hS hok lok HG
  have g1 : ¬ (100 < (ts.length : Int)) := by omega
  have g2 : ¬ (60 < (ls.length : Int)) := by omega
  clear h1 h2
  generalize ts.length = L at *
  generalize ls.length = M at *
  generalize madeFx ls = FX at *
  generalize madeCh ls = CH at *
  go_enter Tryd.func3, Tryd.ntmps3
  go_upto_region 1 with (fail)
  refine wp_opaque (fun w0 hb0 => ?_)
  have hO0 := Own.one hb0
  have hl0 := hb0.un1
  obtain ⟨z0, d0, -⟩ := own_get hO0
  clear hb0
  go_upto_region 7 with (first
    | (go_at_call 9; go_must (refine (HM.out _ hl0).mono ?_; rintro e w1 ⟨p, m1, m2, rfl, hF1, -, -, hb1⟩; have hl1 : Later w w1 := hl0.trans hb1; clear d0 z0; obtain ⟨z0, d0, -⟩ := own_get (hO0.later hb1)))
    | (go_at_call 10; go_must (refine (HA.out _ _ _ _ hl1 hF1).mono ?_; rintro e w2 ⟨rfl, hb2⟩)))
  refine wp_opaque (fun w3 hb3 => ?_)
  have hO3 := Own.one hb3
  have hl3 := hl1.trans (hb2.trans hb3.un1)
  have hOz := hO0.later (hb1.trans (hb2.trans hb3.un1))
  clear HM HA hF1 hb1 hb2 hb3 hO0 hl1 hl0 d0 z0
  obtain ⟨z0, d0, -⟩ := own_get hOz
  obtain ⟨z8, d8, -⟩ := own_get hO3
  go_wp2_with (first | (go_at_call 11; go_must (refine (HW.out _ hl3).mono ?_; rintro e w4 ⟨rfl, hb4⟩; have hl4 := hl3.trans hb4; clear d0 z0 d8 z8; obtain ⟨z0, d0, -⟩ := own_get (hOz.later hb4); obtain ⟨z8, d8, -⟩ := own_get (hO3.later hb4))) | (go_at_call 8; go_must (refine (HAW.out _ hl4).mono ?_; rintro e w9 ⟨rfl, hb9⟩)))
  go_ret
  exact ⟨rfl, hl4.trans hb9⟩

set_option maxHeartbeats 3200000 in
theorem tells_over (ts : List Nd) (ls : List Td) (k day : Int) (v lv : Value) (w : World)
    (hok : ∀ x ∈ ts, x.ok) (lok : ∀ x ∈ ls, x.ok) (hd : I64 day) (hS : Shapes w) (hN : IsNodes w v ts) (hT : IsTolds w lv ls) (h1 : ts.length ≤ 100) (h2 : ls.length ≤ 60) (h0 : wrongV ts k = 0) (hday : ¬ (day < 0 ∨ 73048 < day)) (h3 : (atV ts (madeFx ls) k day).1 ≠ 0) :
    Calls Tryd.prog 3 #[v, lv, .agg #[.int .i64 k, .int .i64 day]] w fun e w' => e = .returned (.bool true) ∧ Later w w' := by
  have HAW := Lib.hid (fun W (hl : Later w W) => vawake_any W (hS.later hl))
  have HM := Lib.hid (fun W (hl : Later w W) => made_any ls (by omega) lok lv W (hT.later hl))
  have HG := getOk_of (fxOk_made ls lok) day
  have HA := Lib.hid (fun p m1 m2 W (hl : Later w W) hF => vat_any ts (madeFx ls) (madeCh ls) p m1 m2 k day v W (by omega) hok hd HG (hS.later hl) (hN.later hl) hF)
  have HW := Lib.hid (fun W (hl : Later w W) => vwrong_any ts (by omega) hok v k W (hN.later hl))
  obtain ⟨j, s, rfl, hs, hns, hat⟩ := atV_fine (fx := madeFx ls) hok h0 hday
  have herr := atV_err (ts := ts) (fx := madeFx ls) (k := (j : Nat)) (day := day)
  have HP := Lib.hid (fun W (hl : Later w W) => plain_any ls (by omega) lok lv W (hT.later hl))
  have hpl : (ls.foldl plainA []).length ≤ 100002 := by have := plain_length ls []; simp only [List.length_nil, Nat.zero_add] at this; omega
  have HV := Lib.hid (fun fv W (hl : Later w W) hA => rval_any ts (ls.foldl plainA []) day (by omega) hpl (by rw [get_agree]; exact HG) s j v fv W hs hns (hN.later hl) hA)
  rw [get_agree, ← hat] at HV
  unfold RVal at HV
  rw [h0] at HW
  have hd1 : ¬ (day < 0) := by omega
  have hd2 : ¬ (73048 < day) := by omega
  clear hday h0 hs hns hat hpl
  generalize ls.foldl plainA [] = PA at *
  generalize ls.foldl plainB [] = PB at *
  obtain ⟨r, hr⟩ : ∃ r, atV ts (madeFx ls) (j : Nat) day = r := ⟨_, rfl⟩
  rw [hr] at HA HV herr h3
  obtain ⟨re, rv⟩ := r
  simp only at HA HV herr h3
  clear hr
  have hn := herr h3
  subst hn
  have hvr : ∀ E, valR (E, none) = .agg #[.bool false, .int .i64 0, .int .i64 0] := fun _ => rfl
  rw [hvr] at HA
  have ho1 : outN (re, none) = 0 := rfl
  have ho2 : outD (re, none) = 0 := rfl
  rw [ho1, ho2] at HV
  have he1 : (re == 0) = false := by simpa using h3
  have he2 : (re != 0) = true := by simpa using h3
  simp only [Option.isSome_none] at HV
  clear h3 herr hvr ho1 ho2
  obtain ⟨p0, c0, rfl⟩ := hN.form
  obtain ⟨p1, c1, rfl⟩ := hT.form
  clear hN hT hS hok lok HG
  have g1 : ¬ (100 < (ts.length : Int)) := by omega
  have g2 : ¬ (60 < (ls.length : Int)) := by omega
  clear h1 h2
  generalize ts.length = L at *
  generalize ls.length = M at *
  generalize madeFx ls = FX at *
  generalize madeCh ls = CH at *
  go_enter Tryd.func3, Tryd.ntmps3
  go_upto_region 1 with (fail)
  refine wp_opaque (fun w0 hb0 => ?_)
  have hO0 := Own.one hb0
  have hl0 := hb0.un1
  obtain ⟨z0, d0, -⟩ := own_get hO0
  clear hb0
  go_upto_region 7 with (first
    | (go_at_call 9; go_must (refine (HM.out _ hl0).mono ?_; rintro e w1 ⟨p, m1, m2, rfl, hF1, -, -, hb1⟩; have hl1 : Later w w1 := hl0.trans hb1; clear d0 z0; obtain ⟨z0, d0, -⟩ := own_get (hO0.later hb1)))
    | (go_at_call 10; go_must (refine (HA.out _ _ _ _ hl1 hF1).mono ?_; rintro e w2 ⟨rfl, hb2⟩)))
  refine wp_opaque (fun w3 hb3 => ?_)
  have hO3 := Own.one hb3
  have hl3 := hl1.trans (hb2.trans hb3.un1)
  have hOz := hO0.later (hb1.trans (hb2.trans hb3.un1))
  clear HM HA hF1 hb1 hb2 hb3 hO0 hl1 hl0 d0 z0
  obtain ⟨z0, d0, -⟩ := own_get hOz
  obtain ⟨z8, d8, -⟩ := own_get hO3
  go_upto_region 14 with (first
    | (go_at_call 11; go_must (refine (HW.out _ hl3).mono ?_; rintro e w4 ⟨rfl, hb4⟩; have hl4 := hl3.trans hb4; clear d0 z0 d8 z8; obtain ⟨z0, d0, -⟩ := own_get (hOz.later hb4); obtain ⟨z8, d8, -⟩ := own_get (hO3.later hb4)))
    | (go_at_call 12; go_must (refine (HP.out _ hl4).mono ?_; rintro e w5 ⟨fa, fb, rfl, hfa, -, hb5⟩; have hl5 := hl4.trans hb5; have hO5 := hO3.later (hb4.trans hb5); clear d0 z0 d8 z8; obtain ⟨z0, d0, -⟩ := own_get (hOz.later (hb4.trans hb5)); obtain ⟨z8, d8, -⟩ := own_get hO5))
    | (go_at_call 13; go_must (refine (HV.out _ _ hl5 hfa).mono ?_; rintro e w6 ⟨rfl, hb6⟩)))
  refine wp_opaque (fun w7 hb7 => ?_)
  have hl7 := hl5.trans (hb6.trans hb7.un1)
  have hO7 := Own.one hb7
  have hO8 := hO5.later (hb6.trans hb7.un1)
  clear d0 z0 d8 z8 hb7 hb6 hO5 hO3 hOz hb5 hb4 HV HP HW hfa
  obtain ⟨z8, d8, -⟩ := own_get hO8
  obtain ⟨z7, d7, -⟩ := own_get hO7
  go_wp2_with (go_at_call 8; go_must (refine (HAW.out _ hl7).mono ?_; rintro e w9 ⟨rfl, hb9⟩))
  go_ret
  exact ⟨rfl, hl7.trans hb9⟩

set_option maxHeartbeats 3200000 in
theorem tells_none (ts : List Nd) (ls : List Td) (k day : Int) (v lv : Value) (w : World)
    (hok : ∀ x ∈ ts, x.ok) (lok : ∀ x ∈ ls, x.ok) (hd : I64 day) (hS : Shapes w) (hN : IsNodes w v ts) (hT : IsTolds w lv ls) (h1 : ts.length ≤ 100) (h2 : ls.length ≤ 60) (h0 : wrongV ts k = 0) (hday : ¬ (day < 0 ∨ 73048 < day)) (h3 : (atV ts (madeFx ls) k day) = (0, none)) :
    Calls Tryd.prog 3 #[v, lv, .agg #[.int .i64 k, .int .i64 day]] w fun e w' => e = .returned (.bool true) ∧ Later w w' := by
  have HAW := Lib.hid (fun W (hl : Later w W) => vawake_any W (hS.later hl))
  have HM := Lib.hid (fun W (hl : Later w W) => made_any ls (by omega) lok lv W (hT.later hl))
  have HG := getOk_of (fxOk_made ls lok) day
  have HA := Lib.hid (fun p m1 m2 W (hl : Later w W) hF => vat_any ts (madeFx ls) (madeCh ls) p m1 m2 k day v W (by omega) hok hd HG (hS.later hl) (hN.later hl) hF)
  have HW := Lib.hid (fun W (hl : Later w W) => vwrong_any ts (by omega) hok v k W (hN.later hl))
  obtain ⟨j, s, rfl, hs, hns, hat⟩ := atV_fine (fx := madeFx ls) hok h0 hday
  have herr := atV_err (ts := ts) (fx := madeFx ls) (k := (j : Nat)) (day := day)
  have HP := Lib.hid (fun W (hl : Later w W) => plain_any ls (by omega) lok lv W (hT.later hl))
  have hpl : (ls.foldl plainA []).length ≤ 100002 := by have := plain_length ls []; simp only [List.length_nil, Nat.zero_add] at this; omega
  have HV := Lib.hid (fun fv W (hl : Later w W) hA => rval_any ts (ls.foldl plainA []) day (by omega) hpl (by rw [get_agree]; exact HG) s j v fv W hs hns (hN.later hl) hA)
  rw [get_agree, ← hat] at HV
  unfold RVal at HV
  rw [h0] at HW
  have hd1 : ¬ (day < 0) := by omega
  have hd2 : ¬ (73048 < day) := by omega
  clear hday h0 hs hns hat hpl
  generalize ls.foldl plainA [] = PA at *
  generalize ls.foldl plainB [] = PB at *
  obtain ⟨r, hr⟩ : ∃ r, atV ts (madeFx ls) (j : Nat) day = r := ⟨_, rfl⟩
  rw [hr] at HA HV herr h3
  obtain ⟨re, rv⟩ := r
  clear hr
  obtain ⟨rfl, rfl⟩ := Prod.mk.inj h3
  have hvr : ∀ E, valR (E, none) = .agg #[.bool false, .int .i64 0, .int .i64 0] := fun _ => rfl
  rw [hvr] at HA
  have ho1 : outN (0, none) = 0 := rfl
  have ho2 : outD (0, none) = 0 := rfl
  rw [ho1, ho2] at HV
  simp only [Option.isSome_none] at HA HV
  clear h3 herr hvr ho1 ho2
  obtain ⟨p0, c0, rfl⟩ := hN.form
  obtain ⟨p1, c1, rfl⟩ := hT.form
  clear hN hT hS hok lok HG
  have g1 : ¬ (100 < (ts.length : Int)) := by omega
  have g2 : ¬ (60 < (ls.length : Int)) := by omega
  clear h1 h2
  generalize ts.length = L at *
  generalize ls.length = M at *
  generalize madeFx ls = FX at *
  generalize madeCh ls = CH at *
  go_enter Tryd.func3, Tryd.ntmps3
  go_upto_region 1 with (fail)
  refine wp_opaque (fun w0 hb0 => ?_)
  have hO0 := Own.one hb0
  have hl0 := hb0.un1
  obtain ⟨z0, d0, -⟩ := own_get hO0
  clear hb0
  go_upto_region 7 with (first
    | (go_at_call 9; go_must (refine (HM.out _ hl0).mono ?_; rintro e w1 ⟨p, m1, m2, rfl, hF1, -, -, hb1⟩; have hl1 : Later w w1 := hl0.trans hb1; clear d0 z0; obtain ⟨z0, d0, -⟩ := own_get (hO0.later hb1)))
    | (go_at_call 10; go_must (refine (HA.out _ _ _ _ hl1 hF1).mono ?_; rintro e w2 ⟨rfl, hb2⟩)))
  refine wp_opaque (fun w3 hb3 => ?_)
  have hO3 := Own.one hb3
  have hl3 := hl1.trans (hb2.trans hb3.un1)
  have hOz := hO0.later (hb1.trans (hb2.trans hb3.un1))
  clear HM HA hF1 hb1 hb2 hb3 hO0 hl1 hl0 d0 z0
  obtain ⟨z0, d0, -⟩ := own_get hOz
  obtain ⟨z8, d8, -⟩ := own_get hO3
  go_upto_region 14 with (first
    | (go_at_call 11; go_must (refine (HW.out _ hl3).mono ?_; rintro e w4 ⟨rfl, hb4⟩; have hl4 := hl3.trans hb4; clear d0 z0 d8 z8; obtain ⟨z0, d0, -⟩ := own_get (hOz.later hb4); obtain ⟨z8, d8, -⟩ := own_get (hO3.later hb4)))
    | (go_at_call 12; go_must (refine (HP.out _ hl4).mono ?_; rintro e w5 ⟨fa, fb, rfl, hfa, -, hb5⟩; have hl5 := hl4.trans hb5; have hO5 := hO3.later (hb4.trans hb5); clear d0 z0 d8 z8; obtain ⟨z0, d0, -⟩ := own_get (hOz.later (hb4.trans hb5)); obtain ⟨z8, d8, -⟩ := own_get hO5))
    | (go_at_call 13; go_must (refine (HV.out _ _ hl5 hfa).mono ?_; rintro e w6 ⟨rfl, hb6⟩)))
  refine wp_opaque (fun w7 hb7 => ?_)
  have hl7 := hl5.trans (hb6.trans hb7.un1)
  have hO7 := Own.one hb7
  have hO8 := hO5.later (hb6.trans hb7.un1)
  clear d0 z0 d8 z8 hb7 hb6 hO5 hO3 hOz hb5 hb4 HV HP HW hfa
  obtain ⟨z8, d8, -⟩ := own_get hO8
  obtain ⟨z7, d7, -⟩ := own_get hO7
  go_wp2_with (go_at_call 8; go_must (refine (HAW.out _ hl7).mono ?_; rintro e w9 ⟨rfl, hb9⟩))
  go_ret
  exact ⟨rfl, hl7.trans hb9⟩

set_option maxHeartbeats 3200000 in
theorem tells_some (ts : List Nd) (ls : List Td) (k day : Int) (v lv : Value) (w : World)
    (hok : ∀ x ∈ ts, x.ok) (lok : ∀ x ∈ ls, x.ok) (hd : I64 day) (hS : Shapes w) (hN : IsNodes w v ts) (hT : IsTolds w lv ls) (h1 : ts.length ≤ 100) (h2 : ls.length ≤ 60) (n m : Int) (h0 : wrongV ts k = 0) (hday : ¬ (day < 0 ∨ 73048 < day)) (h3 : (atV ts (madeFx ls) k day) = (0, some (n, m))) :
    Calls Tryd.prog 3 #[v, lv, .agg #[.int .i64 k, .int .i64 day]] w fun e w' => e = .returned (.bool true) ∧ Later w w' := by
  have HAW := Lib.hid (fun W (hl : Later w W) => vawake_any W (hS.later hl))
  have HM := Lib.hid (fun W (hl : Later w W) => made_any ls (by omega) lok lv W (hT.later hl))
  have HG := getOk_of (fxOk_made ls lok) day
  have HA := Lib.hid (fun p m1 m2 W (hl : Later w W) hF => vat_any ts (madeFx ls) (madeCh ls) p m1 m2 k day v W (by omega) hok hd HG (hS.later hl) (hN.later hl) hF)
  have HW := Lib.hid (fun W (hl : Later w W) => vwrong_any ts (by omega) hok v k W (hN.later hl))
  obtain ⟨j, s, rfl, hs, hns, hat⟩ := atV_fine (fx := madeFx ls) hok h0 hday
  have herr := atV_err (ts := ts) (fx := madeFx ls) (k := (j : Nat)) (day := day)
  have HP := Lib.hid (fun W (hl : Later w W) => plain_any ls (by omega) lok lv W (hT.later hl))
  have hpl : (ls.foldl plainA []).length ≤ 100002 := by have := plain_length ls []; simp only [List.length_nil, Nat.zero_add] at this; omega
  have HV := Lib.hid (fun fv W (hl : Later w W) hA => rval_any ts (ls.foldl plainA []) day (by omega) hpl (by rw [get_agree]; exact HG) s j v fv W hs hns (hN.later hl) hA)
  rw [get_agree, ← hat] at HV
  unfold RVal at HV
  rw [h0] at HW
  have hd1 : ¬ (day < 0) := by omega
  have hd2 : ¬ (73048 < day) := by omega
  clear hday h0 hs hns hat hpl
  generalize ls.foldl plainA [] = PA at *
  generalize ls.foldl plainB [] = PB at *
  obtain ⟨r, hr⟩ : ∃ r, atV ts (madeFx ls) (j : Nat) day = r := ⟨_, rfl⟩
  rw [hr] at HA HV herr h3
  obtain ⟨re, rv⟩ := r
  clear hr
  obtain ⟨rfl, rfl⟩ := Prod.mk.inj h3
  have hvr : valR (0, some (n, m)) = .agg #[.bool true, .int .i64 n, .int .i64 m] := rfl
  rw [hvr] at HA
  have ho1 : outN (0, some (n, m)) = n := rfl
  have ho2 : outD (0, some (n, m)) = m := rfl
  rw [ho1, ho2] at HV
  simp only [Option.isSome_some] at HA HV
  clear h3 herr hvr ho1 ho2
  obtain ⟨p0, c0, rfl⟩ := hN.form
  obtain ⟨p1, c1, rfl⟩ := hT.form
  clear hN hT hS hok lok HG
  have g1 : ¬ (100 < (ts.length : Int)) := by omega
  have g2 : ¬ (60 < (ls.length : Int)) := by omega
  clear h1 h2
  generalize ts.length = L at *
  generalize ls.length = M at *
  generalize madeFx ls = FX at *
  generalize madeCh ls = CH at *
  go_enter Tryd.func3, Tryd.ntmps3
  go_upto_region 1 with (fail)
  refine wp_opaque (fun w0 hb0 => ?_)
  have hO0 := Own.one hb0
  have hl0 := hb0.un1
  obtain ⟨z0, d0, -⟩ := own_get hO0
  clear hb0
  go_upto_region 7 with (first
    | (go_at_call 9; go_must (refine (HM.out _ hl0).mono ?_; rintro e w1 ⟨p, m1, m2, rfl, hF1, -, -, hb1⟩; have hl1 : Later w w1 := hl0.trans hb1; clear d0 z0; obtain ⟨z0, d0, -⟩ := own_get (hO0.later hb1)))
    | (go_at_call 10; go_must (refine (HA.out _ _ _ _ hl1 hF1).mono ?_; rintro e w2 ⟨rfl, hb2⟩)))
  refine wp_opaque (fun w3 hb3 => ?_)
  have hO3 := Own.one hb3
  have hl3 := hl1.trans (hb2.trans hb3.un1)
  have hOz := hO0.later (hb1.trans (hb2.trans hb3.un1))
  clear HM HA hF1 hb1 hb2 hb3 hO0 hl1 hl0 d0 z0
  obtain ⟨z0, d0, -⟩ := own_get hOz
  obtain ⟨z8, d8, -⟩ := own_get hO3
  go_upto_region 14 with (first
    | (go_at_call 11; go_must (refine (HW.out _ hl3).mono ?_; rintro e w4 ⟨rfl, hb4⟩; have hl4 := hl3.trans hb4; clear d0 z0 d8 z8; obtain ⟨z0, d0, -⟩ := own_get (hOz.later hb4); obtain ⟨z8, d8, -⟩ := own_get (hO3.later hb4)))
    | (go_at_call 12; go_must (refine (HP.out _ hl4).mono ?_; rintro e w5 ⟨fa, fb, rfl, hfa, -, hb5⟩; have hl5 := hl4.trans hb5; have hO5 := hO3.later (hb4.trans hb5); clear d0 z0 d8 z8; obtain ⟨z0, d0, -⟩ := own_get (hOz.later (hb4.trans hb5)); obtain ⟨z8, d8, -⟩ := own_get hO5))
    | (go_at_call 13; go_must (refine (HV.out _ _ hl5 hfa).mono ?_; rintro e w6 ⟨rfl, hb6⟩)))
  refine wp_opaque (fun w7 hb7 => ?_)
  have hl7 := hl5.trans (hb6.trans hb7.un1)
  have hO7 := Own.one hb7
  have hO8 := hO5.later (hb6.trans hb7.un1)
  clear d0 z0 d8 z8 hb7 hb6 hO5 hO3 hOz hb5 hb4 HV HP HW hfa
  obtain ⟨z8, d8, -⟩ := own_get hO8
  obtain ⟨z7, d7, -⟩ := own_get hO7
  go_wp2_with (go_at_call 8; go_must (refine (HAW.out _ hl7).mono ?_; rintro e w9 ⟨rfl, hb9⟩))
  go_ret
  exact ⟨rfl, hl7.trans hb9⟩

theorem tells_any (ts : List Nd) (ls : List Td) (k day : Int) (v lv : Value) (w : World)
    (hok : ∀ x ∈ ts, x.ok) (lok : ∀ x ∈ ls, x.ok) (hd : I64 day) (hS : Shapes w) (hN : IsNodes w v ts) (hT : IsTolds w lv ls) :
    Calls Tryd.prog 3 #[v, lv, .agg #[.int .i64 k, .int .i64 day]] w fun e w' => e = .returned (.bool true) ∧ Later w w' := by
  by_cases h1 : ts.length ≤ 100
  · by_cases h2 : ls.length ≤ 60
    · by_cases h0 : wrongV ts k = 0
      · by_cases hday : day < 0 ∨ 73048 < day
        · by_cases h3 : day < 0
          · exact tells_early ts ls k day v lv w hok lok hd hS hN hT h1 h2 h0 h3
          · exact tells_late ts ls k day v lv w hok lok hd hS hN hT h1 h2 h0 (by omega)
        · by_cases h3 : (atV ts (madeFx ls) k day).1 = 0
          · cases h4 : (atV ts (madeFx ls) k day).2 with
            | none => exact tells_none ts ls k day v lv w hok lok hd hS hN hT h1 h2 h0 hday (Prod.ext h3 h4)
            | some q => obtain ⟨n, m⟩ := q; exact tells_some ts ls k day v lv w hok lok hd hS hN hT h1 h2 n m h0 hday (Prod.ext h3 h4)
          · exact tells_over ts ls k day v lv w hok lok hd hS hN hT h1 h2 h0 hday h3
      · exact tells_wrong ts ls k day v lv w hok lok hd hS hN hT h1 h2 h0
    · exact tells_told ts ls k day v lv w hS hN hT h1 (by omega)
  · exact tells_far ts ls k day v lv w hS hN hT (by omega)
end Go.Proofs.YtkpadahpepeaoaaDoor
