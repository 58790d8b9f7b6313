/- ValueStays: its walk -/
import Derived.Test.YtkpadahpepeaoaaDoorSStaysP
set_option linter.all false
namespace Go.Proofs.YtkpadahpepeaoaaDoor
open Go.RowKit
set_option maxRecDepth 100000

theorem gotF_is (fx : FxL) (k d : Int) : (gotF fx k d).2.2 = (getA fx (k, d)).isSome := by unfold gotF; cases getA fx (k, d) <;> rfl
theorem more_yes {s : FxL × ChL} {x : Td} (h : (getA s.1 (x.k, x.d)).isSome = true) : more s x = s := by unfold more moreFx moreCh; rw [if_pos h, if_pos h]
theorem more_no {s : FxL × ChL} {x : Td} (h : (getA s.1 (x.k, x.d)).isSome = false) : more s x = (tellFx s.1 x, tellCh s.2 x) := by unfold more moreFx moreCh; rw [if_neg (by rw [h]; simp), if_neg (by rw [h]; simp)]
/-- How the two results stand to one another. -/
def TwoR (re : Int) (ri : Bool) (on od : Int) (re' : Int) (ri' : Bool) (on' od' : Int) : Prop :=
  (re ≠ 0 ∧ ri = false ∧ on = 0 ∧ od = 0 ∧ re' = re ∧ ri' = false ∧ on' = 0 ∧ od' = 0) ∨ (re = 0 ∧ ri = true ∧ re' = 0 ∧ ri' = true ∧ on' = on ∧ od' = od) ∨
  (re = 0 ∧ ri = false ∧ on = 0 ∧ od = 0 ∧ re' = 0) ∨ (re = 0 ∧ ri = false ∧ on = 0 ∧ od = 0 ∧ re' = 11 ∧ ri' = false ∧ on' = 0 ∧ od' = 0)
theorem twoR_of {r r' : Int × Option Q2} (h0 : r.1 ≠ 0 → r.2 = none) (h1 : r.1 ≠ 0 → r' = (r.1, none)) (h2 : ∀ q, r = (0, some q) → r' = (0, some q)) (h3 : r = (0, none) → r'.1 = 0 ∨ r' = (11, none)) :
    TwoR r.1 r.2.isSome (outN r) (outD r) r'.1 r'.2.isSome (outN r') (outD r') := by
  obtain ⟨e, v⟩ := r
  by_cases he : e = 0
  · subst he
    cases v with
    | some q => have := h2 q rfl; subst this; exact .inr (.inl ⟨rfl, rfl, rfl, rfl, rfl, rfl⟩)
    | none =>
      rcases h3 rfl with h | h
      · exact .inr (.inr (.inl ⟨rfl, rfl, rfl, rfl, h⟩))
      · subst h; exact .inr (.inr (.inr ⟨rfl, rfl, rfl, rfl, rfl, rfl, rfl, rfl⟩))
  · have h := h0 he
    simp only at h
    subst h
    have h4 := h1 he
    subst h4
    exact .inl ⟨he, rfl, rfl, rfl, rfl, rfl, rfl, rfl⟩


set_option maxHeartbeats 1600000 in
theorem stays_far (ts : List Nd) (l1 l2 : List Td) (k day : Int) (v u1 u2 : Value) (w : World) (hS : Shapes w) (hN : IsNodes w v ts) (hT : IsTolds w u1 l1) (hU : IsTolds w u2 l2) (h1 : 100 < ts.length) :
    Calls Tryd.prog 4 #[v, .agg #[u1, u2], .agg #[.int .i64 k, .int .i64 day]] w fun e w' => e = .returned (.bool true) ∧ Later w w' := by
  have HAW := Lib.hid (fun W (hl : Later w W) => vawake_any W (hS.later hl))
  obtain ⟨p0, c0, rfl⟩ := hN.form
  obtain ⟨p1, c1, rfl⟩ := hT.form
  obtain ⟨p2, c2, rfl⟩ := hU.form
  generalize ts.length = L at *
  generalize l1.length = M at *
  generalize l2.length = N at *
  clear hN hT hU hS
  have g1 : 100 < (L : Int) := by omega
  clear h1
  go_enter Tryd.func4, Tryd.ntmps4
  go_wp2_with (go_at_call 8; go_must (refine (HAW.out _ (by repeat (first | with_reducible exact Later.refl _ | with_reducible assumption | with_reducible refine Later.ofdrew ?_ | with_reducible refine Later.ofdrewN ?_ | with_reducible refine Later.setCell ?_ ?_ _ | with_reducible refine Later.alloc ?_ _ | with_reducible refine Later.drewN ?_ _ | with_reducible refine Later.drew ?_ | (with_reducible refine Later.trans ?_ (by assumption)) | (simp only [World.size_setCell, World.size_alloc, World.heap_drewN]; omega) | (simp; done) | (simp; omega)))).mono ?_; rintro e w9 ⟨rfl, hb9⟩))
  go_ret
  exact ⟨rfl, by repeat (first | with_reducible exact Later.refl _ | with_reducible assumption | with_reducible refine Later.ofdrew ?_ | with_reducible refine Later.ofdrewN ?_ | with_reducible refine Later.setCell ?_ ?_ _ | with_reducible refine Later.alloc ?_ _ | with_reducible refine Later.drewN ?_ _ | with_reducible refine Later.drew ?_ | (with_reducible refine Later.trans ?_ (by assumption)) | (simp only [World.size_setCell, World.size_alloc, World.heap_drewN]; omega) | (simp; done) | (simp; omega))⟩

set_option maxHeartbeats 1600000 in
theorem stays_one (ts : List Nd) (l1 l2 : List Td) (k day : Int) (v u1 u2 : Value) (w : World) (hS : Shapes w) (hN : IsNodes w v ts) (hT : IsTolds w u1 l1) (hU : IsTolds w u2 l2) (h1 : ts.length ≤ 100) (h2 : 40 < l1.length) :
    Calls Tryd.prog 4 #[v, .agg #[u1, u2], .agg #[.int .i64 k, .int .i64 day]] w fun e w' => e = .returned (.bool true) ∧ Later w w' := by
  have HAW := Lib.hid (fun W (hl : Later w W) => vawake_any W (hS.later hl))
  obtain ⟨p0, c0, rfl⟩ := hN.form
  obtain ⟨p1, c1, rfl⟩ := hT.form
  obtain ⟨p2, c2, rfl⟩ := hU.form
  generalize ts.length = L at *
  generalize l1.length = M at *
  generalize l2.length = N at *
  clear hN hT hU hS
  have g1 : ¬ (100 < (L : Int)) := by omega
  have g2 : 40 < (M : Int) := by omega
  clear h1 h2
  go_enter Tryd.func4, Tryd.ntmps4
  go_wp2_with (go_at_call 8; go_must (refine (HAW.out _ (by repeat (first | with_reducible exact Later.refl _ | with_reducible assumption | with_reducible refine Later.ofdrew ?_ | with_reducible refine Later.ofdrewN ?_ | with_reducible refine Later.setCell ?_ ?_ _ | with_reducible refine Later.alloc ?_ _ | with_reducible refine Later.drewN ?_ _ | with_reducible refine Later.drew ?_ | (with_reducible refine Later.trans ?_ (by assumption)) | (simp only [World.size_setCell, World.size_alloc, World.heap_drewN]; omega) | (simp; done) | (simp; omega)))).mono ?_; rintro e w9 ⟨rfl, hb9⟩))
  go_ret
  exact ⟨rfl, by repeat (first | with_reducible exact Later.refl _ | with_reducible assumption | with_reducible refine Later.ofdrew ?_ | with_reducible refine Later.ofdrewN ?_ | with_reducible refine Later.setCell ?_ ?_ _ | with_reducible refine Later.alloc ?_ _ | with_reducible refine Later.drewN ?_ _ | with_reducible refine Later.drew ?_ | (with_reducible refine Later.trans ?_ (by assumption)) | (simp only [World.size_setCell, World.size_alloc, World.heap_drewN]; omega) | (simp; done) | (simp; omega))⟩

set_option maxHeartbeats 1600000 in
theorem stays_two (ts : List Nd) (l1 l2 : List Td) (k day : Int) (v u1 u2 : Value) (w : World) (hS : Shapes w) (hN : IsNodes w v ts) (hT : IsTolds w u1 l1) (hU : IsTolds w u2 l2) (h1 : ts.length ≤ 100) (h2 : l1.length ≤ 40) (h3 : 40 < l2.length) :
    Calls Tryd.prog 4 #[v, .agg #[u1, u2], .agg #[.int .i64 k, .int .i64 day]] w fun e w' => e = .returned (.bool true) ∧ Later w w' := by
  have HAW := Lib.hid (fun W (hl : Later w W) => vawake_any W (hS.later hl))
  obtain ⟨p0, c0, rfl⟩ := hN.form
  obtain ⟨p1, c1, rfl⟩ := hT.form
  obtain ⟨p2, c2, rfl⟩ := hU.form
  generalize ts.length = L at *
  generalize l1.length = M at *
  generalize l2.length = N at *
  clear hN hT hU hS
  have g1 : ¬ (100 < (L : Int)) := by omega
  have g2 : ¬ (40 < (M : Int)) := by omega
  have g3 : 40 < (N : Int) := by omega
  clear h1 h2 h3
  go_enter Tryd.func4, Tryd.ntmps4
  go_wp2_with (go_at_call 8; go_must (refine (HAW.out _ (by repeat (first | with_reducible exact Later.refl _ | with_reducible assumption | with_reducible refine Later.ofdrew ?_ | with_reducible refine Later.ofdrewN ?_ | with_reducible refine Later.setCell ?_ ?_ _ | with_reducible refine Later.alloc ?_ _ | with_reducible refine Later.drewN ?_ _ | with_reducible refine Later.drew ?_ | (with_reducible refine Later.trans ?_ (by assumption)) | (simp only [World.size_setCell, World.size_alloc, World.heap_drewN]; omega) | (simp; done) | (simp; omega)))).mono ?_; rintro e w9 ⟨rfl, hb9⟩))
  go_ret
  exact ⟨rfl, by repeat (first | with_reducible exact Later.refl _ | with_reducible assumption | with_reducible refine Later.ofdrew ?_ | with_reducible refine Later.ofdrewN ?_ | with_reducible refine Later.setCell ?_ ?_ _ | with_reducible refine Later.alloc ?_ _ | with_reducible refine Later.drewN ?_ _ | with_reducible refine Later.drew ?_ | (with_reducible refine Later.trans ?_ (by assumption)) | (simp only [World.size_setCell, World.size_alloc, World.heap_drewN]; omega) | (simp; done) | (simp; omega))⟩

set_option maxHeartbeats 6400000 in
theorem stays_near (ts : List Nd) (l1 l2 : List Td) (k day : Int) (v u1 u2 : Value) (w : World) (hok : ∀ x ∈ ts, x.ok) (lok : ∀ x ∈ l1, x.ok) (lok' : ∀ x ∈ l2, x.ok) (hd : I64 day)
    (hS : Shapes w) (hN : IsNodes w v ts) (hT : IsTolds w u1 l1) (hU : IsTolds w u2 l2) (h1 : ts.length ≤ 100) (h2 : l1.length ≤ 40) (h3 : l2.length ≤ 40) :
    Calls Tryd.prog 4 #[v, .agg #[u1, u2], .agg #[.int .i64 k, .int .i64 day]] w fun e w' => e = .returned (.bool true) ∧ Later w w' := by
  have HAW := Lib.hid (fun W (hl : Later w W) => vawake_any W (hS.later hl))
  have HM := Lib.hid (fun W (hl : Later w W) => made_any l1 (by omega) lok u1 W (hT.later hl))
  have G1 := made_good l1 lok
  obtain ⟨G2, hk2⟩ := more_all l2 lok' (madeFx l1, madeCh l1) G1
  have g1 := getOk_of G1.ok day
  have g2 := getOk_of G2.ok day
  obtain ⟨s1, s2, s3⟩ := atV_stays (k := k) hok g1 g2 (fun j q hq => hk2 (j, day) q hq)
  have HC := Lib.hid (twoR_of (atV_err (ts := ts) (fx := madeFx l1) (k := k) (day := day)) s1 s2 s3)
  have HA := Lib.hid (fun p m1 m2 W (hl : Later w W) hF => vat_any ts (madeFx l1) (madeCh l1) p m1 m2 k day v W (by omega) hok hd g1 (hS.later hl) (hN.later hl) hF)
  have HB := Lib.hid (fun p m1 m2 W (hl : Later w W) hF => vat_any ts (l2.foldl more (madeFx l1, madeCh l1)).1 (l2.foldl more (madeFx l1, madeCh l1)).2 p m1 m2 k day v W (by omega) hok hd g2 (hS.later hl) (hN.later hl) hF)
  have HX := Lib.hid (fun (j : Nat) (h : j < l2.length) p m1 m2 fx ch W hF => fixing_any p m1 m2 fx ch (l2[j]).k (l2[j]).d W hF (lok' _ (List.getElem_mem h)).1 (lok' _ (List.getElem_mem h)).2.1)
  have HTL := Lib.hid (fun (j : Nat) (h : j < l2.length) p m1 m2 fx ch W hF => tell_any p m1 m2 fx ch l2[j] W hF (lok' _ (List.getElem_mem h)))
  have HU := Lib.hid hU
  clear s1 s2 s3 hk2 G2 G1 g1 g2
  obtain ⟨p0, c0, rfl⟩ := hN.form
  obtain ⟨p1, c1, rfl⟩ := hT.form
  obtain ⟨p2, c2, rfl⟩ := hU.form
  clear hN hT hU hS hok lok lok'
  have g1 : ¬ (100 < (ts.length : Int)) := by omega
  have g2 : ¬ (40 < (l1.length : Int)) := by omega
  have g3 : ¬ (40 < (l2.length : Int)) := by omega
  clear h1 h2
  obtain ⟨r, hr⟩ : ∃ r, atV ts (madeFx l1) k day = r := ⟨_, rfl⟩
  obtain ⟨r', hr'⟩ : ∃ r, atV ts (l2.foldl more (madeFx l1, madeCh l1)).1 k day = r := ⟨_, rfl⟩
  rw [hr] at HA HC
  rw [hr'] at HB HC
  clear hr hr'
  unfold valR at HA HB
  generalize ts.length = L at *
  generalize l1.length = M at *
  generalize madeFx l1 = FX at *
  generalize madeCh l1 = CH at *
  obtain ⟨N, hNL⟩ : ∃ N, l2.length = N := ⟨_, rfl⟩
  rw [hNL] at g3 HU h3 ⊢
  have HNL := Lib.hid hNL
  clear hNL
  generalize r.1 = re at *
  generalize r.2.isSome = ri at *
  generalize outN r = on at *
  generalize outD r = od at *
  generalize r'.1 = re' at *
  generalize r'.2.isSome = ri' at *
  generalize outN r' = on' at *
  generalize outD r' = od' at *
  go_enter Tryd.func4, Tryd.ntmps4
  go_upto_region 1 with (fail)
  refine wp_opaque (fun w0 hb0 => ?_)
  have hO := Own.two hb0
  have hO0 : Own w0 [(w.heap.size, #[.slice p1 M c1, .slice p2 N c2])] := ⟨hO.1, trivial⟩
  have hO1 : Own w0 [(w.heap.size + 1, #[.int .i64 k, .int .i64 day])] := hO.2
  have hl0 := hb0.un1.un1
  obtain ⟨z0, d0, -⟩ := own_get hO0
  obtain ⟨z1, d1, -⟩ := own_get hO1
  clear hb0 hO
  go_upto_region 7 with (first
    | (go_at_call 9; go_must (refine (HM.out _ hl0).mono ?_; rintro e w1 ⟨p, m1, m2, rfl, hF1, ge1, ge2, hb1⟩; have hl1 : Later w w1 := hl0.trans hb1; clear d0 z0 d1 z1; obtain ⟨z0, d0, -⟩ := own_get (hO0.later hb1); obtain ⟨z1, d1, -⟩ := own_get (hO1.later hb1)))
    | (go_at_call 10; go_must (refine (HA.out _ _ _ _ hl1 hF1).mono ?_; rintro e w2 ⟨rfl, hb2⟩)))
  refine wp_opaque (fun w3 hb3 => ?_)
  have hO3 := Own.one hb3
  have hl3 := hb1.trans (hb2.trans hb3.un1)
  have hF3 := hF1.later (hb2.trans hb3.un1)
  have lt1 := hF3.x1.lt
  have lt2 := hF3.x2.lt
  have n1 : m1 < w2.heap.size := (hF1.later hb2).x1.lt
  have n2 : m2 < w2.heap.size := (hF1.later hb2).x2.lt
  obtain ⟨A, hA⟩ : ∃ A, w2.heap.size = A := ⟨_, rfl⟩
  rw [hA] at hO3 n1 n2
  rw [hA]
  have HF3 := Lib.hid hF3
  obtain ⟨_, e3, -⟩ := own_get hO3
  have e30 := e3 0
  have e31 := e3 1
  have e32 := e3 2
  simp only [List.getElem?_toArray, List.getElem?_cons_zero, List.getElem?_cons_succ] at e30 e31 e32
  clear hb3 hb2 hb1 hF1 hF3 HM HA d0 z0 d1 z1 hA lt1 lt2 hl1 hO3 e3
  go_wp2
  go_loopw [10] (fun s10 wr => ∃ j : Nat, j ≤ N ∧ s10 = .int .i64 j ∧ Hid (FactsAt wr p m1 m2 ((l2.take j).foldl more (FX, CH)).1 ((l2.take j).foldl more (FX, CH)).2) ∧ Later w0 wr ∧ wr.cell? ⟨A, 0, none⟩ = some (.bool ri) ∧ wr.cell? ⟨A, 1, none⟩ = some (.int .i64 on) ∧ wr.cell? ⟨A, 2, none⟩ = some (.int .i64 od)) (fun s10 _ => N - (intOf s10).toNat)
  case atStart => exact ⟨0, Nat.zero_le _, rfl, HF3, hl3, e30, e31, e32⟩
  case round =>
    obtain ⟨j, hj, rfl, hF, hlat, f0, f1, f2⟩ := hrel
    clear e30 e31 e32 HF3 hl3
    have zA := World.block_lt_of_cell? _ _ f0
    obtain ⟨z0, d0, -⟩ := own_get (hO0.later hlat)
    obtain ⟨z1, d1, -⟩ := own_get (hO1.later hlat)
    by_cases hlt : j < N
    · have hjl : j < l2.length := by rw [HNL.out]; exact hlt
      obtain ⟨b, o, cp2, hv, hb, gg⟩ := HU.out.full (i := j) hjl
      rw [HNL.out] at hv
      cases hv
      have hwl := hl0.trans hlat
      have g0 := ((bcell hwl).1 _ _ hb).trans (gg 0 (by omega))
      have g1 := ((bcell hwl).1 _ _ hb).trans (gg 1 (by omega))
      have g2 := ((bcell hwl).1 _ _ hb).trans (gg 2 (by omega))
      have g3 := ((bcell hwl).1 _ _ hb).trans (gg 3 (by omega))
      have g4 := ((bcell hwl).1 _ _ hb).trans (gg 4 (by omega))
      have g5 := ((bcell hwl).1 _ _ hb).trans (gg 5 (by omega))
      have ht : l2.take (j + 1) = l2.take j ++ [l2[j]] := List.take_succ_eq_append_getElem hjl
      have hT1 : (l2.take (j + 1)).foldl more (FX, CH) = more ((l2.take j).foldl more (FX, CH)) l2[j] := by rw [ht, List.foldl_append]; rfl
      have HFJ := Lib.hid (fun W (hl : Later wr W) => HX.out j hjl p m1 m2 _ _ W (hF.out.later hl))
      have HTJ := Lib.hid (fun W (hl : Later wr W) => HTL.out j hjl p m1 m2 _ _ W (hF.out.later hl))
      obtain ⟨sj, hsj⟩ : ∃ s, (l2.take j).foldl more (FX, CH) = s := ⟨_, rfl⟩
      rw [hsj] at hT1 HFJ HTJ hF
      have hgi := gotF_is sj.1 (l2[j]).k (l2[j]).d
      have hmy := more_yes (s := sj) (x := l2[j])
      have hmn := more_no (s := sj) (x := l2[j])
      rw [← hgi] at hmy hmn
      obtain ⟨gt, hgt⟩ : ∃ g, gotF sj.1 (l2[j]).k (l2[j]).d = g := ⟨_, rfl⟩
      rw [hgt] at HFJ hmy hmn
      have HT1 := Lib.hid hT1
      clear hT1 hsj hgi hgt ht HX HTL gg
      unfold Td.val at HTJ
      simp only [Td.cell, Nat.add_zero] at g0 g1 g2 g3 g4 g5
      have HO := Lib.hid (own_alloc wr #[.bool (l2[j]).c, .int .i64 (l2[j]).k, .int .i64 (l2[j]).d, .int .i64 (l2[j]).n, .int .i64 (l2[j]).m, .int .i64 (l2[j]).p] 44)
      obtain ⟨ga, gb, gc⟩ := gt
      simp only at HFJ hmy hmn
      have hlw := hwl
      have HMY := Lib.hid hmy
      have HMN := Lib.hid hmn
      clear hmy hmn
      have HFW := hF
      generalize hX : l2[j] = X at *
      clear hX
      obtain ⟨xc, xk, xd, xn, xm, xp⟩ := X
      simp only at g0 g1 g2 g3 g4 g5 HFJ HTJ HO
      clear hF
      cases gc
      · have hmore := HMN.out rfl
        go_wp2_with (first
          | (go_at_call 14; go_must (refine (HFJ.out _ (by repeat (first | with_reducible exact Later.refl _ | with_reducible assumption | with_reducible refine Later.ofdrew ?_ | with_reducible refine Later.ofdrewN ?_ | with_reducible refine Later.setCell ?_ ?_ _ | with_reducible refine Later.alloc ?_ _ | with_reducible refine Later.drewN ?_ _ | with_reducible refine Later.drew ?_ | (with_reducible refine Later.trans ?_ (by assumption)) | (simp only [World.size_setCell, World.size_alloc, World.heap_drewN]; omega) | (simp; done) | (simp; omega)))).mono ?_; rintro e w4 ⟨rfl, hb4⟩; have hl4 : Later wr w4 := Later.un1 hb4; obtain ⟨y4, c4, -⟩ := own_get (HO.out.later hb4); have i0 := c4 0; have i1 := c4 1; have i2 := c4 2; have i3 := c4 3; have i4 := c4 4; have i5 := c4 5; simp only [List.getElem?_toArray, List.getElem?_cons_zero, List.getElem?_cons_succ] at i0 i1 i2 i3 i4 i5; clear c4))
          | (go_at_call 15; go_must (refine (HTJ.out _ (by repeat (first | with_reducible exact Later.refl _ | with_reducible assumption | with_reducible refine Later.ofdrew ?_ | with_reducible refine Later.ofdrewN ?_ | with_reducible refine Later.setCell ?_ ?_ _ | with_reducible refine Later.alloc ?_ _ | with_reducible refine Later.drewN ?_ _ | with_reducible refine Later.drew ?_ | (with_reducible refine Later.trans ?_ (by assumption)) | (simp only [World.size_setCell, World.size_alloc, World.heap_drewN]; omega) | (simp; done) | (simp; omega)))).mono ?_; rintro e w5 ⟨rfl, hF5, mm, hmm, hg5⟩)))
        go_roundw
        case rel =>
          have hne : some A ≠ some mm := by intro e; cases e; rcases hmm with h | h <;> omega
          have hl5 : Later wr _ := (by repeat (first | with_reducible exact Later.refl _ | with_reducible assumption | with_reducible refine Later.ofdrew ?_ | with_reducible refine Later.ofdrewN ?_ | with_reducible refine Later.setCell ?_ ?_ _ | with_reducible refine Later.alloc ?_ _ | with_reducible refine Later.drewN ?_ _ | with_reducible refine Later.drew ?_ | (with_reducible refine Later.trans ?_ (by assumption)) | (simp only [World.size_setCell, World.size_alloc, World.heap_drewN]; omega) | (simp; done) | (simp; omega)) : Later wr _)
          exact ⟨j + 1, by omega, by go_num, Lib.hid (by rw [HT1.out, hmore]; exact hF5), Later.grown (hlat.trans (by repeat (first | with_reducible exact Later.refl _ | with_reducible assumption | with_reducible refine Later.ofdrew ?_ | with_reducible refine Later.ofdrewN ?_ | with_reducible refine Later.setCell ?_ ?_ _ | with_reducible refine Later.alloc ?_ _ | with_reducible refine Later.drewN ?_ _ | with_reducible refine Later.drew ?_ | (with_reducible refine Later.trans ?_ (by assumption)) | (simp only [World.size_setCell, World.size_alloc, World.heap_drewN]; omega) | (simp; done) | (simp; omega)))) hg5 (fun q e => by cases e; rcases hmm with rfl | rfl <;> omega), grown_cell hg5 (((bcell (by repeat (first | with_reducible exact Later.refl _ | with_reducible assumption | with_reducible refine Later.ofdrew ?_ | with_reducible refine Later.ofdrewN ?_ | with_reducible refine Later.setCell ?_ ?_ _ | with_reducible refine Later.alloc ?_ _ | with_reducible refine Later.drewN ?_ _ | with_reducible refine Later.drew ?_ | (with_reducible refine Later.trans ?_ (by assumption)) | (simp only [World.size_setCell, World.size_alloc, World.heap_drewN]; omega) | (simp; done) | (simp; omega)))).1 _ _ zA).trans f0) hne, grown_cell hg5 (((bcell (by repeat (first | with_reducible exact Later.refl _ | with_reducible assumption | with_reducible refine Later.ofdrew ?_ | with_reducible refine Later.ofdrewN ?_ | with_reducible refine Later.setCell ?_ ?_ _ | with_reducible refine Later.alloc ?_ _ | with_reducible refine Later.drewN ?_ _ | with_reducible refine Later.drew ?_ | (with_reducible refine Later.trans ?_ (by assumption)) | (simp only [World.size_setCell, World.size_alloc, World.heap_drewN]; omega) | (simp; done) | (simp; omega)))).1 _ _ zA).trans f1) hne, grown_cell hg5 (((bcell (by repeat (first | with_reducible exact Later.refl _ | with_reducible assumption | with_reducible refine Later.ofdrew ?_ | with_reducible refine Later.ofdrewN ?_ | with_reducible refine Later.setCell ?_ ?_ _ | with_reducible refine Later.alloc ?_ _ | with_reducible refine Later.drewN ?_ _ | with_reducible refine Later.drew ?_ | (with_reducible refine Later.trans ?_ (by assumption)) | (simp only [World.size_setCell, World.size_alloc, World.heap_drewN]; omega) | (simp; done) | (simp; omega)))).1 _ _ zA).trans f2) hne⟩
        case measure => simp [intOf]; omega
      · have hmore := HMY.out rfl
        go_wp2_with (go_at_call 14; go_must (refine (HFJ.out _ (by repeat (first | with_reducible exact Later.refl _ | with_reducible assumption | with_reducible refine Later.ofdrew ?_ | with_reducible refine Later.ofdrewN ?_ | with_reducible refine Later.setCell ?_ ?_ _ | with_reducible refine Later.alloc ?_ _ | with_reducible refine Later.drewN ?_ _ | with_reducible refine Later.drew ?_ | (with_reducible refine Later.trans ?_ (by assumption)) | (simp only [World.size_setCell, World.size_alloc, World.heap_drewN]; omega) | (simp; done) | (simp; omega)))).mono ?_; rintro e w4 ⟨rfl, hb4⟩; have hl4 : Later wr w4 := Later.un1 hb4))
        go_roundw
        case rel =>
          have hl5 := hl4.alloc (.cells #[.int .i64 ga, .int .i64 gb] 29)
          exact ⟨j + 1, by omega, by go_num, Lib.hid (by rw [HT1.out, hmore]; exact HFW.out.later hl5), hlat.trans hl5, ((bcell hl5).1 _ _ zA).trans f0, ((bcell hl5).1 _ _ zA).trans f1, ((bcell hl5).1 _ _ zA).trans f2⟩
        case measure => simp [intOf]; omega
    · have hfin : l2.take j = l2 := List.take_of_length_le (by rw [HNL.out]; omega)
      have hFF := hF.out
      rw [hfin] at hFF
      have hlw := hl0.trans hlat
      have HFB := Lib.hid (fun W (hl : Later wr W) => HB.out p m1 m2 W (hlw.trans hl) (hFF.later hl))
      have HAX := Lib.hid (fun W (hl : Later wr W) => HAW.out W (hlw.trans hl))
      clear hF hFF hfin HX HTL HB HAW HNL HU
      go_upto_region 15 with (go_at_call 10; go_must (refine (HFB.out _ (Later.refl _)).mono ?_; rintro e w6 ⟨rfl, hb6⟩))
      refine wp_opaque (fun w7 hb7 => ?_)
      have hl7 := hb6.trans hb7.un1
      obtain ⟨z7, d7, -⟩ := own_get (Own.one hb7)
      have f70 := ((bcell hl7).1 _ _ zA).trans f0
      have f71 := ((bcell hl7).1 _ _ zA).trans f1
      have f72 := ((bcell hl7).1 _ _ zA).trans f2
      have hlE := hlw.trans hl7
      clear hb7 hb6 f0 f1 f2 HFB d0 d1 z0 z1
      rcases HC.out with ⟨he, rfl, rfl, rfl, rfl, rfl, rfl, rfl⟩ | ⟨rfl, rfl, rfl, rfl, rfl, rfl⟩ | ⟨rfl, rfl, rfl, rfl, rfl⟩ | ⟨rfl, rfl, rfl, rfl, rfl, rfl, rfl, rfl⟩
      · have he1 : (re' == 0) = false := by simpa using he
        have he2 : (re' != 0) = true := by simpa using he
        clear HC he
        go_wp2_with (go_at_call 8; go_must (refine (HAX.out _ hl7).mono ?_; rintro e w9 ⟨rfl, hb9⟩))
        go_ret
        exact ⟨rfl, hlE.trans hb9⟩
      all_goals
        clear HC
        go_wp2_with (go_at_call 8; go_must (refine (HAX.out _ hl7).mono ?_; rintro e w9 ⟨rfl, hb9⟩))
        go_ret
        exact ⟨rfl, hlE.trans hb9⟩


theorem stays_any (ts : List Nd) (l1 l2 : List Td) (k day : Int) (v u1 u2 : Value) (w : World) (hok : ∀ x ∈ ts, x.ok) (lok : ∀ x ∈ l1, x.ok) (lok' : ∀ x ∈ l2, x.ok) (hd : I64 day)
    (hS : Shapes w) (hN : IsNodes w v ts) (hT : IsTolds w u1 l1) (hU : IsTolds w u2 l2) :
    Calls Tryd.prog 4 #[v, .agg #[u1, u2], .agg #[.int .i64 k, .int .i64 day]] w fun e w' => e = .returned (.bool true) ∧ Later w w' := by
  by_cases h1 : ts.length ≤ 100
  · by_cases h2 : l1.length ≤ 40
    · by_cases h3 : l2.length ≤ 40
      · exact stays_near ts l1 l2 k day v u1 u2 w hok lok lok' hd hS hN hT hU h1 h2 h3
      · exact stays_two ts l1 l2 k day v u1 u2 w hS hN hT hU h1 h2 (by omega)
    · exact stays_one ts l1 l2 k day v u1 u2 w hS hN hT hU h1 (by omega)
  · exact stays_far ts l1 l2 k day v u1 u2 w hS hN hT hU (by omega)
end Go.Proofs.YtkpadahpepeaoaaDoor
