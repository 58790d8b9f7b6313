/- ValueNeeds: its walk -/
import Derived.Test.YtkpadahpepeaoaaDoorSNeedsV
import Derived.Test.YtkpadahpepeaoaaDoorSRegionU
import Derived.Test.YtkpadahpepeaoaaDoorSRegionV
set_option linter.all false
namespace Go.Proofs.YtkpadahpepeaoaaDoor
open Go.RowKit
set_option maxRecDepth 100000

theorem step_yes {fx acc : FxL} {day k : Int} (h : (gotF fx k day).2.2 = true) : someStep fx day acc k = fixL acc k day (gotF fx k day).1 (gotF fx k day).2.1 := by
  unfold gotF at h ⊢
  unfold someStep
  cases hg : getA fx (k, day) with
  | none => rw [hg] at h; cases h
  | some v => rfl
theorem step_no {fx acc : FxL} {day k : Int} (h : (gotF fx k day).2.2 = false) : someStep fx day acc k = acc := by
  unfold gotF at h
  unfold someStep
  cases hg : getA fx (k, day) with
  | none => rfl
  | some v => rw [hg] at h; cases h
theorem got_i64 {fx : FxL} (ho : FxOk fx) (k day : Int) : I64 (gotF fx k day).1 ∧ I64 (gotF fx k day).2.1 := by
  unfold gotF
  cases hg : getA fx (k, day) with
  | none => exact ⟨by unfold I64; simp only; omega, by unfold I64; simp only; omega⟩
  | some v =>
    have h := ho _ _ hg
    have := h.n0; have := h.n1; have := h.d0; have := h.d1
    exact ⟨by unfold I64; simp only; omega, by unfold I64; simp only; omega⟩
theorem keys_len (op op' : Int) (l : List Nd) : (keysI op op' l).length ≤ 64 := keysU_len _ _ _ _
theorem keys_i64 {op op' : Int} {l : List Nd} {k : Int} (h : k ∈ keysI op op' l) : I64 k := by
  have := keys_mem.1 h
  unfold I64; omega
theorem flat_mem {ts : List Nd} {j : Nat} {s : Tm} (h : TmAt ts j s) {x : Nd} (hx : x ∈ s.flat) : x ∈ ts := List.mem_of_mem_drop (h.2.subset hx)


set_option maxHeartbeats 1600000 in
theorem needs_far (ts : List Nd) (ls : List Td) (k day : Int) (v lv : Value) (w : World) (hS : Shapes w) (hN : IsNodes w v ts) (hT : IsTolds w lv ls) (h1 : 100 < ts.length) :
    Calls Tryd.prog 7 #[v, lv, .agg #[.int .i64 k, .int .i64 day]] w fun e w' => e = .returned (.bool true) ∧ Later w w' := by
  have HAW := Lib.hid (fun W (hl : Later w W) => vawake_any W (hS.later hl))
  obtain ⟨p0, c0, rfl⟩ := hN.form
  obtain ⟨p2, c2, rfl⟩ := hT.form
  generalize ts.length = L at *
  generalize ls.length = N at *
  clear hN hT hS
  have g1 : 100 < (L : Int) := by omega
  clear h1
  go_enter Tryd.func7, Tryd.ntmps7
  go_upto_region 1 with (fail)
  refine wp_opaque (fun w0 hb0 => ?_)
  have hO0 := Own.one hb0
  have hl0 := hb0.un1
  obtain ⟨z0, d0, -⟩ := own_get hO0
  clear hb0
  go_wp2_with (go_at_call 8; go_must (refine (HAW.out _ hl0).mono ?_; rintro e w9 ⟨rfl, hb9⟩))
  go_ret
  exact ⟨rfl, hl0.trans hb9⟩

set_option maxHeartbeats 1600000 in
theorem needs_far2 (ts : List Nd) (ls : List Td) (k day : Int) (v lv : Value) (w : World) (hS : Shapes w) (hN : IsNodes w v ts) (hT : IsTolds w lv ls) (h1 : ts.length ≤ 100) (h2 : 60 < ls.length) :
    Calls Tryd.prog 7 #[v, lv, .agg #[.int .i64 k, .int .i64 day]] w fun e w' => e = .returned (.bool true) ∧ Later w w' := by
  have HAW := Lib.hid (fun W (hl : Later w W) => vawake_any W (hS.later hl))
  obtain ⟨p0, c0, rfl⟩ := hN.form
  obtain ⟨p2, c2, rfl⟩ := hT.form
  generalize ts.length = L at *
  generalize ls.length = N at *
  clear hN hT hS
  have g1 : ¬ (100 < (L : Int)) := by omega
  have g2 : 60 < (N : Int) := by omega
  clear h1 h2
  go_enter Tryd.func7, Tryd.ntmps7
  go_upto_region 1 with (fail)
  refine wp_opaque (fun w0 hb0 => ?_)
  have hO0 := Own.one hb0
  have hl0 := hb0.un1
  obtain ⟨z0, d0, -⟩ := own_get hO0
  clear hb0
  go_wp2_with (go_at_call 8; go_must (refine (HAW.out _ hl0).mono ?_; rintro e w9 ⟨rfl, hb9⟩))
  go_ret
  exact ⟨rfl, hl0.trans hb9⟩

set_option maxHeartbeats 1600000 in
theorem needs_wrong (ts : List Nd) (ls : List Td) (k day : Int) (v lv : Value) (w : World) (hok : ∀ x ∈ ts, x.ok) (hS : Shapes w) (hN : IsNodes w v ts) (hT : IsTolds w lv ls) (h1 : ts.length ≤ 100) (h2 : ls.length ≤ 60) (h0 : wrongV ts k ≠ 0) :
    Calls Tryd.prog 7 #[v, lv, .agg #[.int .i64 k, .int .i64 day]] w fun e w' => e = .returned (.bool true) ∧ Later w w' := by
  have HAW := Lib.hid (fun W (hl : Later w W) => vawake_any W (hS.later hl))
  have HNB := Lib.hid (fun W (hl : Later w W) => vneeds_bad ts (by omega) hok k v W h0 (hS.later hl) (hN.later hl))
  have HW := Lib.hid (fun W (hl : Later w W) => vwrong_any ts (by omega) hok v k W (hN.later hl))
  obtain ⟨E, hE⟩ : ∃ E, wrongV ts k = E := ⟨_, rfl⟩
  rw [hE] at HNB HW h0
  have he1 : (E == 0) = false := by simpa using h0
  have he2 : (E != 0) = true := by simpa using h0
  obtain ⟨p0, c0, rfl⟩ := hN.form
  obtain ⟨p2, c2, rfl⟩ := hT.form
  have g1 : ¬ (100 < (ts.length : Int)) := by omega
  have g2 : ¬ (60 < (ls.length : Int)) := by omega
  clear hN hT hS hok h1 h2 h0 hE
  generalize ts.length = L at *
  generalize ls.length = N at *
  go_enter Tryd.func7, Tryd.ntmps7
  go_upto_region 1 with (fail)
  refine wp_opaque (fun w0 hb0 => ?_)
  have hO0 := Own.one hb0
  have hl0 := hb0.un1
  obtain ⟨z0, d0, -⟩ := own_get hO0
  clear hb0
  go_wp2_with (first
    | (go_at_call 18; go_must (refine (HNB.out _ hl0).mono ?_; rintro e w1 ⟨rfl, hb1⟩; have hl1 := hl0.trans hb1; clear d0 z0; obtain ⟨z0, d0, -⟩ := own_get (hO0.later hb1)))
    | (go_at_call 11; go_must (refine (HW.out _ hl1).mono ?_; rintro e w2 ⟨rfl, hb2⟩; have hl2 := hl1.trans hb2; clear d0 z0; obtain ⟨z0, d0, -⟩ := own_get (hO0.later (hb1.trans hb2))))
    | (go_at_call 8; go_must (refine (HAW.out _ hl2).mono ?_; rintro e w9 ⟨rfl, hb9⟩)))
  go_ret
  exact ⟨rfl, hl2.trans hb9⟩

set_option maxHeartbeats 6400000 in
theorem needs_near (ts : List Nd) (ls : List Td) (k day : Int) (v lv : Value) (w : World) (hok : ∀ x ∈ ts, x.ok) (lok : ∀ x ∈ ls, x.ok) (hday : I64 day) (hS : Shapes w) (hN : IsNodes w v ts) (hT : IsTolds w lv ls) (h1 : ts.length ≤ 100) (h2 : ls.length ≤ 60) (h0 : wrongV ts k = 0) :
    Calls Tryd.prog 7 #[v, lv, .agg #[.int .i64 k, .int .i64 day]] w fun e w' => e = .returned (.bool true) ∧ Later w w' := by
  obtain ⟨T, j, s, rfl, hT', hj, hs, hm, hso⟩ := wrongV_zero h0
  have hn : NumT s := numT_of hT'.fields hok hs hso hm
  have hf : ∀ x ∈ s.flat, x.op = 2 → 0 ≤ x.a ∧ x.a < 64 := fun x hx h2 => key_range (hT'.fields x (flat_mem hs hx)) h2
  have hok2 : ∀ x ∈ s.flat, x.ok := fun x hx => hok x (flat_mem hs hx)
  have HAW := Lib.hid (fun W (hl : Later w W) => vawake_any W (hS.later hl))
  have HNE := Lib.hid (fun W (hl : Later w W) => vneeds_good ts (by omega) hok j s v W h0 hs hf (hS.later hl) (hN.later hl))
  have HW := Lib.hid (fun W (hl : Later w W) => vwrong_any ts (by omega) hok v (j : Nat) W (hN.later hl))
  have HSZ := Lib.hid (fun W (hl : Later w W) => rsize_any ts j v W (by omega) (by omega) (hN.later hl))
  have HM := Lib.hid (fun W (hl : Later w W) => made_any ls (by omega) lok lv W (hT.later hl))
  have HNW := Lib.hid (fun W => fnew_any W)
  have ho := fxOk_made ls lok
  have hp := fxPl_made ls
  have C := needs_all (fx := madeFx ls) (day := day) hok hp ho h0 hs hn
  have HA := Lib.hid (fun p m1 m2 W (hl : Later w W) hF => vat_any ts (madeFx ls) (madeCh ls) p m1 m2 (j : Nat) day v W (by omega) hok hday (getOk_of ho day) (hS.later hl) (hN.later hl) hF)
  have HB := Lib.hid (fun p m1 m2 W (hl : Later w W) hF => vat_any ts (someFx (madeFx ls) day (keysI 2 2 s.flat)) [] p m1 m2 (j : Nat) day v W (by omega) hok hday (getOk_of (someFx_ok hp ho _) day) (hS.later hl) (hN.later hl) hF)
  have HX := Lib.hid (fun (κ : Int) (h : I64 κ) p m1 m2 W hF => fixing_any p m1 m2 (madeFx ls) (madeCh ls) κ day W hF h hday)
  have HFX := Lib.hid (fun (κ : Int) (h : I64 κ) p m1 m2 acc W hF => fix_any p m1 m2 acc [] κ day (gotF (madeFx ls) κ day).1 (gotF (madeFx ls) κ day).2.1 W hF h hday (got_i64 ho κ day).1 (got_i64 ho κ day).2)
  rw [C.1] at HB
  have HC := C.2
  rw [h0] at HW
  rw [hs.size_] at HSZ
  have hle := hs.le
  have hsp := s.size_pos
  obtain ⟨b, o, cp, rfl, hq, hN2⟩ := nodes_cut hN (j := j) (q := j + s.size) (by omega) hle
  have hfl : (ts.drop j).take (j + s.size - j) = s.flat := by
    rw [Nat.add_sub_cancel_left]
    obtain ⟨r, hr⟩ := hs.2
    rw [← hr, ← Tm.size_flat s, List.take_left]
  rw [hfl, Nat.add_sub_cancel_left] at hN2
  have hll : s.flat.length = s.size := Tm.size_flat s
  have hfl100 : s.flat.length ≤ 100000 := by omega
  have HKE := Lib.hid (fun W (hl : Later w W) => rkeys_any s.flat hfl100 (.slice (some ⟨b, o + j * 5, none⟩) s.size (cp - j)) 2 2 W (hN2.later hl))
  have hk64 := keys_len 2 2 s.flat
  have HKI := Lib.hid (fun κ (h : κ ∈ keysI 2 2 s.flat) => keys_i64 h)
  obtain ⟨ks, hks⟩ : ∃ ks, keysI 2 2 s.flat = ks := ⟨_, rfl⟩
  rw [hks] at HNE HKE HB hk64 HKI HC
  have HIN := Lib.hid (fun va vb W hA hB => ints_same ks (by omega) va vb W hA hB)
  obtain ⟨r, hr⟩ : ∃ r, atV ts (madeFx ls) (j : Nat) day = r := ⟨_, rfl⟩
  rw [hr] at HA HB HC
  unfold valR at HA HB
  obtain ⟨p2, c2, rfl⟩ := hT.form
  have g1 : ¬ (100 < (ts.length : Int)) := by omega
  have g2 : ¬ (60 < (ls.length : Int)) := by omega
  generalize s.size = n at *
  generalize ts.length = L at *
  have hsl := fun W => cut_run b o L cp j n hsp hq W
  clear hN hT hS hok lok hok2 h0 hs hn hf hm hso hT' hj C hks hr hN2 hfl hll hfl100 ho hp h1 h2
  generalize ls.length = N at *
  generalize madeFx ls = FX at *
  generalize madeCh ls = CH at *
  generalize r.1 = re at *
  generalize r.2.isSome = ri at *
  generalize outN r = rn at *
  generalize outD r = rd at *
  obtain ⟨q, hqe⟩ : ∃ q, j + n = q := ⟨_, rfl⟩
  rw [hqe] at hsl hq hle
  have hqi : (j : Int) + (n : Int) = (q : Int) := by omega
  have hjq : j < q := by omega
  clear hqe
  go_enter Tryd.func7, Tryd.ntmps7
  go_upto_region 1 with (fail)
  refine wp_opaque (fun w0 hb0 => ?_)
  have hO0 := Own.one hb0
  have hl0 := hb0.un1
  obtain ⟨z0, d0, -⟩ := own_get hO0
  clear hb0
  go_upto_region 7 with (first
    | (go_at_call 18; go_must (refine (HNE.out _ hl0).mono ?_; rintro e w1 ⟨v7, rfl, hK1, hb1⟩; have hl1 := hl0.trans hb1; clear d0 z0; obtain ⟨z0, d0, -⟩ := own_get (hO0.later hb1)))
    | (go_at_call 11; go_must (refine (HW.out _ hl1).mono ?_; rintro e w2 ⟨rfl, hb2⟩; have hl2 := hl1.trans hb2; have h02 := hb1.trans hb2; clear d0 z0; obtain ⟨z0, d0, -⟩ := own_get (hO0.later h02))))
  have hK2 := hK1.later hb2
  clear hK1 HNE HW hb1 hb2 hl0
  refine wp_region_plan 8 (.one [0, 1, 2, 3, 4] 5 (.done [6, 7])) (by kernel_rfl) (by kernel_rfl) (fun _ _ d _ _ h => by cases d <;> exact h) ?_
  repeat' (first
    | (refine plan_done (fun K hK => ?_); (first | (simp only [pick_cons, pick_nil, toList_some_append, List.getElem?_toArray, List.getElem?_cons_zero, List.getElem?_cons_succ]; repeat (go_big_quiet_step (fail))) | simp only [pick_nil]); refine wpQuiet_nil (hK _ ?_); clear hK K)
    | (refine plan_one (by rfl) (fun K hK => ?_); (first | (simp only [pick_cons, pick_nil, toList_some_append, List.getElem?_toArray, List.getElem?_cons_zero, List.getElem?_cons_succ]; repeat (go_big_quiet_step (fail))) | simp only [pick_nil]); refine wpQuiet_nil (hK _ ?_); clear hK K)
    | ((with_reducible refine at_list ?_); go_wp2_with ((go_at_call 19; go_must (refine (HSZ.out _ (by repeat (first | with_reducible exact Later.refl _ | with_reducible assumption | with_reducible refine Later.ofdrew ?_ | with_reducible refine Later.ofdrewN ?_ | with_reducible refine Later.setCell ?_ ?_ _ | with_reducible refine Later.alloc ?_ _ | with_reducible refine Later.drewN ?_ _ | with_reducible refine Later.drew ?_ | (with_reducible refine Later.trans ?_ (by assumption)) | (simp only [World.size_setCell, World.size_alloc, World.heap_drewN]; omega) | (simp; done) | (simp; omega)))).mono ?_; rintro e w3 ⟨rfl, hb3⟩))); first | refine behind_store (t := 8) (by decide) ?_ | refine behind (by repeat (first | with_reducible exact Later.refl _ | with_reducible assumption | with_reducible refine Later.ofdrew ?_ | with_reducible refine Later.ofdrewN ?_ | with_reducible refine Later.alloc ?_ _ | with_reducible refine Later.drewN ?_ _ | with_reducible refine Later.drew ?_ | (with_reducible refine Later.trans ?_ (by assumption)))) ?_))
  have hl3 := hl2.trans (Later.undrew hb3)
  have h03 := h02.trans (Later.undrew hb3)
  have hK3 := hK2.later (Later.undrew hb3)
  clear hK2 hl2 hb3 HSZ d0 z0
  obtain ⟨z0, d0, -⟩ := own_get (hO0.later h03)
  go_upto_region 10 with (first
    | (go_at_call 21; go_must (refine (HKE.out _ hl3).mono ?_; rintro e w4 ⟨v4, rfl, hK4, hb4⟩))
    | (go_at_call 20; go_must (refine (HIN.out _ _ _ (hK3.later hb4) hK4).mono ?_; rintro e w5 ⟨rfl, hb5⟩)))
  have hb45 := hb4.trans hb5
  have hl5 := hl3.trans hb45
  have h05 := h03.trans hb45
  have hK5 := hK3.later hb45
  clear hK3 hK4 hl3 h03 hb4 hb5 hb45 HKE HIN d0 z0 hsl
  go_upto_region 11 with (go_at_call 9; go_must (refine (HM.out _ hl5).mono ?_; rintro e w6 ⟨p, m1, m2, rfl, hF6, -, -, hb6⟩))
  have hl6 := hl5.trans hb6
  have hO6 := hO0.later (h05.trans hb6)
  have HK6 := Lib.hid (hK5.later hb6)
  have HF6 := Lib.hid hF6
  clear hK5 hF6 hl5 h05 hb6 HM hO0
  go_upto_region 14 with (go_at_call 22; go_must (refine (HNW.out _).mono ?_; rintro e w7 ⟨p', n1, n2, rfl, hF7, gn1, gn2, hb7⟩))
  have HF7 := Lib.hid hF7
  clear hF7 HNW
  obtain ⟨pk, ck, hv7⟩ := HK6.out.form
  subst hv7
  obtain ⟨K, hK⟩ : ∃ K, ks.length = K := ⟨_, rfl⟩
  rw [hK] at HK6 hk64 ⊢
  have HKL := Lib.hid hK
  clear hK
  go_wp2
  go_loopw [13, 14] (fun s13 s14 wr => ∃ i : Nat, i ≤ K ∧ s14 = .int .i64 i ∧ (∃ bb : Bool, s13 = .bool bb ∧ Hid (bb = (ks.take i).all fun k => (gotF FX k day).2.2)) ∧ Hid (FactsAt wr p' n1 n2 ((ks.take i).foldl (someStep FX day) []) []) ∧ Later w6 wr) (fun _ s14 _ => K - (intOf s14).toNat)
  case atStart => exact ⟨0, Nat.zero_le _, rfl, ⟨true, rfl, Lib.hid rfl⟩, HF7, hb7⟩
  case round =>
    obtain ⟨i, hi, rfl, ⟨bb, rfl, hbb⟩, hF, hlat⟩ := hrel
    clear HF7 hb7
    obtain ⟨z0, d0, -⟩ := own_get (hO6.later hlat)
    by_cases hlt : i < K
    · clear HA HB HAW HC
      have hil : i < ks.length := by rw [HKL.out]; exact hlt
      obtain ⟨b1, o1, c1, hv, hb1, g0⟩ := HK6.out.full hil
      rw [HKL.out] at hv
      cases hv
      replace g0 := ((bcell hlat).1 _ _ hb1).trans g0
      have hkm := List.getElem_mem hil
      have ht : ks.take (i + 1) = ks.take i ++ [ks[i]] := List.take_succ_eq_append_getElem hil
      obtain ⟨κ, hκ⟩ : ∃ κ, ks[i] = κ := ⟨_, rfl⟩
      rw [hκ] at g0 hkm ht
      have hκ64 := HKI.out _ hkm
      have hall : ((ks.take (i + 1)).all fun k => (gotF FX k day).2.2) = (((ks.take i).all fun k => (gotF FX k day).2.2) && (gotF FX κ day).2.2) := by rw [ht, List.all_append]; simp
      have hfo : (ks.take (i + 1)).foldl (someStep FX day) [] = someStep FX day ((ks.take i).foldl (someStep FX day) []) κ := by rw [ht, List.foldl_append]; rfl
      have HXK := Lib.hid (fun W (hl : Later w6 W) => HX.out κ hκ64 p m1 m2 W (HF6.out.later hl))
      have HFK := Lib.hid (fun W hF => HFX.out κ hκ64 p' n1 n2 ((ks.take i).foldl (someStep FX day) []) W hF)
      have sy := step_yes (fx := FX) (acc := (ks.take i).foldl (someStep FX day) []) (day := day) (k := κ)
      have sn := step_no (fx := FX) (acc := (ks.take i).foldl (someStep FX day) []) (day := day) (k := κ)
      obtain ⟨g, hg⟩ : ∃ g, gotF FX κ day = g := ⟨_, rfl⟩
      rw [hg] at HXK HFK sy sn hall
      obtain ⟨ga, gb, gc⟩ := g
      simp only at HXK HFK sy sn hall
      have HALL := Lib.hid hall
      have HFO := Lib.hid hfo
      have HSY := Lib.hid sy
      have HSN := Lib.hid sn
      clear hall hfo sy sn hg hκ hkm ht HX HFX HKI HK6 HF6 hκ64 hil
      go_upto_region 18 with (fail)
      go_cut [15, 16] from 83 to 114 (fun s15 s16 wx => ∃ q : Nat, s15 = .pointer (some ⟨q, 0, none⟩) ∧ s16 = .bool gc ∧ Own wx [(q, #[.int .i64 ga, .int .i64 gb])] ∧ Later wr wx)
      case first =>
        clear HFK hF hbb HALL HFO HSY HSN
        refine U.wp_region_plan 12 (.two [0, 1, 2, 3, 4, 5, 6] 7 (.one [8, 9, 10] 11 (.one [] 12 (.done [13]))) 11 (.one [] 7 (.one [8, 9, 10] 12 (.done [13])))) (by kernel_rfl) (by kernel_rfl) (fun _ _ d _ _ h => by cases d <;> exact h) ?_
        repeat' (first
          | (refine plan_done (fun K hK => ?_); (first | (simp only [pick_cons, pick_nil, toList_some_append, List.getElem?_toArray, List.getElem?_cons_zero, List.getElem?_cons_succ]; repeat (go_big_quiet_step (fail))) | simp only [pick_nil]); refine wpQuiet_nil (hK _ ?_); clear hK K)
          | (refine plan_one (by rfl) (fun K hK => ?_); (first | (simp only [pick_cons, pick_nil, toList_some_append, List.getElem?_toArray, List.getElem?_cons_zero, List.getElem?_cons_succ]; repeat (go_big_quiet_step (fail))) | simp only [pick_nil]); refine wpQuiet_nil (hK _ ?_); clear hK K)
          | (refine plan_two (by rfl) (by rfl) (fun K hK => ?_); (first | (simp only [pick_cons, pick_nil, toList_some_append, List.getElem?_toArray, List.getElem?_cons_zero, List.getElem?_cons_succ]; repeat (go_big_quiet_step (fail))) | simp only [pick_nil]); refine wpQuiet_nil (hK _ ?_); clear hK K; refine ⟨?_, ?_⟩)
          | ((with_reducible refine at_list ?_); go_wp2_with ((go_at_call 14; go_must (refine (HXK.out _ (by repeat (first | with_reducible exact Later.refl _ | with_reducible assumption | with_reducible refine Later.ofdrew ?_ | with_reducible refine Later.ofdrewN ?_ | with_reducible refine Later.setCell ?_ ?_ _ | with_reducible refine Later.alloc ?_ _ | with_reducible refine Later.drewN ?_ _ | with_reducible refine Later.drew ?_ | (with_reducible refine Later.trans ?_ (by assumption)) | (simp only [World.size_setCell, World.size_alloc, World.heap_drewN]; omega) | (simp; done) | (simp; omega)))).mono ?_; rintro e w8 ⟨rfl, hb8⟩; (first | have hO8 := Own.one hb8 | have hO8 := own_one_d hb8 | skip); (first | have h8 := own_get hO8 | skip); (first | have z8 := h8.1 | skip); (first | have c8 := h8.2.1 | skip); (first | have f8 := h8.2.2 | skip)))); first | refine behind_store (t := 12) (by decide) ?_ | refine behind (by repeat (first | with_reducible exact Later.refl _ | with_reducible assumption | with_reducible refine Later.ofdrew ?_ | with_reducible refine Later.ofdrewN ?_ | with_reducible refine Later.alloc ?_ _ | with_reducible refine Later.drewN ?_ _ | with_reducible refine Later.drew ?_ | (with_reducible refine Later.trans ?_ (by assumption)))) ?_))
        all_goals
          go_wp2_with fail
          go_meet
          first
            | exact ⟨_, rfl, rfl, own_alloc _ _ _, by repeat (first | with_reducible exact Later.refl _ | with_reducible assumption | with_reducible refine Later.ofdrew ?_ | with_reducible refine Later.ofdrewN ?_ | with_reducible refine Later.setCell ?_ ?_ _ | with_reducible refine Later.alloc ?_ _ | with_reducible refine Later.drewN ?_ _ | with_reducible refine Later.drew ?_ | (with_reducible refine Later.trans ?_ (by assumption)) | (simp only [World.size_setCell, World.size_alloc, World.heap_drewN]; omega) | (simp; done) | (simp; omega))⟩
            | exact ⟨_, rfl, rfl, own_set2 hO8, by repeat (first | with_reducible exact Later.refl _ | with_reducible assumption | with_reducible refine Later.ofdrew ?_ | with_reducible refine Later.ofdrewN ?_ | with_reducible refine Later.setCell ?_ ?_ _ | with_reducible refine Later.alloc ?_ _ | with_reducible refine Later.drewN ?_ _ | with_reducible refine Later.drew ?_ | (with_reducible refine Later.trans ?_ (by assumption)) | (simp only [World.size_setCell, World.size_alloc, World.heap_drewN]; omega) | (simp; done) | (simp; omega))⟩
      case rest =>
        obtain ⟨q, rfl, rfl, hOP, hlx⟩ := hcut
        clear HXK z0 d0
        obtain ⟨zP, dP, -⟩ := own_get hOP
        obtain ⟨z0, d0, -⟩ := own_get (hO6.later (hlat.trans hlx))
        replace g0 := ((bcell hlx).1 _ _ (Nat.lt_of_lt_of_le hb1 (Later.size hlat))).trans g0
        cases gc
        · cases bb
          · skip
            have HBN : Hid (false = (ks.take (i + 1)).all fun k => (gotF FX k day).2.2) := Lib.hid (by rw [HALL.out, ← hbb.out]; rfl)
            have HFN : Hid (FactsAt wc p' n1 n2 ((ks.take (i + 1)).foldl (someStep FX day) []) []) := Lib.hid (by rw [HFO.out, HSN.out rfl]; exact hF.out.later hlx)
            clear HFK hF hbb HALL HSY HSN HFO
            go_wp2
            go_roundw
            case rel => exact ⟨i + 1, by omega, by go_num, ⟨_, rfl, HBN⟩, HFN, hlat.trans hlx⟩
            case measure => simp [intOf]; omega
          · skip
            have HBN : Hid (false = (ks.take (i + 1)).all fun k => (gotF FX k day).2.2) := Lib.hid (by rw [HALL.out, ← hbb.out]; rfl)
            have HFN : Hid (FactsAt wc p' n1 n2 ((ks.take (i + 1)).foldl (someStep FX day) []) []) := Lib.hid (by rw [HFO.out, HSN.out rfl]; exact hF.out.later hlx)
            clear HFK hF hbb HALL HSY HSN HFO
            go_wp2
            go_roundw
            case rel => exact ⟨i + 1, by omega, by go_num, ⟨_, rfl, HBN⟩, HFN, hlat.trans hlx⟩
            case measure => simp [intOf]; omega
        · cases bb
          · skip
            have HBN : Hid (false = (ks.take (i + 1)).all fun k => (gotF FX k day).2.2) := Lib.hid (by rw [HALL.out, ← hbb.out]; rfl)
            have HSY' := Lib.hid (HSY.out rfl)
            clear hbb HALL HSY HSN
            go_upto_region 21 with (fail)
            refine V.wp_region_plan 9 (.one [0, 1, 2, 3, 4, 5, 6, 7, 8] 9 (.done [])) (by kernel_rfl) (by kernel_rfl) (fun _ _ d _ _ h => by cases d <;> exact h) ?_
            repeat' (first
              | (refine plan_done (fun K hK => ?_); (first | (simp only [pick_cons, pick_nil, toList_some_append, List.getElem?_toArray, List.getElem?_cons_zero, List.getElem?_cons_succ]; repeat (go_big_quiet_step (fail))) | simp only [pick_nil]); refine wpQuiet_nil (hK _ ?_); clear hK K)
              | (refine plan_one (by rfl) (fun K hK => ?_); (first | (simp only [pick_cons, pick_nil, toList_some_append, List.getElem?_toArray, List.getElem?_cons_zero, List.getElem?_cons_succ]; repeat (go_big_quiet_step (fail))) | simp only [pick_nil]); refine wpQuiet_nil (hK _ ?_); clear hK K)
              | ((with_reducible refine at_list ?_); go_wp2_with ((go_at_call 23; go_must (refine (HFK.out _ (hF.out.later (by repeat (first | with_reducible exact Later.refl _ | with_reducible assumption | with_reducible refine Later.ofdrew ?_ | with_reducible refine Later.ofdrewN ?_ | with_reducible refine Later.setCell ?_ ?_ _ | with_reducible refine Later.alloc ?_ _ | with_reducible refine Later.drewN ?_ _ | with_reducible refine Later.drew ?_ | (with_reducible refine Later.trans ?_ (by assumption)) | (simp only [World.size_setCell, World.size_alloc, World.heap_drewN]; omega) | (simp; done) | (simp; omega))))).mono ?_; rintro e w9 ⟨rfl, hF9, hg9⟩))); first | refine behind_store (t := 9) (by decide) ?_ | refine behind (by repeat (first | with_reducible exact Later.refl _ | with_reducible assumption | with_reducible refine Later.ofdrew ?_ | with_reducible refine Later.ofdrewN ?_ | with_reducible refine Later.alloc ?_ _ | with_reducible refine Later.drewN ?_ _ | with_reducible refine Later.drew ?_ | (with_reducible refine Later.trans ?_ (by assumption)))) ?_))
            have hl9 : Later w6 w9 := Later.grown (by repeat (first | with_reducible exact Later.refl _ | with_reducible assumption | with_reducible refine Later.ofdrew ?_ | with_reducible refine Later.ofdrewN ?_ | with_reducible refine Later.setCell ?_ ?_ _ | with_reducible refine Later.alloc ?_ _ | with_reducible refine Later.drewN ?_ _ | with_reducible refine Later.drew ?_ | (with_reducible refine Later.trans ?_ (by assumption)) | (simp only [World.size_setCell, World.size_alloc, World.heap_drewN]; omega) | (simp; done) | (simp; omega))) hg9 (fun q e => by cases e; exact gn1)
            have HF9 : Hid (FactsAt w9 p' n1 n2 ((ks.take (i + 1)).foldl (someStep FX day) []) []) := Lib.hid (by rw [HFO.out, HSY'.out]; exact hF9)
            clear hF9 hg9 HFK hF HFO HSY' hOP zP dP d0 z0 g0
            go_wp2
            go_roundw
            case rel => exact ⟨i + 1, by omega, by go_num, ⟨_, rfl, HBN⟩, HF9, hl9⟩
            case measure => simp [intOf]; omega
          · skip
            have HBN : Hid (true = (ks.take (i + 1)).all fun k => (gotF FX k day).2.2) := Lib.hid (by rw [HALL.out, ← hbb.out]; rfl)
            have HSY' := Lib.hid (HSY.out rfl)
            clear hbb HALL HSY HSN
            go_upto_region 21 with (fail)
            refine V.wp_region_plan 9 (.one [0, 1, 2, 3, 4, 5, 6, 7, 8] 9 (.done [])) (by kernel_rfl) (by kernel_rfl) (fun _ _ d _ _ h => by cases d <;> exact h) ?_
            repeat' (first
              | (refine plan_done (fun K hK => ?_); (first | (simp only [pick_cons, pick_nil, toList_some_append, List.getElem?_toArray, List.getElem?_cons_zero, List.getElem?_cons_succ]; repeat (go_big_quiet_step (fail))) | simp only [pick_nil]); refine wpQuiet_nil (hK _ ?_); clear hK K)
              | (refine plan_one (by rfl) (fun K hK => ?_); (first | (simp only [pick_cons, pick_nil, toList_some_append, List.getElem?_toArray, List.getElem?_cons_zero, List.getElem?_cons_succ]; repeat (go_big_quiet_step (fail))) | simp only [pick_nil]); refine wpQuiet_nil (hK _ ?_); clear hK K)
              | ((with_reducible refine at_list ?_); go_wp2_with ((go_at_call 23; go_must (refine (HFK.out _ (hF.out.later (by repeat (first | with_reducible exact Later.refl _ | with_reducible assumption | with_reducible refine Later.ofdrew ?_ | with_reducible refine Later.ofdrewN ?_ | with_reducible refine Later.setCell ?_ ?_ _ | with_reducible refine Later.alloc ?_ _ | with_reducible refine Later.drewN ?_ _ | with_reducible refine Later.drew ?_ | (with_reducible refine Later.trans ?_ (by assumption)) | (simp only [World.size_setCell, World.size_alloc, World.heap_drewN]; omega) | (simp; done) | (simp; omega))))).mono ?_; rintro e w9 ⟨rfl, hF9, hg9⟩))); first | refine behind_store (t := 9) (by decide) ?_ | refine behind (by repeat (first | with_reducible exact Later.refl _ | with_reducible assumption | with_reducible refine Later.ofdrew ?_ | with_reducible refine Later.ofdrewN ?_ | with_reducible refine Later.alloc ?_ _ | with_reducible refine Later.drewN ?_ _ | with_reducible refine Later.drew ?_ | (with_reducible refine Later.trans ?_ (by assumption)))) ?_))
            have hl9 : Later w6 w9 := Later.grown (by repeat (first | with_reducible exact Later.refl _ | with_reducible assumption | with_reducible refine Later.ofdrew ?_ | with_reducible refine Later.ofdrewN ?_ | with_reducible refine Later.setCell ?_ ?_ _ | with_reducible refine Later.alloc ?_ _ | with_reducible refine Later.drewN ?_ _ | with_reducible refine Later.drew ?_ | (with_reducible refine Later.trans ?_ (by assumption)) | (simp only [World.size_setCell, World.size_alloc, World.heap_drewN]; omega) | (simp; done) | (simp; omega))) hg9 (fun q e => by cases e; exact gn1)
            have HF9 : Hid (FactsAt w9 p' n1 n2 ((ks.take (i + 1)).foldl (someStep FX day) []) []) := Lib.hid (by rw [HFO.out, HSY'.out]; exact hF9)
            clear hF9 hg9 HFK hF HFO HSY' hOP zP dP d0 z0 g0
            go_wp2
            go_roundw
            case rel => exact ⟨i + 1, by omega, by go_num, ⟨_, rfl, HBN⟩, HF9, hl9⟩
            case measure => simp [intOf]; omega
    · have hge : ¬ ((i : Int) < (K : Int)) := by omega
      have hfin : ks.take i = ks := List.take_of_length_le (by rw [HKL.out]; omega)
      have hFF : FactsAt wr p' n1 n2 (someFx FX day ks) [] := by have := hF.out; rw [hfin] at this; exact this
      have hba := hbb.out
      rw [hfin] at hba
      have hwl := hl6.trans hlat
      have HFA := Lib.hid (fun W (hl : Later _ W) => HA.out p m1 m2 W (hwl.trans hl) (HF6.out.later (hlat.trans hl)))
      have HFB := Lib.hid (fun W (hl : Later _ W) => HB.out p' n1 n2 W (hwl.trans hl) (hFF.later hl))
      have HAX := Lib.hid (fun W (hl : Later _ W) => HAW.out W (hwl.trans hl))
      have hcase : re ≠ 0 ∨ (re = 0 ∧ ri = true) ∨ (re = 0 ∧ ri = false ∧ bb = false) := by
        by_cases h1 : re = 0
        · rcases HC with h | h | h
          · exact absurd h1 h
          · exact .inr (.inl ⟨h1, h⟩)
          · cases ri
            · exact .inr (.inr ⟨h1, rfl, hba.trans h⟩)
            · exact .inr (.inl ⟨h1, rfl⟩)
        · exact .inl h1
      have HCS := Lib.hid hcase
      clear hcase hba hFF hfin hF hbb HA HB HAW HC HKL HKI HX HFX HK6 HF6 hlt hi
      go_upto_region 23 with (go_at_call 10; go_must (refine (HFA.out _ (Later.refl _)).mono ?_; rintro e w10 ⟨rfl, hb10⟩))
      refine wp_opaque (fun w11 hb11 => ?_)
      have hO11 := Own.one hb11
      have hl11 := hb10.trans hb11.un1
      clear z0 d0 hb10 hb11
      obtain ⟨z0, d0, -⟩ := own_get (hO6.later (hlat.trans hl11))
      go_upto_region 24 with (go_at_call 10; go_must (refine (HFB.out _ hl11).mono ?_; rintro e w12 ⟨rfl, hb12⟩))
      refine wp_opaque (fun w13 hb13 => ?_)
      have hl13 := hb12.trans hb13.un1
      obtain ⟨zb, db, -⟩ := own_get (Own.one hb13)
      obtain ⟨za, da, -⟩ := own_get (hO11.later hl13)
      have hla := hl11.trans hl13
      have hlE := hwl.trans hla
      have da0 := da 0
      have da1 := da 1
      have da2 := da 2
      have db0 := db 0
      have db1 := db 1
      have db2 := db 2
      simp only [List.getElem?_toArray, List.getElem?_cons_zero, List.getElem?_cons_succ] at da0 da1 da2 db0 db1 db2
      clear hb12 hb13 z0 d0 da db hO11
      rcases HCS.out with h | ⟨rfl, rfl⟩ | ⟨rfl, rfl, rfl⟩
      · have he1 : (re == 0) = false := by simpa using h
        have he2 : (re != 0) = true := by simpa using h
        clear HCS h
        go_wp2_with (go_at_call 8; go_must (refine (HAX.out _ hla).mono ?_; rintro e w9 ⟨rfl, hb9⟩))
        go_ret
        exact ⟨rfl, hlE.trans hb9⟩
      all_goals
        clear HCS
        go_wp2_with (go_at_call 8; go_must (refine (HAX.out _ hla).mono ?_; rintro e w9 ⟨rfl, hb9⟩))
        go_ret
        exact ⟨rfl, hlE.trans hb9⟩


theorem needs_any (ts : List Nd) (ls : List Td) (k day : Int) (v lv : Value) (w : World) (hok : ∀ x ∈ ts, x.ok) (lok : ∀ x ∈ ls, x.ok) (hday : I64 day) (hS : Shapes w) (hN : IsNodes w v ts) (hT : IsTolds w lv ls) :
    Calls Tryd.prog 7 #[v, lv, .agg #[.int .i64 k, .int .i64 day]] w fun e w' => e = .returned (.bool true) ∧ Later w w' := by
  by_cases h1 : ts.length ≤ 100
  · by_cases h2 : ls.length ≤ 60
    · by_cases h0 : wrongV ts k = 0
      · exact needs_near ts ls k day v lv w hok lok hday hS hN hT h1 h2 h0
      · exact needs_wrong ts ls k day v lv w hok hS hN hT h1 h2 h0
    · exact needs_far2 ts ls k day v lv w hS hN hT h1 (by omega)
  · exact needs_far ts ls k day v lv w hS hN hT (by omega)
end Go.Proofs.YtkpadahpepeaoaaDoor
