/- lines turned, held against each other; an entry's mirror; a flow -/
import Derived.Test.YtpblfheeeifjcaaDoorLedA
set_option linter.all false
namespace Go.Proofs.YtpblfheeeifjcaaDoor
open Go.RowKit
set_option maxRecDepth 100000

theorem i64_wrap (n : Int) : IntKind.i64.wrap n = wrap64 n := by
  have e : IntKind.i64.wrap n = if (true && decide (n % 18446744073709551616 ≥ 9223372036854775808)) = true then n % 18446744073709551616 - 18446744073709551616 else n % 18446744073709551616 := rfl
  rw [e]
  unfold wrap64
  simp only [Bool.true_and, decide_eq_true_eq]
  split <;> omega
theorem set_three (X Y : List Value) (a b c u : Value) : (X ++ a :: b :: c :: Y).set (X.length + 2) u = X ++ a :: b :: u :: Y := by
  rw [List.set_append_right _ _ (by omega), show X.length + 2 - X.length = 2 by omega]; rfl
/-- Lines, the first j of which are turned. -/
def turnJ (ls : List Ln) (j : Nat) : List Ln := turnL (ls.take j) ++ ls.drop j
theorem turnJ_cells {ls : List Ln} {j : Nat} (h : j < ls.length) : ((turnJ ls j).flatMap lnCs).set (j * 3 + 2) (.int .i64 (ng (ls[j]).a)) = (turnJ ls (j + 1)).flatMap lnCs := by
  have e1 : ls.drop j = ls[j] :: ls.drop (j + 1) := List.drop_eq_getElem_cons h
  have e2 : turnL (ls.take (j + 1)) = turnL (ls.take j) ++ [{ ls[j] with a := ng (ls[j]).a }] := by
    rw [List.take_add_one, List.getElem?_eq_getElem h, Option.toList_some]; unfold turnL; rw [List.map_append]; rfl
  have e3 : ((turnL (ls.take j)).flatMap lnCs).length = j * 3 := by
    rw [flat_len lnCs lnCs_len]; unfold turnL; rw [List.length_map, List.length_take, Nat.min_eq_left (by omega)]
  unfold turnJ
  rw [e1, e2, List.flatMap_append, List.flatMap_append, List.flatMap_append, List.flatMap_cons, ← e3]
  simp only [lnCs, List.cons_append, List.nil_append, List.append_assoc, List.flatMap_cons, List.flatMap_nil]
  rw [set_three]
theorem turnJ_at {ls : List Ln} {j k : Nat} (h : j < ls.length) (hk : k < 3) : ((turnJ ls j).flatMap lnCs)[j * 3 + k]? = some (lnF ls[j] k) := by
  have hl : (turnJ ls j).length = ls.length := by unfold turnJ turnL; simp; omega
  rw [flat_get lnCs lnCs_len (turnJ ls j) j (by omega) k hk, lnCs_cell _ _ hk]
  congr 2
  unfold turnJ turnL
  rw [List.getElem_append_right (by simp; omega)]
  simp [Nat.min_eq_left (Nat.le_of_lt h)]
theorem turnJ_zero (ls : List Ln) : turnJ ls 0 = ls := rfl
theorem turnJ_all {ls : List Ln} {j : Nat} (h : ls.length ≤ j) : turnJ ls j = turnL ls := by
  unfold turnJ; rw [List.take_of_length_le h, List.drop_of_length_le h, List.append_nil]


set_option maxHeartbeats 1600000 in
theorem turned_any (ls : List Ln) (hlen : ls.length ≤ 100000) (v : Value) (w : World) (hN : IsLines w v ls) :
    Calls Tryd.prog 70 #[v] w fun e w' => ∃ v', e = .returned v' ∧ RowT 41 3 lnF w' v' (turnL ls) ∧ Later w w' := by
  have HC := Lib.hid (fun W (hl : Later w W) => lines_clone ls hlen (fun x _ => lnCs_one x) v W (IsRow.later hN hl))
  obtain ⟨p, cp, rfl⟩ := hN.form
  clear hN
  obtain ⟨L, hL⟩ : ∃ L, ls.length = L := ⟨_, rfl⟩
  rw [hL] at HC hlen ⊢
  have HL := Lib.hid hL
  clear hL
  go_enter Tryd.func70, Tryd.ntmps70
  go_upto_region 2 with (go_at_call 23; go_must (refine (HC.out _ (by repeat (first | with_reducible exact Later.refl _ | with_reducible assumption | with_reducible refine Later.ofdrew ?_ | with_reducible refine Later.ofdrewN ?_ | with_reducible refine Later.setCell ?_ ?_ _ | with_reducible refine Later.alloc ?_ _ | with_reducible refine Later.drewN ?_ _ | with_reducible refine Later.drew ?_ | (with_reducible refine Later.trans ?_ (by assumption)) | (simp only [World.size_setCell, World.size_alloc, World.heap_drewN]; omega) | (simp; done) | (simp; omega)))).mono ?_; rintro e w1 ⟨v1, rfl, hM⟩; obtain ⟨p1, cp1, rfl⟩ := hM.form; have hb1 := hM.lat; have HM := Lib.hid hM; clear hM HC))
  go_wp2
  go_loopw [9] (fun s9 wr => ∃ j : Nat, j ≤ L ∧ s9 = .int .i64 j ∧ Mine w 41 3 wr (.slice p1 L cp1) L ((turnJ ls j).flatMap lnCs)) (fun s9 _ => L - (intOf s9).toNat)
  case atStart => exact ⟨0, Nat.zero_le _, rfl, HM.out⟩
  case round =>
    obtain ⟨j, hj, rfl, hM⟩ := hrel
    clear HM
    by_cases hlt : j < L
    · have hjl : j < ls.length := by rw [HL.out]; exact hlt
      obtain ⟨g, rfl⟩ : ∃ g, p1 = some ⟨g, 0, none⟩ := by
        rcases hM.1.2 with ⟨h1, h2⟩ | ⟨g, cap, cur, h1, _⟩
        · omega
        · cases h1; exact ⟨g, rfl⟩
      have c2 := hM.1.cellAt (j * 3 + 2) (by omega)
      rw [turnJ_at hjl (by decide)] at c2
      have f2 := hM.1.frozenAt (j * 3 + 2)
      have HS := (hM.1.stored (j * 3 + 2) (.int .i64 (ng (ls[j]).a))).1
      rw [turnJ_cells hjl] at HS
      have HS := Lib.hid HS
      have hg := (hM.1.lt g rfl).1
      have hz := (hM.1.lt g rfl).2
      have hlat := hM.lat
      have HB := Lib.hid (Later.putCell hlat hg (i := j * 3 + 2) (.int .i64 (ng (ls[j]).a)))
      clear hM
      simp only [lnF] at c2
      have hng : ng (ls[j]).a = wrap64 (-(ls[j]).a) := i64_wrap _
      rw [hng] at HS HB
      clear hng
      generalize (ls[j]).a = a at *
      go_wp2
      go_roundw
      case rel => exact ⟨j + 1, by omega, by go_num, HS.out, HB.out⟩
      case measure => simp [intOf]; omega
    · have hR : Hid (RowT 41 3 lnF wr (.slice p1 L cp1) (turnL ls)) := Lib.hid (by
        rw [turnJ_all (by rw [HL.out]; omega)] at hM
        exact (hM.rowT lnCs lnCs_len lnCs_cell (by decide)).1)
      have hlat := hM.lat
      clear hM
      go_wp2
      go_ret
      exact ⟨_, rfl, hR.out, hlat⟩


set_option maxHeartbeats 1600000 in
theorem equal_any (xs ys : List Ln) (hlen : xs.length ≤ 100000) (hlen2 : ys.length ≤ 100000) (v u : Value) (w : World) (hN : IsLines w v xs) (hM : IsLines w u ys) :
    Calls Tryd.prog 69 #[v, u] w fun e w' => e = .returned (.bool (decide (xs = ys))) ∧ Later w w' := by
  obtain ⟨p, cp, rfl⟩ := hN.form
  obtain ⟨q, cq, rfl⟩ := hM.form
  by_cases hl : xs.length = ys.length
  · have HN := Lib.hid hN
    have HM := Lib.hid hM
    clear hN hM
    rw [← hl] at HM hlen2 ⊢
    obtain ⟨L, hL⟩ : ∃ L, xs.length = L := ⟨_, rfl⟩
    rw [hL] at HN HM hlen hlen2 hl ⊢
    have HL := Lib.hid hL
    have HL2 := Lib.hid hl
    clear hL hl
    obtain ⟨r, hr⟩ : ∃ r, decide (xs = ys) = r := ⟨_, rfl⟩
    rw [hr]
    have hr := Lib.hid hr
    go_enter Tryd.func69, Tryd.ntmps69
    go_wp2
    go_loopw [13] (fun s13 wr => ∃ j : Nat, j ≤ L ∧ s13 = .int .i64 j ∧ Hid (∀ i (h1 : i < xs.length) (h2 : i < ys.length), i < j → xs[i] = ys[i]) ∧ Later w wr) (fun s13 _ => L - (intOf s13).toNat)
    case atStart => exact ⟨0, Nat.zero_le _, rfl, Lib.hid (fun i _ _ h => by omega), Later.refl _⟩
    case round =>
      obtain ⟨j, hj, rfl, hall, hlat⟩ := hrel
      by_cases hlt : j < L
      · have hj1 : j < xs.length := by rw [HL.out]; exact hlt
        have hj2 : j < ys.length := by rw [← HL2.out]; exact hlt
        obtain ⟨b, o, cp', hv, hb, g⟩ := HN.out.full (i := j) hj1
        rw [HL.out] at hv
        cases hv
        obtain ⟨b', o', cq', hv, hb', k⟩ := HM.out.full (i := j) hj2
        rw [← HL2.out] at hv
        cases hv
        have g0 := ((bcell hlat).1 _ _ hb).trans (g 0 (by omega))
        have g1 := ((bcell hlat).1 _ _ hb).trans (g 1 (by omega))
        have g2 := ((bcell hlat).1 _ _ hb).trans (g 2 (by omega))
        have k0 := ((bcell hlat).1 _ _ hb').trans (k 0 (by omega))
        have k1 := ((bcell hlat).1 _ _ hb').trans (k 1 (by omega))
        have k2 := ((bcell hlat).1 _ _ hb').trans (k 2 (by omega))
        simp only [lnF, Nat.add_zero] at g0 g1 g2 k0 k1 k2
        have hb := Nat.lt_of_lt_of_le hb (Later.size hlat)
        have hb' := Nat.lt_of_lt_of_le hb' (Later.size hlat)
        clear g k HN HM
        by_cases he : xs[j] = ys[j]
        · have HA : Hid (∀ i (h1 : i < xs.length) (h2 : i < ys.length), i < j + 1 → xs[i] = ys[i]) := Lib.hid (fun i h1 h2 h3 => by
            by_cases h : i = j
            · subst h; exact he
            · exact hall.out i h1 h2 (by omega))
          clear hall
          rw [← he] at k0 k1 k2
          clear he hr HL HL2
          generalize xs[j] = X at *
          obtain ⟨x0, x1, x2⟩ := X
          simp only at g0 g1 g2 k0 k1 k2
          go_upto_region 6 with (fail)
          refine wp_region_plan 9 (.done [0, 1, 2, 3, 4, 5, 6, 7, 8]) (by kernel_rfl) (by kernel_rfl) (fun _ _ d _ _ h => by cases d <;> exact h) ?_
          repeat' (first
            | (refine plan_done (fun K hK => ?_); (first | (simp only [pick_cons, pick_nil, toList_some_append, List.getElem?_toArray, List.getElem?_cons_zero, List.getElem?_cons_succ]; repeat (go_big_quiet_step (fail))) | simp only [pick_nil]); refine wpQuiet_nil (hK _ ?_); clear hK K)
            | ((with_reducible refine at_list ?_); go_wp2_with (fail); first | refine behind_store (t := 9) (by decide) ?_ | refine behind (by repeat (first | with_reducible exact Later.refl _ | with_reducible assumption | with_reducible refine Later.ofdrew ?_ | with_reducible refine Later.ofdrewN ?_ | with_reducible refine Later.alloc ?_ _ | with_reducible refine Later.drewN ?_ _ | with_reducible refine Later.drew ?_ | (with_reducible refine Later.trans ?_ (by assumption)))) ?_))
          go_wp2
          go_roundw
          case rel => exact ⟨j + 1, by omega, by go_num, HA, by repeat (first | with_reducible exact Later.refl _ | with_reducible assumption | with_reducible refine Later.ofdrew ?_ | with_reducible refine Later.ofdrewN ?_ | with_reducible refine Later.setCell ?_ ?_ _ | with_reducible refine Later.alloc ?_ _ | with_reducible refine Later.drewN ?_ _ | with_reducible refine Later.drew ?_ | (with_reducible refine Later.trans ?_ (by assumption)) | (simp only [World.size_setCell, World.size_alloc, World.heap_drewN]; omega) | (simp; done) | (simp; omega))⟩
          case measure => simp [intOf]; omega
        · have hr2 : r = false := by
            rw [← hr.out, decide_eq_false_iff_not]
            intro e
            exact he (by simp only [e])
          subst hr2
          clear hall hr HL HL2
          generalize xs[j] = X at *
          generalize ys[j] = Y at *
          obtain ⟨x0, x1, x2⟩ := X
          obtain ⟨y0, y1, y2⟩ := Y
          simp only at g0 g1 g2 k0 k1 k2
          have hd : x0 ≠ y0 ∨ (x0 = y0 ∧ x1 ≠ y1) ∨ (x0 = y0 ∧ x1 = y1 ∧ x2 ≠ y2) := by
            by_cases e0 : x0 = y0
            · by_cases e1 : x1 = y1
              · exact .inr (.inr ⟨e0, e1, fun e2 => he (by rw [e0, e1, e2])⟩)
              · exact .inr (.inl ⟨e0, e1⟩)
            · exact .inl e0
          clear he
          rcases hd with h | ⟨rfl, h⟩ | ⟨rfl, rfl, h⟩
          · have hq : (x0 == y0) = false := by simpa using h
            go_upto_region 6 with (fail)
            refine wp_region_plan 9 (.done [0, 1, 2, 3, 4, 5, 6, 7, 8]) (by kernel_rfl) (by kernel_rfl) (fun _ _ d _ _ h => by cases d <;> exact h) ?_
            repeat' (first
              | (refine plan_done (fun K hK => ?_); (first | (simp only [pick_cons, pick_nil, toList_some_append, List.getElem?_toArray, List.getElem?_cons_zero, List.getElem?_cons_succ]; repeat (go_big_quiet_step (fail))) | simp only [pick_nil]); refine wpQuiet_nil (hK _ ?_); clear hK K)
              | ((with_reducible refine at_list ?_); go_wp2_with (fail); first | refine behind_store (t := 9) (by decide) ?_ | refine behind (by repeat (first | with_reducible exact Later.refl _ | with_reducible assumption | with_reducible refine Later.ofdrew ?_ | with_reducible refine Later.ofdrewN ?_ | with_reducible refine Later.alloc ?_ _ | with_reducible refine Later.drewN ?_ _ | with_reducible refine Later.drew ?_ | (with_reducible refine Later.trans ?_ (by assumption)))) ?_))
            go_wp2
            go_ret
            exact ⟨rfl, by repeat (first | with_reducible exact Later.refl _ | with_reducible assumption | with_reducible refine Later.ofdrew ?_ | with_reducible refine Later.ofdrewN ?_ | with_reducible refine Later.setCell ?_ ?_ _ | with_reducible refine Later.alloc ?_ _ | with_reducible refine Later.drewN ?_ _ | with_reducible refine Later.drew ?_ | (with_reducible refine Later.trans ?_ (by assumption)) | (simp only [World.size_setCell, World.size_alloc, World.heap_drewN]; omega) | (simp; done) | (simp; omega))⟩
          · have hq : (x1 == y1) = false := by simpa using h
            go_upto_region 6 with (fail)
            refine wp_region_plan 9 (.done [0, 1, 2, 3, 4, 5, 6, 7, 8]) (by kernel_rfl) (by kernel_rfl) (fun _ _ d _ _ h => by cases d <;> exact h) ?_
            repeat' (first
              | (refine plan_done (fun K hK => ?_); (first | (simp only [pick_cons, pick_nil, toList_some_append, List.getElem?_toArray, List.getElem?_cons_zero, List.getElem?_cons_succ]; repeat (go_big_quiet_step (fail))) | simp only [pick_nil]); refine wpQuiet_nil (hK _ ?_); clear hK K)
              | ((with_reducible refine at_list ?_); go_wp2_with (fail); first | refine behind_store (t := 9) (by decide) ?_ | refine behind (by repeat (first | with_reducible exact Later.refl _ | with_reducible assumption | with_reducible refine Later.ofdrew ?_ | with_reducible refine Later.ofdrewN ?_ | with_reducible refine Later.alloc ?_ _ | with_reducible refine Later.drewN ?_ _ | with_reducible refine Later.drew ?_ | (with_reducible refine Later.trans ?_ (by assumption)))) ?_))
            go_wp2
            go_ret
            exact ⟨rfl, by repeat (first | with_reducible exact Later.refl _ | with_reducible assumption | with_reducible refine Later.ofdrew ?_ | with_reducible refine Later.ofdrewN ?_ | with_reducible refine Later.setCell ?_ ?_ _ | with_reducible refine Later.alloc ?_ _ | with_reducible refine Later.drewN ?_ _ | with_reducible refine Later.drew ?_ | (with_reducible refine Later.trans ?_ (by assumption)) | (simp only [World.size_setCell, World.size_alloc, World.heap_drewN]; omega) | (simp; done) | (simp; omega))⟩
          · have hq : (x2 == y2) = false := by simpa using h
            go_upto_region 6 with (fail)
            refine wp_region_plan 9 (.done [0, 1, 2, 3, 4, 5, 6, 7, 8]) (by kernel_rfl) (by kernel_rfl) (fun _ _ d _ _ h => by cases d <;> exact h) ?_
            repeat' (first
              | (refine plan_done (fun K hK => ?_); (first | (simp only [pick_cons, pick_nil, toList_some_append, List.getElem?_toArray, List.getElem?_cons_zero, List.getElem?_cons_succ]; repeat (go_big_quiet_step (fail))) | simp only [pick_nil]); refine wpQuiet_nil (hK _ ?_); clear hK K)
              | ((with_reducible refine at_list ?_); go_wp2_with (fail); first | refine behind_store (t := 9) (by decide) ?_ | refine behind (by repeat (first | with_reducible exact Later.refl _ | with_reducible assumption | with_reducible refine Later.ofdrew ?_ | with_reducible refine Later.ofdrewN ?_ | with_reducible refine Later.alloc ?_ _ | with_reducible refine Later.drewN ?_ _ | with_reducible refine Later.drew ?_ | (with_reducible refine Later.trans ?_ (by assumption)))) ?_))
            go_wp2
            go_ret
            exact ⟨rfl, by repeat (first | with_reducible exact Later.refl _ | with_reducible assumption | with_reducible refine Later.ofdrew ?_ | with_reducible refine Later.ofdrewN ?_ | with_reducible refine Later.setCell ?_ ?_ _ | with_reducible refine Later.alloc ?_ _ | with_reducible refine Later.drewN ?_ _ | with_reducible refine Later.drew ?_ | (with_reducible refine Later.trans ?_ (by assumption)) | (simp only [World.size_setCell, World.size_alloc, World.heap_drewN]; omega) | (simp; done) | (simp; omega))⟩
      · have hr2 : r = true := by
          rw [← hr.out, decide_eq_true_eq]
          refine List.ext_getElem (by rw [HL.out]; exact HL2.out) (fun i h1 h2 => hall.out i h1 h2 ?_)
          rw [HL.out] at h1; omega
        subst hr2
        clear hall hr
        go_wp2
        go_ret
        exact ⟨rfl, hlat⟩
  · have hd : decide (xs = ys) = false := by simp; intro e; exact hl (by rw [e])
    rw [hd]
    have h2 : ((xs.length : Int) == (ys.length : Int)) = false := by rw [beq_eq_false_iff_ne]; exact fun e => hl (Int.ofNat.inj e)
    have h3 : ((xs.length : Int) != (ys.length : Int)) = true := by rw [bne_iff_ne]; exact fun e => hl (Int.ofNat.inj e)
    clear hN hM hd
    generalize xs.length = L at *
    generalize ys.length = K at *
    go_enter Tryd.func69, Tryd.ntmps69
    go_wp2
    go_ret
    exact ⟨rfl, Later.refl _⟩

end Go.Proofs.YtpblfheeeifjcaaDoor
