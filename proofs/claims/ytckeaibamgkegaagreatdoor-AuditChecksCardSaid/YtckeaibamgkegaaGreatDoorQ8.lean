/- an entry that mirrors another one; a flow -/
import Derived.Test.YtckeaibamgkegaaGreatDoorQ7
set_option linter.all false
set_option linter.all false
section
/- lines turned, held against each other; an entry's mirror; a flow -/
namespace Go.Proofs.YtckeaibamgkegaaGreatDoor
open Go.RowKit
set_option maxRecDepth 100000

theorem i64_wrap (n : Int) : IntKind.i64.wrap n = wrap64 n := by
  have e : IntKind.i64.wrap n = if (true && decide (n % 18446744073709551616 ≥ 9223372036854775808)) = true then n % 18446744073709551616 - 18446744073709551616 else n % 18446744073709551616 := rfl
  rw [e]
  unfold wrap64
  simp only [Bool.true_and, decide_eq_true_eq]
  split <;> omega
theorem set_three (X Y : List Value) (a b c u : Value) : (X ++ a :: b :: c :: Y).set (X.length + 2) u = X ++ a :: b :: u :: Y := by
  rw [List.set_append_right _ _ (by omega), show X.length + 2 - X.length = 2 by omega]; rfl
/-- Lines, the first j of which are turned. -/
def turnJ (ls : List Ln) (j : Nat) : List Ln := turnL (ls.take j) ++ ls.drop j
theorem turnJ_cells {ls : List Ln} {j : Nat} (h : j < ls.length) : ((turnJ ls j).flatMap lnCs).set (j * 3 + 2) (.int .i64 (ng (ls[j]).a)) = (turnJ ls (j + 1)).flatMap lnCs := by
  have e1 : ls.drop j = ls[j] :: ls.drop (j + 1) := List.drop_eq_getElem_cons h
  have e2 : turnL (ls.take (j + 1)) = turnL (ls.take j) ++ [{ ls[j] with a := ng (ls[j]).a }] := by
    rw [List.take_add_one, List.getElem?_eq_getElem h, Option.toList_some]; unfold turnL; rw [List.map_append]; rfl
  have e3 : ((turnL (ls.take j)).flatMap lnCs).length = j * 3 := by
    rw [flat_len lnCs lnCs_len]; unfold turnL; rw [List.length_map, List.length_take, Nat.min_eq_left (by omega)]
  unfold turnJ
  rw [e1, e2, List.flatMap_append, List.flatMap_append, List.flatMap_append, List.flatMap_cons, ← e3]
  simp only [lnCs, List.cons_append, List.nil_append, List.append_assoc, List.flatMap_cons, List.flatMap_nil]
  rw [set_three]
theorem turnJ_at {ls : List Ln} {j k : Nat} (h : j < ls.length) (hk : k < 3) : ((turnJ ls j).flatMap lnCs)[j * 3 + k]? = some (lnF ls[j] k) := by
  have hl : (turnJ ls j).length = ls.length := by unfold turnJ turnL; simp; omega
  rw [flat_get lnCs lnCs_len (turnJ ls j) j (by omega) k hk, lnCs_cell _ _ hk]
  congr 2
  unfold turnJ turnL
  rw [List.getElem_append_right (by simp; omega)]
  simp [Nat.min_eq_left (Nat.le_of_lt h)]
theorem turnJ_zero (ls : List Ln) : turnJ ls 0 = ls := rfl
theorem turnJ_all {ls : List Ln} {j : Nat} (h : ls.length ≤ j) : turnJ ls j = turnL ls := by
  unfold turnJ; rw [List.take_of_length_le h, List.drop_of_length_le h, List.append_nil]


set_option maxHeartbeats 1600000 in
theorem turned_any (ls : List Ln) (hlen : ls.length ≤ 100000) (v : Value) (w : World) (hN : IsLines w v ls) :
    Calls Tryz.prog 82 #[v] w fun e w' => ∃ v', e = .returned v' ∧ RowT 92 3 lnF w' v' (turnL ls) ∧ Later w w' := by
  have HC := Lib.hid (fun W (hl : Later w W) => lines_clone ls hlen (fun x _ => lnCs_one x) v W (IsRow.later hN hl))
  obtain ⟨p, cp, rfl⟩ := hN.form
  clear hN
  obtain ⟨L, hL⟩ : ∃ L, ls.length = L := ⟨_, rfl⟩
  rw [hL] at HC hlen ⊢
  have HL := Lib.hid hL
  clear hL
  go_enter Tryz.func82, Tryz.ntmps82
  go_upto_region 2 with (go_at_call 41; go_must (refine (HC.out _ (by repeat (first | with_reducible exact Later.refl _ | with_reducible assumption | with_reducible refine Later.ofdrew ?_ | with_reducible refine Later.ofdrewN ?_ | with_reducible refine Later.setCell ?_ ?_ _ | with_reducible refine Later.alloc ?_ _ | with_reducible refine Later.drewN ?_ _ | with_reducible refine Later.drew ?_ | (with_reducible refine Later.trans ?_ (by assumption)) | (simp only [World.size_setCell, World.size_alloc, World.heap_drewN]; omega) | (simp; done) | (simp; omega)))).mono ?_; rintro e w1 ⟨v1, rfl, hM⟩; obtain ⟨p1, cp1, rfl⟩ := hM.form; have hb1 := hM.lat; have HM := Lib.hid hM; clear hM HC))
  go_wp2
  go_loopw [9] (fun s9 wr => ∃ j : Nat, j ≤ L ∧ s9 = .int .i64 j ∧ Mine w 92 3 wr (.slice p1 L cp1) L ((turnJ ls j).flatMap lnCs)) (fun s9 _ => L - (intOf s9).toNat)
  case atStart => exact ⟨0, Nat.zero_le _, rfl, HM.out⟩
  case round =>
    obtain ⟨j, hj, rfl, hM⟩ := hrel
    clear HM
    by_cases hlt : j < L
    · have hjl : j < ls.length := by rw [HL.out]; exact hlt
      obtain ⟨g, rfl⟩ : ∃ g, p1 = some ⟨g, 0, none⟩ := by
        rcases hM.1.2 with ⟨h1, h2⟩ | ⟨g, cap, cur, h1, _⟩
        · omega
        · cases h1; exact ⟨g, rfl⟩
      have c2 := hM.1.cellAt (j * 3 + 2) (by omega)
      rw [turnJ_at hjl (by decide)] at c2
      have f2 := hM.1.frozenAt (j * 3 + 2)
      have HS := (hM.1.stored (j * 3 + 2) (.int .i64 (ng (ls[j]).a))).1
      rw [turnJ_cells hjl] at HS
      have HS := Lib.hid HS
      have hg := (hM.1.lt g rfl).1
      have hz := (hM.1.lt g rfl).2
      have hlat := hM.lat
      have HB := Lib.hid (Later.putCell hlat hg (i := j * 3 + 2) (.int .i64 (ng (ls[j]).a)))
      clear hM
      simp only [lnF] at c2
      have hng : ng (ls[j]).a = wrap64 (-(ls[j]).a) := i64_wrap _
      rw [hng] at HS HB
      clear hng
      generalize (ls[j]).a = a at *
      go_wp2
      go_roundw
      case rel => exact ⟨j + 1, by omega, by go_num, HS.out, HB.out⟩
      case measure => simp [intOf]; omega
    · have hR : Hid (RowT 92 3 lnF wr (.slice p1 L cp1) (turnL ls)) := Lib.hid (by
        rw [turnJ_all (by rw [HL.out]; omega)] at hM
        exact (hM.rowT lnCs lnCs_len lnCs_cell (by decide)).1)
      have hlat := hM.lat
      clear hM
      go_wp2
      go_ret
      exact ⟨_, rfl, hR.out, hlat⟩


set_option maxHeartbeats 1600000 in
theorem equal_any (xs ys : List Ln) (hlen : xs.length ≤ 100000) (hlen2 : ys.length ≤ 100000) (v u : Value) (w : World) (hN : IsLines w v xs) (hM : IsLines w u ys) :
    Calls Tryz.prog 81 #[v, u] w fun e w' => e = .returned (.bool (decide (xs = ys))) ∧ Later w w' := by
  obtain ⟨p, cp, rfl⟩ := hN.form
  obtain ⟨q, cq, rfl⟩ := hM.form
  by_cases hl : xs.length = ys.length
  · have HN := Lib.hid hN
    have HM := Lib.hid hM
    clear hN hM
    rw [← hl] at HM hlen2 ⊢
    obtain ⟨L, hL⟩ : ∃ L, xs.length = L := ⟨_, rfl⟩
    rw [hL] at HN HM hlen hlen2 hl ⊢
    have HL := Lib.hid hL
    have HL2 := Lib.hid hl
    clear hL hl
    obtain ⟨r, hr⟩ : ∃ r, decide (xs = ys) = r := ⟨_, rfl⟩
    rw [hr]
    have hr := Lib.hid hr
    go_enter Tryz.func81, Tryz.ntmps81
    go_wp2
    go_loopw [13] (fun s13 wr => ∃ j : Nat, j ≤ L ∧ s13 = .int .i64 j ∧ Hid (∀ i (h1 : i < xs.length) (h2 : i < ys.length), i < j → xs[i] = ys[i]) ∧ Later w wr) (fun s13 _ => L - (intOf s13).toNat)
    case atStart => exact ⟨0, Nat.zero_le _, rfl, Lib.hid (fun i _ _ h => by omega), Later.refl _⟩
    case round =>
      obtain ⟨j, hj, rfl, hall, hlat⟩ := hrel
      by_cases hlt : j < L
      · have hj1 : j < xs.length := by rw [HL.out]; exact hlt
        have hj2 : j < ys.length := by rw [← HL2.out]; exact hlt
        obtain ⟨b, o, cp', hv, hb, g⟩ := HN.out.full (i := j) hj1
        rw [HL.out] at hv
        cases hv
        obtain ⟨b', o', cq', hv, hb', k⟩ := HM.out.full (i := j) hj2
        rw [← HL2.out] at hv
        cases hv
        have g0 := ((bcell hlat).1 _ _ hb).trans (g 0 (by omega))
        have g1 := ((bcell hlat).1 _ _ hb).trans (g 1 (by omega))
        have g2 := ((bcell hlat).1 _ _ hb).trans (g 2 (by omega))
        have k0 := ((bcell hlat).1 _ _ hb').trans (k 0 (by omega))
        have k1 := ((bcell hlat).1 _ _ hb').trans (k 1 (by omega))
        have k2 := ((bcell hlat).1 _ _ hb').trans (k 2 (by omega))
        simp only [lnF, Nat.add_zero] at g0 g1 g2 k0 k1 k2
        have hb := Nat.lt_of_lt_of_le hb (Later.size hlat)
        have hb' := Nat.lt_of_lt_of_le hb' (Later.size hlat)
        clear g k HN HM
        by_cases he : xs[j] = ys[j]
        · have HA : Hid (∀ i (h1 : i < xs.length) (h2 : i < ys.length), i < j + 1 → xs[i] = ys[i]) := Lib.hid (fun i h1 h2 h3 => by
            by_cases h : i = j
            · subst h; exact he
            · exact hall.out i h1 h2 (by omega))
          clear hall
          rw [← he] at k0 k1 k2
          clear he hr HL HL2
          generalize xs[j] = X at *
          obtain ⟨x0, x1, x2⟩ := X
          simp only at g0 g1 g2 k0 k1 k2
          go_upto_region 6 with (fail)
          refine wp_region_plan 9 (.done [0, 1, 2, 3, 4, 5, 6, 7, 8]) (by kernel_rfl) (by kernel_rfl) (fun _ _ d _ _ h => by cases d <;> exact h) ?_
          repeat' (first
            | (refine plan_done (fun K hK => ?_); (first | (simp only [pick_cons, pick_nil, toList_some_append, List.getElem?_toArray, List.getElem?_cons_zero, List.getElem?_cons_succ]; repeat (go_big_quiet_step (fail))) | simp only [pick_nil]); refine wpQuiet_nil (hK _ ?_); clear hK K)
            | ((with_reducible refine at_list ?_); go_wp2_with (fail); first | refine behind_store (t := 9) (by decide) ?_ | refine behind (by repeat (first | with_reducible exact Later.refl _ | with_reducible assumption | with_reducible refine Later.ofdrew ?_ | with_reducible refine Later.ofdrewN ?_ | with_reducible refine Later.alloc ?_ _ | with_reducible refine Later.drewN ?_ _ | with_reducible refine Later.drew ?_ | (with_reducible refine Later.trans ?_ (by assumption)))) ?_))
          go_wp2
          go_roundw
          case rel => exact ⟨j + 1, by omega, by go_num, HA, by repeat (first | with_reducible exact Later.refl _ | with_reducible assumption | with_reducible refine Later.ofdrew ?_ | with_reducible refine Later.ofdrewN ?_ | with_reducible refine Later.setCell ?_ ?_ _ | with_reducible refine Later.alloc ?_ _ | with_reducible refine Later.drewN ?_ _ | with_reducible refine Later.drew ?_ | (with_reducible refine Later.trans ?_ (by assumption)) | (simp only [World.size_setCell, World.size_alloc, World.heap_drewN]; omega) | (simp; done) | (simp; omega))⟩
          case measure => simp [intOf]; omega
        · have hr2 : r = false := by
            rw [← hr.out, decide_eq_false_iff_not]
            intro e
            exact he (by simp only [e])
          subst hr2
          clear hall hr HL HL2
          generalize xs[j] = X at *
          generalize ys[j] = Y at *
          obtain ⟨x0, x1, x2⟩ := X
          obtain ⟨y0, y1, y2⟩ := Y
          simp only at g0 g1 g2 k0 k1 k2
          have hd : x0 ≠ y0 ∨ (x0 = y0 ∧ x1 ≠ y1) ∨ (x0 = y0 ∧ x1 = y1 ∧ x2 ≠ y2) := by
            by_cases e0 : x0 = y0
            · by_cases e1 : x1 = y1
              · exact .inr (.inr ⟨e0, e1, fun e2 => he (by rw [e0, e1, e2])⟩)
              · exact .inr (.inl ⟨e0, e1⟩)
            · exact .inl e0
          clear he
          rcases hd with h | ⟨rfl, h⟩ | ⟨rfl, rfl, h⟩
          · have hq : (x0 == y0) = false := by simpa using h
            go_upto_region 6 with (fail)
            refine wp_region_plan 9 (.done [0, 1, 2, 3, 4, 5, 6, 7, 8]) (by kernel_rfl) (by kernel_rfl) (fun _ _ d _ _ h => by cases d <;> exact h) ?_
            repeat' (first
              | (refine plan_done (fun K hK => ?_); (first | (simp only [pick_cons, pick_nil, toList_some_append, List.getElem?_toArray, List.getElem?_cons_zero, List.getElem?_cons_succ]; repeat (go_big_quiet_step (fail))) | simp only [pick_nil]); refine wpQuiet_nil (hK _ ?_); clear hK K)
              | ((with_reducible refine at_list ?_); go_wp2_with (fail); first | refine behind_store (t := 9) (by decide) ?_ | refine behind (by repeat (first | with_reducible exact Later.refl _ | with_reducible assumption | with_reducible refine Later.ofdrew ?_ | with_reducible refine Later.ofdrewN ?_ | with_reducible refine Later.alloc ?_ _ | with_reducible refine Later.drewN ?_ _ | with_reducible refine Later.drew ?_ | (with_reducible refine Later.trans ?_ (by assumption)))) ?_))
            go_wp2
            go_ret
            exact ⟨rfl, by repeat (first | with_reducible exact Later.refl _ | with_reducible assumption | with_reducible refine Later.ofdrew ?_ | with_reducible refine Later.ofdrewN ?_ | with_reducible refine Later.setCell ?_ ?_ _ | with_reducible refine Later.alloc ?_ _ | with_reducible refine Later.drewN ?_ _ | with_reducible refine Later.drew ?_ | (with_reducible refine Later.trans ?_ (by assumption)) | (simp only [World.size_setCell, World.size_alloc, World.heap_drewN]; omega) | (simp; done) | (simp; omega))⟩
          · have hq : (x1 == y1) = false := by simpa using h
            go_upto_region 6 with (fail)
            refine wp_region_plan 9 (.done [0, 1, 2, 3, 4, 5, 6, 7, 8]) (by kernel_rfl) (by kernel_rfl) (fun _ _ d _ _ h => by cases d <;> exact h) ?_
            repeat' (first
              | (refine plan_done (fun K hK => ?_); (first | (simp only [pick_cons, pick_nil, toList_some_append, List.getElem?_toArray, List.getElem?_cons_zero, List.getElem?_cons_succ]; repeat (go_big_quiet_step (fail))) | simp only [pick_nil]); refine wpQuiet_nil (hK _ ?_); clear hK K)
              | ((with_reducible refine at_list ?_); go_wp2_with (fail); first | refine behind_store (t := 9) (by decide) ?_ | refine behind (by repeat (first | with_reducible exact Later.refl _ | with_reducible assumption | with_reducible refine Later.ofdrew ?_ | with_reducible refine Later.ofdrewN ?_ | with_reducible refine Later.alloc ?_ _ | with_reducible refine Later.drewN ?_ _ | with_reducible refine Later.drew ?_ | (with_reducible refine Later.trans ?_ (by assumption)))) ?_))
            go_wp2
            go_ret
            exact ⟨rfl, by repeat (first | with_reducible exact Later.refl _ | with_reducible assumption | with_reducible refine Later.ofdrew ?_ | with_reducible refine Later.ofdrewN ?_ | with_reducible refine Later.setCell ?_ ?_ _ | with_reducible refine Later.alloc ?_ _ | with_reducible refine Later.drewN ?_ _ | with_reducible refine Later.drew ?_ | (with_reducible refine Later.trans ?_ (by assumption)) | (simp only [World.size_setCell, World.size_alloc, World.heap_drewN]; omega) | (simp; done) | (simp; omega))⟩
          · have hq : (x2 == y2) = false := by simpa using h
            go_upto_region 6 with (fail)
            refine wp_region_plan 9 (.done [0, 1, 2, 3, 4, 5, 6, 7, 8]) (by kernel_rfl) (by kernel_rfl) (fun _ _ d _ _ h => by cases d <;> exact h) ?_
            repeat' (first
              | (refine plan_done (fun K hK => ?_); (first | (simp only [pick_cons, pick_nil, toList_some_append, List.getElem?_toArray, List.getElem?_cons_zero, List.getElem?_cons_succ]; repeat (go_big_quiet_step (fail))) | simp only [pick_nil]); refine wpQuiet_nil (hK _ ?_); clear hK K)
              | ((with_reducible refine at_list ?_); go_wp2_with (fail); first | refine behind_store (t := 9) (by decide) ?_ | refine behind (by repeat (first | with_reducible exact Later.refl _ | with_reducible assumption | with_reducible refine Later.ofdrew ?_ | with_reducible refine Later.ofdrewN ?_ | with_reducible refine Later.alloc ?_ _ | with_reducible refine Later.drewN ?_ _ | with_reducible refine Later.drew ?_ | (with_reducible refine Later.trans ?_ (by assumption)))) ?_))
            go_wp2
            go_ret
            exact ⟨rfl, by repeat (first | with_reducible exact Later.refl _ | with_reducible assumption | with_reducible refine Later.ofdrew ?_ | with_reducible refine Later.ofdrewN ?_ | with_reducible refine Later.setCell ?_ ?_ _ | with_reducible refine Later.alloc ?_ _ | with_reducible refine Later.drewN ?_ _ | with_reducible refine Later.drew ?_ | (with_reducible refine Later.trans ?_ (by assumption)) | (simp only [World.size_setCell, World.size_alloc, World.heap_drewN]; omega) | (simp; done) | (simp; omega))⟩
      · have hr2 : r = true := by
          rw [← hr.out, decide_eq_true_eq]
          refine List.ext_getElem (by rw [HL.out]; exact HL2.out) (fun i h1 h2 => hall.out i h1 h2 ?_)
          rw [HL.out] at h1; omega
        subst hr2
        clear hall hr
        go_wp2
        go_ret
        exact ⟨rfl, hlat⟩
  · have hd : decide (xs = ys) = false := by simp; intro e; exact hl (by rw [e])
    rw [hd]
    have h2 : ((xs.length : Int) == (ys.length : Int)) = false := by rw [beq_eq_false_iff_ne]; exact fun e => hl (Int.ofNat.inj e)
    have h3 : ((xs.length : Int) != (ys.length : Int)) = true := by rw [bne_iff_ne]; exact fun e => hl (Int.ofNat.inj e)
    clear hN hM hd
    generalize xs.length = L at *
    generalize ys.length = K at *
    go_enter Tryz.func81, Tryz.ntmps81
    go_wp2
    go_ret
    exact ⟨rfl, Later.refl _⟩

end Go.Proofs.YtckeaibamgkegaaGreatDoor
end
section
/- an entry that mirrors another one; a flow -/
namespace Go.Proofs.YtckeaibamgkegaaGreatDoor
open Go.RowKit
set_option maxRecDepth 100000


set_option maxHeartbeats 1600000 in
theorem mirrors_any (con day cur seq per ref : Int) (u : Value) (ls : List Ln) (con' day' cur' seq' per' ref' : Int) (u' : Value) (ls' : List Ln) (hlen : ls.length ≤ 100000) (hlen2 : ls'.length ≤ 100000) (w : World) (hN : IsLines w u ls) (hM : IsLines w u' ls') :
    Calls Tryz.prog 65 #[.agg #[.int .i64 con, .int .i64 day, .int .i64 cur, .int .i64 seq, .int .i64 per, .int .i64 ref, u], .agg #[.int .i64 con', .int .i64 day', .int .i64 cur', .int .i64 seq', .int .i64 per', .int .i64 ref', u']] w fun e w' => e = .returned (.bool (mirE ⟨con, day, cur, seq, per, ref, ls⟩ ⟨con', day', cur', seq', per', ref', ls'⟩)) ∧ Later w w' := by
  have HT := Lib.hid (fun W (hl : Later w W) => turned_any ls hlen u W (IsRow.later hN hl))
  have HE := Lib.hid (fun v W (hl : Later w W) (hv : IsLines W v (turnL ls)) => equal_any (turnL ls) ls' (by unfold turnL; rw [List.length_map]; exact hlen) hlen2 v u' W hv (IsRow.later hM hl))
  obtain ⟨r, hr⟩ : ∃ r, mirE ⟨con, day, cur, seq, per, ref, ls⟩ ⟨con', day', cur', seq', per', ref', ls'⟩ = r := ⟨_, rfl⟩
  rw [hr]
  unfold mirE at hr
  simp only at hr
  generalize decide (turnL ls = ls') = b at *
  obtain ⟨p, cp, rfl⟩ := hN.form
  obtain ⟨q, cq, rfl⟩ := hM.form
  clear hN hM hlen hlen2
  generalize ls'.length = K at *
  have hd : (con = con' ∧ day = day' ∧ cur = cur') ∨ con ≠ con' ∨ (con = con' ∧ day ≠ day') ∨ (con = con' ∧ day = day' ∧ cur ≠ cur') := by
    by_cases e0 : con = con'
    · by_cases e1 : day = day'
      · by_cases e2 : cur = cur'
        · exact .inl ⟨e0, e1, e2⟩
        · exact .inr (.inr (.inr ⟨e0, e1, e2⟩))
      · exact .inr (.inr (.inl ⟨e0, e1⟩))
    · exact .inr (.inl e0)
  rcases hd with ⟨rfl, rfl, rfl⟩ | h | ⟨rfl, h⟩ | ⟨rfl, rfl, h⟩
  · have hr2 : r = b := by rw [← hr]; simp
    subst hr2
    clear hr
    go_enter Tryz.func65, Tryz.ntmps65
    go_upto_region 1 with (fail)
    refine wp_opaque (fun w0 hb0 => ?_)
    have hO := Own.two hb0
    have hO0 := hO
    obtain ⟨⟨z1, c1, -⟩, ⟨z2, c2, -⟩, -⟩ := hO0
    have hb1 := hb0.un1.un1
    clear hb0
    refine wp_region_plan 14 (.one [0, 1, 2, 3, 4, 5, 6, 7, 9, 10] 8 (.one [] 11 (.done [12, 13]))) (by kernel_rfl) (by kernel_rfl) (fun _ _ d _ _ h => by cases d <;> exact h) ?_
    repeat' (first
      | (refine plan_done (fun K hK => ?_); (first | (simp only [pick_cons, pick_nil, toList_some_append, List.getElem?_toArray, List.getElem?_cons_zero, List.getElem?_cons_succ]; repeat (go_big_quiet_step (fail))) | simp only [pick_nil]); refine wpQuiet_nil (hK _ ?_); clear hK K)
      | (refine plan_one (by rfl) (fun K hK => ?_); (first | (simp only [pick_cons, pick_nil, toList_some_append, List.getElem?_toArray, List.getElem?_cons_zero, List.getElem?_cons_succ]; repeat (go_big_quiet_step (fail))) | simp only [pick_nil]); refine wpQuiet_nil (hK _ ?_); clear hK K)
      | ((with_reducible refine at_list ?_); go_wp2_with (first | (go_at_call 82; go_must (refine (HT.out _ (by repeat (first | with_reducible exact Later.refl _ | with_reducible assumption | with_reducible refine Later.ofdrew ?_ | with_reducible refine Later.ofdrewN ?_ | with_reducible refine Later.setCell ?_ ?_ _ | with_reducible refine Later.alloc ?_ _ | with_reducible refine Later.drewN ?_ _ | with_reducible refine Later.drew ?_ | (with_reducible refine Later.trans ?_ (by assumption)) | (simp only [World.size_setCell, World.size_alloc, World.heap_drewN]; omega) | (simp; done) | (simp; omega)))).mono ?_; rintro e w2 ⟨v2, rfl, hR2, hb2⟩; clear c1 z1 c2 z2; obtain ⟨⟨z1, c1, -⟩, ⟨z2, c2, -⟩, -⟩ := hO.later (by repeat (first | with_reducible exact Later.refl _ | with_reducible assumption | with_reducible refine Later.ofdrew ?_ | with_reducible refine Later.ofdrewN ?_ | with_reducible refine Later.setCell ?_ ?_ _ | with_reducible refine Later.alloc ?_ _ | with_reducible refine Later.drewN ?_ _ | with_reducible refine Later.drew ?_ | (with_reducible refine Later.trans ?_ (by assumption)) | (simp only [World.size_setCell, World.size_alloc, World.heap_drewN]; omega) | (simp; done) | (simp; omega))))) | (go_at_call 81; go_must (refine (HE.out _ _ (by repeat (first | with_reducible exact Later.refl _ | with_reducible assumption | with_reducible refine Later.ofdrew ?_ | with_reducible refine Later.ofdrewN ?_ | with_reducible refine Later.setCell ?_ ?_ _ | with_reducible refine Later.alloc ?_ _ | with_reducible refine Later.drewN ?_ _ | with_reducible refine Later.drew ?_ | (with_reducible refine Later.trans ?_ (by assumption)) | (simp only [World.size_setCell, World.size_alloc, World.heap_drewN]; omega) | (simp; done) | (simp; omega))) hR2.1).mono ?_; rintro e w3 ⟨rfl, hb3⟩))); first | refine behind_store (t := 14) (by decide) ?_ | refine behind (by repeat (first | with_reducible exact Later.refl _ | with_reducible assumption | with_reducible refine Later.ofdrew ?_ | with_reducible refine Later.ofdrewN ?_ | with_reducible refine Later.alloc ?_ _ | with_reducible refine Later.drewN ?_ _ | with_reducible refine Later.drew ?_ | (with_reducible refine Later.trans ?_ (by assumption)))) ?_))
    go_wp2
    go_ret
    exact ⟨rfl, by repeat (first | with_reducible exact Later.refl _ | with_reducible assumption | with_reducible refine Later.ofdrew ?_ | with_reducible refine Later.ofdrewN ?_ | with_reducible refine Later.setCell ?_ ?_ _ | with_reducible refine Later.alloc ?_ _ | with_reducible refine Later.drewN ?_ _ | with_reducible refine Later.drew ?_ | (with_reducible refine Later.trans ?_ (by assumption)) | (simp only [World.size_setCell, World.size_alloc, World.heap_drewN]; omega) | (simp; done) | (simp; omega))⟩
  · have hq : (con == con') = false := by simpa using h
    have hr2 : r = false := by rw [← hr]; simp [h]
    subst hr2
    clear hr h HT HE
    go_enter Tryz.func65, Tryz.ntmps65
    go_upto_region 1 with (fail)
    refine wp_opaque (fun w0 hb0 => ?_)
    have hO := Own.two hb0
    have hO0 := hO
    obtain ⟨⟨z1, c1, -⟩, ⟨z2, c2, -⟩, -⟩ := hO0
    have hb1 := hb0.un1.un1
    clear hb0
    refine wp_region_plan 14 (.one [0, 1, 2, 3, 4, 5, 6, 7, 9, 10] 8 (.one [] 11 (.done [12, 13]))) (by kernel_rfl) (by kernel_rfl) (fun _ _ d _ _ h => by cases d <;> exact h) ?_
    repeat' (first
      | (refine plan_done (fun K hK => ?_); (first | (simp only [pick_cons, pick_nil, toList_some_append, List.getElem?_toArray, List.getElem?_cons_zero, List.getElem?_cons_succ]; repeat (go_big_quiet_step (fail))) | simp only [pick_nil]); refine wpQuiet_nil (hK _ ?_); clear hK K)
      | (refine plan_one (by rfl) (fun K hK => ?_); (first | (simp only [pick_cons, pick_nil, toList_some_append, List.getElem?_toArray, List.getElem?_cons_zero, List.getElem?_cons_succ]; repeat (go_big_quiet_step (fail))) | simp only [pick_nil]); refine wpQuiet_nil (hK _ ?_); clear hK K)
      | ((with_reducible refine at_list ?_); go_wp2_with (fail); first | refine behind_store (t := 14) (by decide) ?_ | refine behind (by repeat (first | with_reducible exact Later.refl _ | with_reducible assumption | with_reducible refine Later.ofdrew ?_ | with_reducible refine Later.ofdrewN ?_ | with_reducible refine Later.alloc ?_ _ | with_reducible refine Later.drewN ?_ _ | with_reducible refine Later.drew ?_ | (with_reducible refine Later.trans ?_ (by assumption)))) ?_))
    go_wp2
    go_ret
    exact ⟨rfl, by repeat (first | with_reducible exact Later.refl _ | with_reducible assumption | with_reducible refine Later.ofdrew ?_ | with_reducible refine Later.ofdrewN ?_ | with_reducible refine Later.setCell ?_ ?_ _ | with_reducible refine Later.alloc ?_ _ | with_reducible refine Later.drewN ?_ _ | with_reducible refine Later.drew ?_ | (with_reducible refine Later.trans ?_ (by assumption)) | (simp only [World.size_setCell, World.size_alloc, World.heap_drewN]; omega) | (simp; done) | (simp; omega))⟩
  · have hq : (day == day') = false := by simpa using h
    have hr2 : r = false := by rw [← hr]; simp [h]
    subst hr2
    clear hr h HT HE
    go_enter Tryz.func65, Tryz.ntmps65
    go_upto_region 1 with (fail)
    refine wp_opaque (fun w0 hb0 => ?_)
    have hO := Own.two hb0
    have hO0 := hO
    obtain ⟨⟨z1, c1, -⟩, ⟨z2, c2, -⟩, -⟩ := hO0
    have hb1 := hb0.un1.un1
    clear hb0
    refine wp_region_plan 14 (.one [0, 1, 2, 3, 4, 5, 6, 7, 9, 10] 8 (.one [] 11 (.done [12, 13]))) (by kernel_rfl) (by kernel_rfl) (fun _ _ d _ _ h => by cases d <;> exact h) ?_
    repeat' (first
      | (refine plan_done (fun K hK => ?_); (first | (simp only [pick_cons, pick_nil, toList_some_append, List.getElem?_toArray, List.getElem?_cons_zero, List.getElem?_cons_succ]; repeat (go_big_quiet_step (fail))) | simp only [pick_nil]); refine wpQuiet_nil (hK _ ?_); clear hK K)
      | (refine plan_one (by rfl) (fun K hK => ?_); (first | (simp only [pick_cons, pick_nil, toList_some_append, List.getElem?_toArray, List.getElem?_cons_zero, List.getElem?_cons_succ]; repeat (go_big_quiet_step (fail))) | simp only [pick_nil]); refine wpQuiet_nil (hK _ ?_); clear hK K)
      | ((with_reducible refine at_list ?_); go_wp2_with (fail); first | refine behind_store (t := 14) (by decide) ?_ | refine behind (by repeat (first | with_reducible exact Later.refl _ | with_reducible assumption | with_reducible refine Later.ofdrew ?_ | with_reducible refine Later.ofdrewN ?_ | with_reducible refine Later.alloc ?_ _ | with_reducible refine Later.drewN ?_ _ | with_reducible refine Later.drew ?_ | (with_reducible refine Later.trans ?_ (by assumption)))) ?_))
    go_wp2
    go_ret
    exact ⟨rfl, by repeat (first | with_reducible exact Later.refl _ | with_reducible assumption | with_reducible refine Later.ofdrew ?_ | with_reducible refine Later.ofdrewN ?_ | with_reducible refine Later.setCell ?_ ?_ _ | with_reducible refine Later.alloc ?_ _ | with_reducible refine Later.drewN ?_ _ | with_reducible refine Later.drew ?_ | (with_reducible refine Later.trans ?_ (by assumption)) | (simp only [World.size_setCell, World.size_alloc, World.heap_drewN]; omega) | (simp; done) | (simp; omega))⟩
  · have hq : (cur == cur') = false := by simpa using h
    have hr2 : r = false := by rw [← hr]; simp [h]
    subst hr2
    clear hr h HT HE
    go_enter Tryz.func65, Tryz.ntmps65
    go_upto_region 1 with (fail)
    refine wp_opaque (fun w0 hb0 => ?_)
    have hO := Own.two hb0
    have hO0 := hO
    obtain ⟨⟨z1, c1, -⟩, ⟨z2, c2, -⟩, -⟩ := hO0
    have hb1 := hb0.un1.un1
    clear hb0
    refine wp_region_plan 14 (.one [0, 1, 2, 3, 4, 5, 6, 7, 9, 10] 8 (.one [] 11 (.done [12, 13]))) (by kernel_rfl) (by kernel_rfl) (fun _ _ d _ _ h => by cases d <;> exact h) ?_
    repeat' (first
      | (refine plan_done (fun K hK => ?_); (first | (simp only [pick_cons, pick_nil, toList_some_append, List.getElem?_toArray, List.getElem?_cons_zero, List.getElem?_cons_succ]; repeat (go_big_quiet_step (fail))) | simp only [pick_nil]); refine wpQuiet_nil (hK _ ?_); clear hK K)
      | (refine plan_one (by rfl) (fun K hK => ?_); (first | (simp only [pick_cons, pick_nil, toList_some_append, List.getElem?_toArray, List.getElem?_cons_zero, List.getElem?_cons_succ]; repeat (go_big_quiet_step (fail))) | simp only [pick_nil]); refine wpQuiet_nil (hK _ ?_); clear hK K)
      | ((with_reducible refine at_list ?_); go_wp2_with (fail); first | refine behind_store (t := 14) (by decide) ?_ | refine behind (by repeat (first | with_reducible exact Later.refl _ | with_reducible assumption | with_reducible refine Later.ofdrew ?_ | with_reducible refine Later.ofdrewN ?_ | with_reducible refine Later.alloc ?_ _ | with_reducible refine Later.drewN ?_ _ | with_reducible refine Later.drew ?_ | (with_reducible refine Later.trans ?_ (by assumption)))) ?_))
    go_wp2
    go_ret
    exact ⟨rfl, by repeat (first | with_reducible exact Later.refl _ | with_reducible assumption | with_reducible refine Later.ofdrew ?_ | with_reducible refine Later.ofdrewN ?_ | with_reducible refine Later.setCell ?_ ?_ _ | with_reducible refine Later.alloc ?_ _ | with_reducible refine Later.drewN ?_ _ | with_reducible refine Later.drew ?_ | (with_reducible refine Later.trans ?_ (by assumption)) | (simp only [World.size_setCell, World.size_alloc, World.heap_drewN]; omega) | (simp; done) | (simp; omega))⟩

theorem ln_build (a b c : Int) (w : World) : (Instr.build 92 #[(0, .int .i64 a), (1, .int .i64 b), (2, .int .i64 c)]).run Tryz.prog w = .ok (.agg #[.int .i64 a, .int .i64 b, .int .i64 c]) w := by kernel_rfl
theorem lns_two (a b c a' b' c' : Value) (w : World) :
    (Instr.buildSlice 46 2 #[(0, .agg #[a, b, c]), (1, .agg #[a', b', c'])]).run Tryz.prog w
      = .ok (.slice (some ⟨w.heap.size, 0, none⟩) 2 2) (w.alloc (.cells #[a, b, c, a', b', c'] 92)) := by kernel_rfl
theorem en_build (a b c : Int) (p : Option Addr) (n k : Nat) (w : World) : (Instr.build 48 #[(0, .agg #[.int .i64 a, .int .i64 b, .int .i64 c]), (3, .int .i64 (-1)), (4, .slice p n k)]).run Tryz.prog w
      = .ok (.agg #[.int .i64 a, .int .i64 b, .int .i64 c, .int .i64 0, .int .i64 0, .int .i64 (-1), .slice p n k]) w := by kernel_rfl
theorem lines_new (W : World) (n : Nat) (hn : n = W.heap.size) (a b c a' b' c' : Int) : IsLines (W.alloc (.cells #[.int .i64 a, .int .i64 b, .int .i64 c, .int .i64 a', .int .i64 b', .int .i64 c'] 92)) (.slice (some ⟨n, 0, none⟩) 2 2) [⟨a, b, c⟩, ⟨a', b', c'⟩] := by
  subst hn
  obtain ⟨z, hc, -⟩ := own_get (own_alloc W #[.int .i64 a, .int .i64 b, .int .i64 c, .int .i64 a', .int .i64 b', .int .i64 c'] 92)
  refine .inr ⟨W.heap.size, 0, 2, rfl, z, by simp, by decide, fun i hi j hj => ?_⟩
  rw [Nat.zero_add, hc]
  have hi : i = 0 ∨ i = 1 := by simp at hi; omega
  have hj : j = 0 ∨ j = 1 ∨ j = 2 := by omega
  rcases hi with rfl | rfl <;> rcases hj with rfl | rfl | rfl <;> rfl
set_option maxHeartbeats 1600000 in
theorem flow_any (con day cur am h k : Int) (ht : tagB con day cur = true) (hh : inB h 16 = true) (hk : inB k 16 = true) (hne : h ≠ k) (h0 : am ≠ 0) (h1 : am ≠ -9223372036854775808) (hi : I64 am) (w : World) :
    Calls Tryz.prog 14 #[.agg #[.int .i64 con, .int .i64 day, .int .i64 cur], .int .i64 am, .int .i64 h, .int .i64 k] w fun e w' => ∃ v, e = .returned (.tuple #[.agg #[.int .i64 con, .int .i64 day, .int .i64 cur, .int .i64 0, .int .i64 0, .int .i64 (-1), v], .int .i64 0]) ∧ IsLines w' v [⟨h, cur, am⟩, ⟨k, cur, -am⟩] ∧ Later w w' := by
  have HT := Lib.hid (fun W => ht ▸ tag_any con day cur W)
  have HB1 := Lib.hid (fun W => hh ▸ below_fn h 16 W)
  have HB2 := Lib.hid (fun W => hk ▸ below_fn k 16 W)
  have e1 : (h == k) = false := by simpa using hne
  have e2 : (am == 0) = false := by simpa using h0
  have e3 : (am == -9223372036854775808) = false := by simpa using h1
  have e4 : IntKind.i64.wrap (-am) = -am := IntWalk.i64_in _ (by unfold I64 at hi; omega)
  clear ht hh hk hne h0 h1 hi
  have tok1 : True := trivial
  go_enter Tryz.func14, Tryz.ntmps14
  go_upto_region 1 with (fail)
  refine wp_opaque (fun w0 hb0 => ?_)
  have hO := Own.two hb0
  have hO0 := hO
  obtain ⟨⟨z1, c1, -⟩, ⟨z2, c2, f2⟩, -⟩ := hO0
  have hb1 := hb0.un1.un1
  clear hb0
  go_wp2_with (first
    | (go_at_call 34; go_must (refine (HT.out _).mono ?_; rintro e w2 ⟨rfl, hb2⟩; clear c1 z1 c2 z2 f2; obtain ⟨⟨z1, c1, -⟩, ⟨z2, c2, f2⟩, -⟩ := hO.later hb2))
    | (go_at_call 35; clear tok1; go_must (refine (HB1.out _).mono ?_; rintro e w2 ⟨rfl, rfl⟩))
    | (go_at_call 35; go_must (refine (HB2.out _).mono ?_; rintro e w2 ⟨rfl, rfl⟩))
    | refine wpList_built (ln_build _ _ _ _) rfl rfl rfl ?_
    | refine wpList_builtS (lns_two _ _ _ _ _ _ _) rfl rfl rfl ?_
    | refine wpList_built (en_build _ _ _ _ _ _ _) rfl rfl rfl ?_)
  refine bodyPost_ret (v := .tuple #[.agg #[.int .i64 con, .int .i64 day, .int .i64 cur, .int .i64 0, .int .i64 0, .int .i64 (-1), .slice (some ⟨w2.heap.size, 0, none⟩) 2 2], .int .i64 0]) (by simp [results, Tryz.results14, go_sem, c2, z2]) rfl ⟨_, rfl, lines_new _ _ (by simp) _ _ _ _ _ _, ?_⟩
  repeat (first | with_reducible exact Later.refl _ | with_reducible assumption | with_reducible refine Later.ofdrew ?_ | with_reducible refine Later.ofdrewN ?_ | with_reducible refine Later.setCell ?_ ?_ _ | with_reducible refine Later.alloc ?_ _ | with_reducible refine Later.drewN ?_ _ | with_reducible refine Later.drew ?_ | (with_reducible refine Later.trans ?_ (by assumption)) | (simp only [World.size_setCell, World.size_alloc, World.heap_drewN]; omega) | (simp; done) | (simp; omega))
end Go.Proofs.YtckeaibamgkegaaGreatDoor
end
