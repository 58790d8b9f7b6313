/- walks: chattelref01: Of, below nought -/
import Derived.Test.YtckeaibamgkegaaDoorRefD
set_option linter.all false
namespace Go.Proofs.YtckeaibamgkegaaDoor
open Go.RowKit
set_option maxRecDepth 100000

set_option maxHeartbeats 1600000 in
theorem rof_neg (m : Nat) (w : World) (hm0 : 1 ≤ m) (hm : m ≤ 9223372036854775808) :
    Calls Tryd.prog 56 #[.int .i64 (-(m : Int))] w fun e w' => ∃ r, e = .returned r ∧ IsBig w' r true m ∧ Later w w' := by
  obtain ⟨i0, hi, hz0, hz1, hz2⟩ := info_parts intInfo
  have hneg : decide (-(m : Int) < 0) = true := by simp; omega
  have hmb : nlen m ≤ 64 := nlen_le (by omega)
  have h0 := fun B => own2 (w := w) (A := #[.bool false, .slice none 0 0]) (B := B) (ta := 60) (tb := 60) (Later.refl _)
  have H0 := Lib.hid h0
  clear h0
  go_enter Tryd.func56, Tryd.ntmps56
  go_wp2
  try rw [hneg]
  try rw [show decide (0 < m) = true by simp; omega]
  go_loopw [0] (fun s0 wr => ∃ j v, j ≤ nlen m ∧ s0 = .int .i64 (-((m / 2 ^ j : Nat) : Int)) ∧ OfRel w wr m j true v) (fun s0 _ => (- intOf s0).toNat)
  case atStart =>
    obtain ⟨a1, a2, a3, a4, a5⟩ := H0.out #[.bool true, .slice none 0 0]
    exact ⟨0, _, by omega, by simp, ⟨a1, a2⟩, ⟨a3, a4⟩, by simp, World.ownsRow_nil _ _ _ _, ((Later.refl _).alloc _).alloc _⟩
  case round =>
    obtain ⟨j, v, hj, rfl, H⟩ := hrel
    obtain ⟨p, cp, rfl⟩ := own_form H.2.2.2.1
    have hc10 := H.2.1.1 0
    have hc11 := H.2.1.1 1
    have hsz := H.2.2.1
    have hown := H.2.2.2.1
    have hbit := bit_cases m j
    have HB : Hid (bit m j = ((m / 2 ^ j : Nat) : Int) % 2 ∧ m / 2 ^ (j + 1) = m / 2 ^ j / 2) := Lib.hid (by
      refine ⟨by unfold bit; omega, by rw [Nat.pow_succ, Nat.div_div_eq_div_mul]⟩)
    have HJ : Hid (m / 2 ^ j = 0 → j = nlen m) := Lib.hid (by
      intro hq
      have : m < 2 ^ j := by
        rcases Nat.div_eq_zero_iff.1 hq with h | h
        · have := Nat.pow_pos (show 0 < 2 by omega) (n := j); omega
        · exact h
      have := nlen_le this; omega)
    have HJ2 : Hid (m / 2 ^ j ≠ 0 → j + 1 ≤ nlen m) := Lib.hid (by
      intro hq
      refine le_nlen ?_
      apply Classical.byContradiction; intro hlt
      exact hq (Nat.div_eq_of_lt (by omega)))
    have hqb : m / 2 ^ j ≤ m := Nat.div_le_self _ _
    have hmx := Lib.hid hmb
    have H' := Lib.hid H
    clear hbit H hmb
    simp only [List.getElem?_toArray, List.getElem?_cons_zero, List.getElem?_cons_succ] at hc10 hc11
    obtain ⟨q, hq⟩ : ∃ q, m / 2 ^ j = q := ⟨_, rfl⟩
    rw [hq] at HB HJ HJ2 hqb ⊢
    clear hq
    by_cases hq0 : q = 0
    · subst hq0
      have HJ' := Lib.hid (HJ.out rfl)
      have hfz := H'.out.1.2 0 (by omega)
      have hfz1 := H'.out.1.2 1 (by omega)
      have hr0 := H'.out.1.1 0
      have hr1 := H'.out.1.1 1
      simp only [List.getElem?_toArray, List.getElem?_cons_zero, List.getElem?_cons_succ] at hr0 hr1
      have hE := set_own (k := 1) (set_own (k := 0) H'.out.1.1 (.bool true) (by simp)) (.slice p j cp) (by simp)
      have e0 := hE 0
      have e1 := hE 1
      simp at e0 e1
      have R := Lib.hid (Row.of_own (n := m) (ownsRow_setCell_below (ownsRow_setCell_below hown (a := ⟨w.heap.size, 0, none⟩) (by show w.heap.size < w.heap.size + 2; omega) (.bool true)) (a := ⟨w.heap.size, 1, none⟩) (by show w.heap.size < w.heap.size + 2; omega) (.slice p j cp)) (by rw [HJ'.out]; exact lt_nlen m))
      have hE0 := Lib.hid e0
      have hE1 := Lib.hid e1
      have hl := Lib.hid H'.out.2.2.2.2
      clear hown HJ HJ2 HB hE e0 e1
      go_wp2
      have e0 := hE0.out
      have e1 := hE1.out
      refine bodyPost_ret (v := .agg #[.bool true, .slice p j cp]) (by simp [results, Tryd.results56, go_sem, e0, e1]) rfl ⟨_, rfl, ⟨_, rfl, ?_⟩, ?_⟩
      · have := R.out
        rw [HJ'.out] at this ⊢
        exact this
      · exact (hl.out.setCell (by show w.heap.size ≤ w.heap.size; omega) _).setCell (by show w.heap.size ≤ w.heap.size; omega) _
    · have HJ' := Lib.hid (HJ2.out hq0)
      have hfz := H'.out.2.1.2 1 (by omega)
      have hq1 : 1 ≤ q := by omega
      clear HJ HJ2
      have hdiv : (-(q : Int)).tdiv 2 = -((q / 2 : Nat) : Int) := by rw [Int.neg_tdiv, Int.tdiv_eq_ediv_of_nonneg (by omega)]; omega
      rcases (show q % 2 = 1 ∨ q % 2 = 0 by omega) with ho | ho
      · have hmod : (-(q : Int)).tmod 2 = -1 := by rw [Int.neg_tmod, Int.tmod_eq_emod_of_nonneg (by omega)]; omega
        go_wp2_with (at_builtin; refine wpList_append_own _ rfl _ _ 58 rfl (w.heap.size + 2) 3 i0 (.int .i64 0) 1 8 Tryd.underlying58 hi hz0 hz1 hz2 rfl (by decide) _ _ _ rfl (hown.alloc _) ⟨wr.heap.size, 0, none⟩ 1 1 [.int .i64 (1 : Int)] rfl rfl ?a19 ?b19 ?c19 ?d19 ?e19 ?_)
        case a19 =>
          intro j u hj
          match j, hj with
          | 0, hj => simp at hj; subst hj; simp [Addr.add]
        case b19 => intro u hu; simp at hu; subst hu; rfl
        case c19 => unfold maxLen; have := hmx.out; have := HJ'.out; omega
        case d19 => have := hmx.out; have := HJ'.out; omega
        case e19 => simp; omega
        intro v' w1 hown' hgrow _
        obtain ⟨p', cp', rfl⟩ := own_form hown'
        have HN := fun w2 => OfRel.next (w2 := w2) H'.out (by have := HB.out.1; omega) hown' hgrow
        have HN' := Lib.hid HN
        have hr : ∀ k, (Value.slice p j cp).ownBlock = some k → w.heap.size + 2 ≤ k := fun k hk => (hown.lt k hk).1
        have hl1 : Later wr (wr.alloc (.cells #[.int .i64 (1 : Int)] 3)) := (Later.refl _).alloc _
        obtain ⟨b3, b4⟩ := grown_cells (k := w.heap.size + 1) hgrow (by have := Later.size hl1; omega) (fun e => by have := hr _ e; omega)
          (fun i => ((bcell hl1).1 _ i (by omega)).trans (H'.out.2.1.1 i)) (fun i hi => ((bcell hl1).2 _ i (by omega)).trans (H'.out.2.1.2 i hi))
        have hs1 := hgrow.size
        have k1 := b3 1
        have k2 := b4 1 (by simp)
        simp only [List.getElem?_toArray, List.getElem?_cons_zero, List.getElem?_cons_succ] at k1
        clear HN hown' hgrow hown hr hl1 b3 b4 hc10 hc11 hfz hs1
        go_wp2
        go_roundw
        case rel => exact ⟨j + 1, _, HJ'.out, by rw [HB.out.2]; go_num, HN'.out _ rfl⟩
        case measure => simp [intOf]; omega
      · have hmod : (-(q : Int)).tmod 2 = 0 := by rw [Int.neg_tmod, Int.tmod_eq_emod_of_nonneg (by omega)]; omega
        go_wp2_with (at_builtin; refine wpList_append_own _ rfl _ _ 58 rfl (w.heap.size + 2) 3 i0 (.int .i64 0) 1 8 Tryd.underlying58 hi hz0 hz1 hz2 rfl (by decide) _ _ _ rfl (hown.alloc _) ⟨wr.heap.size, 0, none⟩ 1 1 [.int .i64 (0 : Int)] rfl rfl ?a29 ?b29 ?c29 ?d29 ?e29 ?_)
        case a29 =>
          intro j u hj
          match j, hj with
          | 0, hj => simp at hj; subst hj; simp [Addr.add]
        case b29 => intro u hu; simp at hu; subst hu; rfl
        case c29 => unfold maxLen; have := hmx.out; have := HJ'.out; omega
        case d29 => have := hmx.out; have := HJ'.out; omega
        case e29 => simp; omega
        intro v' w1 hown' hgrow _
        obtain ⟨p', cp', rfl⟩ := own_form hown'
        have HN := fun w2 => OfRel.next (w2 := w2) H'.out (by have := HB.out.1; omega) hown' hgrow
        have HN' := Lib.hid HN
        have hr : ∀ k, (Value.slice p j cp).ownBlock = some k → w.heap.size + 2 ≤ k := fun k hk => (hown.lt k hk).1
        have hl1 : Later wr (wr.alloc (.cells #[.int .i64 (0 : Int)] 3)) := (Later.refl _).alloc _
        obtain ⟨b3, b4⟩ := grown_cells (k := w.heap.size + 1) hgrow (by have := Later.size hl1; omega) (fun e => by have := hr _ e; omega)
          (fun i => ((bcell hl1).1 _ i (by omega)).trans (H'.out.2.1.1 i)) (fun i hi => ((bcell hl1).2 _ i (by omega)).trans (H'.out.2.1.2 i hi))
        have hs1 := hgrow.size
        have k1 := b3 1
        have k2 := b4 1 (by simp)
        simp only [List.getElem?_toArray, List.getElem?_cons_zero, List.getElem?_cons_succ] at k1
        clear HN hown' hgrow hown hr hl1 b3 b4 hc10 hc11 hfz hs1
        go_wp2
        go_roundw
        case rel => exact ⟨j + 1, _, HJ'.out, by rw [HB.out.2]; go_num, HN'.out _ rfl⟩
        case measure => simp [intOf]; omega

end Go.Proofs.YtckeaibamgkegaaDoor
