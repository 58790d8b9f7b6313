/- walks: chattelref01: Of as a number, Neg, Add -/
import Derived.Test.YtckeaibamgkegaaGreatDoorQ18
set_option linter.all false
set_option linter.all false
section
/- walks: chattelref01: Of -/
namespace Go.Proofs.YtckeaibamgkegaaGreatDoor
open Go.RowKit
set_option maxRecDepth 100000

/-- A number of a sign and a size. -/
def IsBig (w : World) (x : Value) (neg : Bool) (n : Nat) : Prop := ∃ v, x = .agg #[.bool neg, v] ∧ Num w v n
/-- A number; nought is not below nought. -/
def IsZ (w : World) (x : Value) (z : Int) : Prop := IsBig w x (decide (z < 0)) z.natAbs
theorem IsBig.open {w : World} {x : Value} {neg : Bool} {n : Nat} (h : IsBig w x neg n) : ∃ p c, x = .agg #[.bool neg, .slice p (nlen n) c] ∧ Num w (.slice p (nlen n) c) n := by
  obtain ⟨v, rfl, hv⟩ := h
  obtain ⟨p, c, rfl⟩ := Row.form hv
  exact ⟨p, c, rfl, hv⟩
theorem IsZ.open {w : World} {x : Value} {z : Int} (h : IsZ w x z) : ∃ p c, x = .agg #[.bool (decide (z < 0)), .slice p (nlen z.natAbs) c] ∧ Num w (.slice p (nlen z.natAbs) c) z.natAbs := IsBig.open h
theorem IsBig.later {w w' : World} {x : Value} {s : Bool} {n : Nat} (h : IsBig w x s n) (hb : Later w w') : IsBig w' x s n := by
  obtain ⟨v, h1, h2⟩ := h; exact ⟨v, h1, h2.later hb⟩
theorem IsZ.later {w w' : World} {x : Value} {z : Int} (h : IsZ w x z) (hb : Later w w') : IsZ w' x z := IsBig.later h hb

theorem grown_cells {w1 w2 : World} {row : Option Nat} {k : Nat} {A : Array Value} (hg : w1.grownBy w2 row) (hk : k < w1.heap.size) (hr : row ≠ some k)
    (hc : ∀ i, w1.cell? ⟨k, i, none⟩ = A[i]?) (hf : ∀ i, i < A.size → w1.frozen? ⟨k, i, none⟩ = false) :
    (∀ i, w2.cell? ⟨k, i, none⟩ = A[i]?) ∧ (∀ i, i < A.size → w2.frozen? ⟨k, i, none⟩ = false) := by
  have hb := hg.block k hk (fun e => hr e.symm)
  exact ⟨fun i => (World.cell?_of_block (a := ⟨k, i, none⟩) hb).trans (hc i), fun i hi => (World.frozen?_of_block (a := ⟨k, i, none⟩) hb).trans (hf i hi)⟩

/-- Where Of stands: j bits are laid. -/
def OfRel (w wr : World) (m j : Nat) (neg : Bool) (v : Value) : Prop :=
  ((∀ i, wr.cell? ⟨w.heap.size, i, none⟩ = #[.bool false, .slice none 0 0][i]?) ∧ (∀ i, i < 2 → wr.frozen? ⟨w.heap.size, i, none⟩ = false)) ∧
  ((∀ i, wr.cell? ⟨w.heap.size + 1, i, none⟩ = #[.bool neg, v][i]?) ∧ (∀ i, i < 2 → wr.frozen? ⟨w.heap.size + 1, i, none⟩ = false)) ∧
  w.heap.size + 2 ≤ wr.heap.size ∧ wr.ownsRow (w.heap.size + 2) 3 1 v j (bitsV m j) ∧ Later w wr

theorem OfRel.next {w wr w1 w2 : World} {m j : Nat} {neg : Bool} {v v' : Value} {x : Int} (h : OfRel w wr m j neg v) (hx : x = bit m j) {o : Obj}
    (hown : w1.ownsRow (w.heap.size + 2) 3 1 v' (j + 1) (bitsV m j ++ [.int .i64 x])) (hg : (wr.alloc o).grownBy w1 v.ownBlock)
    (h2 : w2 = w1.setCell ⟨w.heap.size + 1, 1, none⟩ v') : OfRel w w2 m (j + 1) neg v' := by
  obtain ⟨⟨a1, a2⟩, ⟨a3, a4⟩, a5, a6, a7⟩ := h
  have hr : ∀ k, v.ownBlock = some k → w.heap.size + 2 ≤ k := fun k hk => (a6.lt k hk).1
  have hl1 : Later wr (wr.alloc o) := (Later.refl _).alloc _
  have hs1 := Later.size hl1
  obtain ⟨b1, b2⟩ := grown_cells (k := w.heap.size) hg (by omega) (fun e => by have := hr _ e; omega)
    (fun i => ((bcell hl1).1 _ i (by omega)).trans (a1 i)) (fun i hi => ((bcell hl1).2 _ i (by omega)).trans (a2 i hi))
  obtain ⟨b3, b4⟩ := grown_cells (k := w.heap.size + 1) hg (by omega) (fun e => by have := hr _ e; omega)
    (fun i => ((bcell hl1).1 _ i (by omega)).trans (a3 i)) (fun i hi => ((bcell hl1).2 _ i (by omega)).trans (a4 i hi))
  have hl2 : Later w w1 := Later.grown (a7.alloc _) hg (fun k hk => by have := hr k hk; omega)
  have hs2 := hg.size
  subst h2
  refine ⟨⟨fun i => set_far b1 v' (by omega) i, fun i hi => set_frozen (n := 2) (fun i hi => b2 i hi) v' i hi⟩, ⟨fun i => ?_, fun i hi => set_frozen (n := 2) (fun i hi => b4 i hi) v' i hi⟩, ?_, ?_, ?_⟩
  · rw [set_own b3 v' (by simp) i]; rfl
  · simp; omega
  · have := own_next hown hx rfl
    exact ownsRow_setCell_below this (by show w.heap.size + 1 < w.heap.size + 2; omega) _
  · exact hl2.setCell (by show w.heap.size ≤ w.heap.size + 1; omega) _

theorem own_form {w : World} {base t n : Nat} {v : Value} {xs : List Value} (h : w.ownsRow base t 1 v n xs) : ∃ p cap, v = .slice p n cap := by
  rcases h.2 with ⟨h1, h2⟩ | ⟨g, cap, cur, h1, _⟩
  · subst h2; exact ⟨_, _, h1⟩
  · exact ⟨_, _, h1⟩

set_option maxHeartbeats 1600000 in
theorem rof_pos (m : Nat) (w : World) (hm : m ≤ 9223372036854775807) :
    Calls Tryz.prog 56 #[.int .i64 m] w fun e w' => ∃ r, e = .returned r ∧ IsBig w' r false m ∧ Later w w' := by
  obtain ⟨i0, hi, hz0, hz1, hz2⟩ := info_parts intInfo
  have hneg : decide ((m : Int) < 0) = false := by simp
  have hmb : nlen m ≤ 63 := nlen_le (by omega)
  have h0 := fun B => own2 (w := w) (A := #[.bool false, .slice none 0 0]) (B := B) (ta := 66) (tb := 66) (Later.refl _)
  have H0 := Lib.hid h0
  clear h0
  go_enter Tryz.func56, Tryz.ntmps56
  go_wp2
  try rw [hneg]
  go_loopw [0] (fun s0 wr => ∃ j v, j ≤ nlen m ∧ s0 = .int .i64 ((m / 2 ^ j : Nat) : Int) ∧ OfRel w wr m j false v) (fun s0 _ => (intOf s0).toNat)
  case atStart =>
    obtain ⟨a1, a2, a3, a4, a5⟩ := H0.out #[.bool false, .slice none 0 0]
    exact ⟨0, _, by omega, by simp, ⟨a1, a2⟩, ⟨a3, a4⟩, by simp, World.ownsRow_nil _ _ _ _, ((Later.refl _).alloc _).alloc _⟩
  case round =>
    obtain ⟨j, v, hj, rfl, H⟩ := hrel
    obtain ⟨p, cp, rfl⟩ := own_form H.2.2.2.1
    have hc10 := H.2.1.1 0
    have hc11 := H.2.1.1 1
    have hsz := H.2.2.1
    have hown := H.2.2.2.1
    have hbit := bit_cases m j
    have HB : Hid (bit m j = ((m / 2 ^ j : Nat) : Int) % 2 ∧ m / 2 ^ (j + 1) = m / 2 ^ j / 2) := Lib.hid (by
      refine ⟨by unfold bit; omega, by rw [Nat.pow_succ, Nat.div_div_eq_div_mul]⟩)
    have HJ : Hid (m / 2 ^ j = 0 → j = nlen m) := Lib.hid (by
      intro hq
      have : m < 2 ^ j := by
        rcases Nat.div_eq_zero_iff.1 hq with h | h
        · have := Nat.pow_pos (show 0 < 2 by omega) (n := j); omega
        · exact h
      have := nlen_le this; omega)
    have HJ2 : Hid (m / 2 ^ j ≠ 0 → j + 1 ≤ nlen m) := Lib.hid (by
      intro hq
      refine le_nlen ?_
      apply Classical.byContradiction; intro hlt
      exact hq (Nat.div_eq_of_lt (by omega)))
    have hqb : m / 2 ^ j ≤ m := Nat.div_le_self _ _
    have hmx := Lib.hid hmb
    have H' := Lib.hid H
    clear hbit H hmb
    simp only [List.getElem?_toArray, List.getElem?_cons_zero, List.getElem?_cons_succ] at hc10 hc11
    obtain ⟨q, hq⟩ : ∃ q, m / 2 ^ j = q := ⟨_, rfl⟩
    rw [hq] at HB HJ HJ2 hqb ⊢
    clear hq
    by_cases hq0 : q = 0
    · subst hq0
      have HJ' := Lib.hid (HJ.out rfl)
      have hfz := H'.out.1.2 0 (by omega)
      have hfz1 := H'.out.1.2 1 (by omega)
      have hr0 := H'.out.1.1 0
      have hr1 := H'.out.1.1 1
      simp only [List.getElem?_toArray, List.getElem?_cons_zero, List.getElem?_cons_succ] at hr0 hr1
      have hE := set_own (k := 1) (set_own (k := 0) H'.out.1.1 (.bool false) (by simp)) (.slice p j cp) (by simp)
      have e0 := hE 0
      have e1 := hE 1
      simp at e0 e1
      have R := Lib.hid (Row.of_own (n := m) (ownsRow_setCell_below (ownsRow_setCell_below hown (a := ⟨w.heap.size, 0, none⟩) (by show w.heap.size < w.heap.size + 2; omega) (.bool false)) (a := ⟨w.heap.size, 1, none⟩) (by show w.heap.size < w.heap.size + 2; omega) (.slice p j cp)) (by rw [HJ'.out]; exact lt_nlen m))
      have hE0 := Lib.hid e0
      have hE1 := Lib.hid e1
      have hl := Lib.hid H'.out.2.2.2.2
      clear hown HJ HJ2 HB hE e0 e1
      go_wp2
      have e0 := hE0.out
      have e1 := hE1.out
      refine bodyPost_ret (v := .agg #[.bool false, .slice p j cp]) (by simp [results, Tryz.results56, go_sem, e0, e1]) rfl ⟨_, rfl, ⟨_, rfl, ?_⟩, ?_⟩
      · have := R.out
        rw [HJ'.out] at this ⊢
        exact this
      · exact (hl.out.setCell (by show w.heap.size ≤ w.heap.size; omega) _).setCell (by show w.heap.size ≤ w.heap.size; omega) _
    · have HJ' := Lib.hid (HJ2.out hq0)
      have hfz := H'.out.2.1.2 1 (by omega)
      have hq1 : 1 ≤ q := by omega
      clear HJ HJ2
      go_wp2_with (at_builtin; refine wpList_append_own _ rfl _ _ 59 rfl (w.heap.size + 2) 3 i0 (.int .i64 0) 1 8 Tryz.underlying59 hi hz0 hz1 hz2 rfl (by decide) _ _ _ rfl (hown.alloc _) ⟨wr.heap.size, 0, none⟩ 1 1 [.int .i64 ((q : Int) % 2)] rfl rfl ?a1 ?b1 ?c1 ?d1 ?e1 ?_)
      case a1 =>
        intro j u hj
        match j, hj with
        | 0, hj => simp at hj; subst hj; simp [Addr.add]
      case b1 => intro u hu; simp at hu; subst hu; rfl
      case c1 => unfold maxLen; have := hmx.out; have := HJ'.out; omega
      case d1 => have := hmx.out; have := HJ'.out; omega
      case e1 => simp; omega
      intro v' w1 hown' hgrow _
      obtain ⟨p', cp', rfl⟩ := own_form hown'
      have HN := fun w2 => OfRel.next (w2 := w2) H'.out HB.out.1.symm hown' hgrow
      have HN' := Lib.hid HN
      have hr : ∀ k, (Value.slice p j cp).ownBlock = some k → w.heap.size + 2 ≤ k := fun k hk => (hown.lt k hk).1
      have hl1 : Later wr (wr.alloc (.cells #[.int .i64 ((q : Int) % 2)] 3)) := (Later.refl _).alloc _
      obtain ⟨b3, b4⟩ := grown_cells (k := w.heap.size + 1) hgrow (by have := Later.size hl1; omega) (fun e => by have := hr _ e; omega)
        (fun i => ((bcell hl1).1 _ i (by omega)).trans (H'.out.2.1.1 i)) (fun i hi => ((bcell hl1).2 _ i (by omega)).trans (H'.out.2.1.2 i hi))
      have hs1 := hgrow.size
      have k1 := b3 1
      have k2 := b4 1 (by simp)
      simp only [List.getElem?_toArray, List.getElem?_cons_zero, List.getElem?_cons_succ] at k1
      clear HN hown' hgrow hown hr hl1 b3 b4 hc10 hc11 hfz hs1
      go_wp2
      go_roundw
      case rel => exact ⟨j + 1, _, HJ'.out, by rw [HB.out.2]; go_num, HN'.out _ rfl⟩
      case measure => simp [intOf]; omega
end Go.Proofs.YtckeaibamgkegaaGreatDoor
end
section
/- walks: chattelref01: Of, below nought -/
namespace Go.Proofs.YtckeaibamgkegaaGreatDoor
open Go.RowKit
set_option maxRecDepth 100000

set_option maxHeartbeats 1600000 in
theorem rof_neg (m : Nat) (w : World) (hm0 : 1 ≤ m) (hm : m ≤ 9223372036854775808) :
    Calls Tryz.prog 56 #[.int .i64 (-(m : Int))] w fun e w' => ∃ r, e = .returned r ∧ IsBig w' r true m ∧ Later w w' := by
  obtain ⟨i0, hi, hz0, hz1, hz2⟩ := info_parts intInfo
  have hneg : decide (-(m : Int) < 0) = true := by simp; omega
  have hmb : nlen m ≤ 64 := nlen_le (by omega)
  have h0 := fun B => own2 (w := w) (A := #[.bool false, .slice none 0 0]) (B := B) (ta := 66) (tb := 66) (Later.refl _)
  have H0 := Lib.hid h0
  clear h0
  go_enter Tryz.func56, Tryz.ntmps56
  go_wp2
  try rw [hneg]
  try rw [show decide (0 < m) = true by simp; omega]
  go_loopw [0] (fun s0 wr => ∃ j v, j ≤ nlen m ∧ s0 = .int .i64 (-((m / 2 ^ j : Nat) : Int)) ∧ OfRel w wr m j true v) (fun s0 _ => (- intOf s0).toNat)
  case atStart =>
    obtain ⟨a1, a2, a3, a4, a5⟩ := H0.out #[.bool true, .slice none 0 0]
    exact ⟨0, _, by omega, by simp, ⟨a1, a2⟩, ⟨a3, a4⟩, by simp, World.ownsRow_nil _ _ _ _, ((Later.refl _).alloc _).alloc _⟩
  case round =>
    obtain ⟨j, v, hj, rfl, H⟩ := hrel
    obtain ⟨p, cp, rfl⟩ := own_form H.2.2.2.1
    have hc10 := H.2.1.1 0
    have hc11 := H.2.1.1 1
    have hsz := H.2.2.1
    have hown := H.2.2.2.1
    have hbit := bit_cases m j
    have HB : Hid (bit m j = ((m / 2 ^ j : Nat) : Int) % 2 ∧ m / 2 ^ (j + 1) = m / 2 ^ j / 2) := Lib.hid (by
      refine ⟨by unfold bit; omega, by rw [Nat.pow_succ, Nat.div_div_eq_div_mul]⟩)
    have HJ : Hid (m / 2 ^ j = 0 → j = nlen m) := Lib.hid (by
      intro hq
      have : m < 2 ^ j := by
        rcases Nat.div_eq_zero_iff.1 hq with h | h
        · have := Nat.pow_pos (show 0 < 2 by omega) (n := j); omega
        · exact h
      have := nlen_le this; omega)
    have HJ2 : Hid (m / 2 ^ j ≠ 0 → j + 1 ≤ nlen m) := Lib.hid (by
      intro hq
      refine le_nlen ?_
      apply Classical.byContradiction; intro hlt
      exact hq (Nat.div_eq_of_lt (by omega)))
    have hqb : m / 2 ^ j ≤ m := Nat.div_le_self _ _
    have hmx := Lib.hid hmb
    have H' := Lib.hid H
    clear hbit H hmb
    simp only [List.getElem?_toArray, List.getElem?_cons_zero, List.getElem?_cons_succ] at hc10 hc11
    obtain ⟨q, hq⟩ : ∃ q, m / 2 ^ j = q := ⟨_, rfl⟩
    rw [hq] at HB HJ HJ2 hqb ⊢
    clear hq
    by_cases hq0 : q = 0
    · subst hq0
      have HJ' := Lib.hid (HJ.out rfl)
      have hfz := H'.out.1.2 0 (by omega)
      have hfz1 := H'.out.1.2 1 (by omega)
      have hr0 := H'.out.1.1 0
      have hr1 := H'.out.1.1 1
      simp only [List.getElem?_toArray, List.getElem?_cons_zero, List.getElem?_cons_succ] at hr0 hr1
      have hE := set_own (k := 1) (set_own (k := 0) H'.out.1.1 (.bool true) (by simp)) (.slice p j cp) (by simp)
      have e0 := hE 0
      have e1 := hE 1
      simp at e0 e1
      have R := Lib.hid (Row.of_own (n := m) (ownsRow_setCell_below (ownsRow_setCell_below hown (a := ⟨w.heap.size, 0, none⟩) (by show w.heap.size < w.heap.size + 2; omega) (.bool true)) (a := ⟨w.heap.size, 1, none⟩) (by show w.heap.size < w.heap.size + 2; omega) (.slice p j cp)) (by rw [HJ'.out]; exact lt_nlen m))
      have hE0 := Lib.hid e0
      have hE1 := Lib.hid e1
      have hl := Lib.hid H'.out.2.2.2.2
      clear hown HJ HJ2 HB hE e0 e1
      go_wp2
      have e0 := hE0.out
      have e1 := hE1.out
      refine bodyPost_ret (v := .agg #[.bool true, .slice p j cp]) (by simp [results, Tryz.results56, go_sem, e0, e1]) rfl ⟨_, rfl, ⟨_, rfl, ?_⟩, ?_⟩
      · have := R.out
        rw [HJ'.out] at this ⊢
        exact this
      · exact (hl.out.setCell (by show w.heap.size ≤ w.heap.size; omega) _).setCell (by show w.heap.size ≤ w.heap.size; omega) _
    · have HJ' := Lib.hid (HJ2.out hq0)
      have hfz := H'.out.2.1.2 1 (by omega)
      have hq1 : 1 ≤ q := by omega
      clear HJ HJ2
      have hdiv : (-(q : Int)).tdiv 2 = -((q / 2 : Nat) : Int) := by rw [Int.neg_tdiv, Int.tdiv_eq_ediv_of_nonneg (by omega)]; omega
      rcases (show q % 2 = 1 ∨ q % 2 = 0 by omega) with ho | ho
      · have hmod : (-(q : Int)).tmod 2 = -1 := by rw [Int.neg_tmod, Int.tmod_eq_emod_of_nonneg (by omega)]; omega
        go_wp2_with (at_builtin; refine wpList_append_own _ rfl _ _ 59 rfl (w.heap.size + 2) 3 i0 (.int .i64 0) 1 8 Tryz.underlying59 hi hz0 hz1 hz2 rfl (by decide) _ _ _ rfl (hown.alloc _) ⟨wr.heap.size, 0, none⟩ 1 1 [.int .i64 (1 : Int)] rfl rfl ?a19 ?b19 ?c19 ?d19 ?e19 ?_)
        case a19 =>
          intro j u hj
          match j, hj with
          | 0, hj => simp at hj; subst hj; simp [Addr.add]
        case b19 => intro u hu; simp at hu; subst hu; rfl
        case c19 => unfold maxLen; have := hmx.out; have := HJ'.out; omega
        case d19 => have := hmx.out; have := HJ'.out; omega
        case e19 => simp; omega
        intro v' w1 hown' hgrow _
        obtain ⟨p', cp', rfl⟩ := own_form hown'
        have HN := fun w2 => OfRel.next (w2 := w2) H'.out (by have := HB.out.1; omega) hown' hgrow
        have HN' := Lib.hid HN
        have hr : ∀ k, (Value.slice p j cp).ownBlock = some k → w.heap.size + 2 ≤ k := fun k hk => (hown.lt k hk).1
        have hl1 : Later wr (wr.alloc (.cells #[.int .i64 (1 : Int)] 3)) := (Later.refl _).alloc _
        obtain ⟨b3, b4⟩ := grown_cells (k := w.heap.size + 1) hgrow (by have := Later.size hl1; omega) (fun e => by have := hr _ e; omega)
          (fun i => ((bcell hl1).1 _ i (by omega)).trans (H'.out.2.1.1 i)) (fun i hi => ((bcell hl1).2 _ i (by omega)).trans (H'.out.2.1.2 i hi))
        have hs1 := hgrow.size
        have k1 := b3 1
        have k2 := b4 1 (by simp)
        simp only [List.getElem?_toArray, List.getElem?_cons_zero, List.getElem?_cons_succ] at k1
        clear HN hown' hgrow hown hr hl1 b3 b4 hc10 hc11 hfz hs1
        go_wp2
        go_roundw
        case rel => exact ⟨j + 1, _, HJ'.out, by rw [HB.out.2]; go_num, HN'.out _ rfl⟩
        case measure => simp [intOf]; omega
      · have hmod : (-(q : Int)).tmod 2 = 0 := by rw [Int.neg_tmod, Int.tmod_eq_emod_of_nonneg (by omega)]; omega
        go_wp2_with (at_builtin; refine wpList_append_own _ rfl _ _ 59 rfl (w.heap.size + 2) 3 i0 (.int .i64 0) 1 8 Tryz.underlying59 hi hz0 hz1 hz2 rfl (by decide) _ _ _ rfl (hown.alloc _) ⟨wr.heap.size, 0, none⟩ 1 1 [.int .i64 (0 : Int)] rfl rfl ?a29 ?b29 ?c29 ?d29 ?e29 ?_)
        case a29 =>
          intro j u hj
          match j, hj with
          | 0, hj => simp at hj; subst hj; simp [Addr.add]
        case b29 => intro u hu; simp at hu; subst hu; rfl
        case c29 => unfold maxLen; have := hmx.out; have := HJ'.out; omega
        case d29 => have := hmx.out; have := HJ'.out; omega
        case e29 => simp; omega
        intro v' w1 hown' hgrow _
        obtain ⟨p', cp', rfl⟩ := own_form hown'
        have HN := fun w2 => OfRel.next (w2 := w2) H'.out (by have := HB.out.1; omega) hown' hgrow
        have HN' := Lib.hid HN
        have hr : ∀ k, (Value.slice p j cp).ownBlock = some k → w.heap.size + 2 ≤ k := fun k hk => (hown.lt k hk).1
        have hl1 : Later wr (wr.alloc (.cells #[.int .i64 (0 : Int)] 3)) := (Later.refl _).alloc _
        obtain ⟨b3, b4⟩ := grown_cells (k := w.heap.size + 1) hgrow (by have := Later.size hl1; omega) (fun e => by have := hr _ e; omega)
          (fun i => ((bcell hl1).1 _ i (by omega)).trans (H'.out.2.1.1 i)) (fun i hi => ((bcell hl1).2 _ i (by omega)).trans (H'.out.2.1.2 i hi))
        have hs1 := hgrow.size
        have k1 := b3 1
        have k2 := b4 1 (by simp)
        simp only [List.getElem?_toArray, List.getElem?_cons_zero, List.getElem?_cons_succ] at k1
        clear HN hown' hgrow hown hr hl1 b3 b4 hc10 hc11 hfz hs1
        go_wp2
        go_roundw
        case rel => exact ⟨j + 1, _, HJ'.out, by rw [HB.out.2]; go_num, HN'.out _ rfl⟩
        case measure => simp [intOf]; omega

end Go.Proofs.YtckeaibamgkegaaGreatDoor
end
section
/- walks: chattelref01: Of as a number, Neg, Add -/
namespace Go.Proofs.YtckeaibamgkegaaGreatDoor
open Go.RowKit
set_option maxRecDepth 100000

theorem rof_any (z : Int) (w : World) (h1 : -9223372036854775808 ≤ z) (h2 : z ≤ 9223372036854775807) :
    Calls Tryz.prog 56 #[.int .i64 z] w fun e w' => ∃ r, e = .returned r ∧ IsZ w' r z ∧ Later w w' := by
  by_cases hz : z < 0
  · obtain ⟨m, hm⟩ : ∃ m : Nat, z = -(m : Int) := ⟨z.natAbs, by omega⟩
    subst hm
    refine (rof_neg m w (by omega) (by omega)).mono ?_
    rintro e w' ⟨r, rfl, hr, hb⟩
    refine ⟨r, rfl, ?_, hb⟩
    unfold IsZ
    rw [show decide (-(m : Int) < 0) = true by simp; omega, show (-(m : Int)).natAbs = m by omega]
    exact hr
  · obtain ⟨m, rfl⟩ := Int.eq_ofNat_of_zero_le (show 0 ≤ z by omega)
    refine (rof_pos m w (by omega)).mono ?_
    rintro e w' ⟨r, rfl, hr, hb⟩
    refine ⟨r, rfl, ?_, hb⟩
    unfold IsZ
    rw [show decide ((m : Int) < 0) = false by simp, show ((m : Int)).natAbs = m by omega]
    exact hr

theorem plus_num (v u : Value) (a b : Nat) (w : World) (h : Num w v a) (g : Num w u b) (hL : nlen a ≤ 90000) (hM : nlen b ≤ 90000) :
    Calls Tryz.prog 73 #[v, u] w fun e w' => ∃ r, e = .returned r ∧ Num w' r (a + b) ∧ Later w w' := by
  refine (rplus_any v u a b _ _ w h g hL hM).mono ?_
  rintro e w' ⟨r, K, rfl, hr, hK, hK2, hb⟩
  refine ⟨r, rfl, ?_, hb⟩
  have h1 := nlen_mono (show a ≤ a + b by omega)
  have h2 := nlen_mono (show b ≤ a + b by omega)
  have h3 := nlen_le hr.1
  have hKe : K = nlen (a + b) := by
    rcases hK2 with hK2 | hK2
    · omega
    · have := le_nlen hK2
      omega
  unfold Num
  rw [← hKe]
  exact hr

theorem Row.set {w : World} {v x : Value} {n L k i : Nat} {t : Bool} (h : Row w v n L) (hk : w.cell? ⟨k, 0, none⟩ = some (.bool t)) : Row (w.setCell ⟨k, i, none⟩ x) v n L := by
  refine ⟨h.1, ?_⟩
  rcases h.2 with h2 | ⟨b, cap, h2, h3, h4, h5⟩
  · exact .inl h2
  · refine .inr ⟨b, cap, h2, by simpa using h3, h4, fun j hj => ?_⟩
    have hne : k ≠ b := by
      rintro rfl
      have := h5 0 (by omega)
      rw [hk] at this; cases this
    rw [World.cell?_setCell_other _ _ _ _ (fun e => hne (by cases e; rfl))]
    exact h5 j hj

theorem Row.set2 {w : World} {v y y0 : Value} {n L k : Nat} {t s : Bool} (h : Row w v n L) (hk : ∀ i, w.cell? ⟨k, i, none⟩ = #[Value.bool t, y0][i]?) :
    Row ((w.setCell ⟨k, 0, none⟩ (.bool s)).setCell ⟨k, 1, none⟩ y) v n L := by
  refine (h.set (t := t) (by rw [hk]; rfl)).set (t := s) ?_
  rw [set_own hk _ (by simp)]; rfl

/-- The two stores of a number into the call's own block. -/
theorem big_end {w : World} {v y0 : Value} {n k : Nat} {t s : Bool} (hk : ∀ i, w.cell? ⟨k, i, none⟩ = #[Value.bool t, y0][i]?) (h : Num w v n) :
    ((w.setCell ⟨k, 0, none⟩ (.bool s)).setCell ⟨k, 1, none⟩ v).cell? ⟨k, 0, none⟩ = some (.bool s) ∧
    ((w.setCell ⟨k, 0, none⟩ (.bool s)).setCell ⟨k, 1, none⟩ v).cell? ⟨k, 1, none⟩ = some v ∧
    IsBig ((w.setCell ⟨k, 0, none⟩ (.bool s)).setCell ⟨k, 1, none⟩ v) (.agg #[.bool s, v]) s n := by
  have e := set_own (k := 1) (set_own (k := 0) hk (.bool s) (by simp)) v (by simp)
  exact ⟨by rw [e]; rfl, by rw [e]; rfl, v, rfl, h.set2 hk⟩

set_option maxHeartbeats 1600000 in
theorem radd_same (x y : Value) (s : Bool) (a b : Nat) (w : World) (h : IsBig w x s a) (g : IsBig w y s b) (hL : nlen a ≤ 90000) (hM : nlen b ≤ 90000) :
    Calls Tryz.prog 55 #[x, y] w fun e w' => ∃ r, e = .returned r ∧ IsBig w' r s (a + b) ∧ Later w w' := by
  obtain ⟨v, rfl, hv⟩ := h
  obtain ⟨u, rfl, hu⟩ := g
  obtain ⟨p, cp, rfl⟩ := Row.form hv
  obtain ⟨q, cq, rfl⟩ := Row.form hu
  go_enter Tryz.func55, Tryz.ntmps55
  go_upto_region 2 with fail
  refine wp_opaque (fun w0 hb0 => ?_)
  obtain ⟨c0, f0, c1, f1, c2, f2, z0⟩ := own3 hb0
  have hv2 : Num w0 _ a := hv.later (Later.trans (by repeat (first | with_reducible exact Later.refl _ | with_reducible assumption | with_reducible refine Later.ofdrew ?_ | with_reducible refine Later.ofdrewN ?_ | with_reducible refine Later.setCell ?_ ?_ _ | with_reducible refine Later.alloc ?_ _ | with_reducible refine Later.drewN ?_ _ | with_reducible refine Later.drew ?_ | (with_reducible refine Later.trans ?_ (by assumption)) | (simp only [World.size_setCell, World.size_alloc, World.heap_drewN]; omega) | (simp; done) | (simp; omega))) hb0)
  have hu2 : Num w0 _ b := hu.later (Later.trans (by repeat (first | with_reducible exact Later.refl _ | with_reducible assumption | with_reducible refine Later.ofdrew ?_ | with_reducible refine Later.ofdrewN ?_ | with_reducible refine Later.setCell ?_ ?_ _ | with_reducible refine Later.alloc ?_ _ | with_reducible refine Later.drewN ?_ _ | with_reducible refine Later.drew ?_ | (with_reducible refine Later.trans ?_ (by assumption)) | (simp only [World.size_setCell, World.size_alloc, World.heap_drewN]; omega) | (simp; done) | (simp; omega))) hb0)
  refine wp_region_plan 8 (.one [0, 1, 2, 3, 4, 5] 6 (.one [7] 8 (.done []))) (by kernel_rfl) (by kernel_rfl) (fun _ _ d _ _ h => by cases d <;> exact h) ?_
  repeat' (first
    | (refine plan_done (fun K hK => ?_); (first | (simp only [pick_cons, pick_nil, toList_some_append, List.getElem?_toArray, List.getElem?_cons_zero, List.getElem?_cons_succ]; repeat (go_big_quiet_step (fail))) | simp only [pick_nil]); refine wpQuiet_nil (hK _ ?_); clear hK K)
    | (refine plan_one (by rfl) (fun K hK => ?_); (first | (simp only [pick_cons, pick_nil, toList_some_append, List.getElem?_toArray, List.getElem?_cons_zero, List.getElem?_cons_succ]; repeat (go_big_quiet_step (fail))) | simp only [pick_nil]); refine wpQuiet_nil (hK _ ?_); clear hK K)
    | ((with_reducible refine at_list ?_); go_wp2_with (go_at_call 73; refine (plus_num _ _ _ _ _ (hv2.later (by repeat (first | with_reducible exact Later.refl _ | with_reducible assumption | with_reducible refine Later.ofdrew ?_ | with_reducible refine Later.ofdrewN ?_ | with_reducible refine Later.setCell ?_ ?_ _ | with_reducible refine Later.alloc ?_ _ | with_reducible refine Later.drewN ?_ _ | with_reducible refine Later.drew ?_ | (with_reducible refine Later.trans ?_ (by assumption)) | (simp only [World.size_setCell, World.size_alloc, World.heap_drewN]; omega) | (simp; done) | (simp; omega)))) (hu2.later (by repeat (first | with_reducible exact Later.refl _ | with_reducible assumption | with_reducible refine Later.ofdrew ?_ | with_reducible refine Later.ofdrewN ?_ | with_reducible refine Later.setCell ?_ ?_ _ | with_reducible refine Later.alloc ?_ _ | with_reducible refine Later.drewN ?_ _ | with_reducible refine Later.drew ?_ | (with_reducible refine Later.trans ?_ (by assumption)) | (simp only [World.size_setCell, World.size_alloc, World.heap_drewN]; omega) | (simp; done) | (simp; omega)))) hL hM).mono ?_; rintro e w1 ⟨r, rfl, hr, hb1⟩; obtain ⟨pr, cr, rfl⟩ := Row.form hr; obtain ⟨hc, hf⟩ := bcell hb1; have hz := Later.size hb1; (try simp only [World.size_alloc, World.size_drew, World.heap_drewN, World.size_setCell] at hz); (repeat (first | (with_reducible refine use_of (Later.undrew hb1) ?_; intro hb1) | (with_reducible refine use_of (Later.undrewN hb1) ?_; intro hb1) | (with_reducible refine use_of (Later.unalloc hb1) ?_; intro hb1))); obtain ⟨hc, hf⟩ := bcell hb1; (try (refine use_of (fun i => (hc _ i (by omega)).trans (c2 i)) ?_; clear c2; intro c2)); (try (refine use_of (fun i hi => (hf _ i (by omega)).trans (f2 i hi)) ?_; clear f2; intro f2))); first | refine behind_store (t := 8) (by decide) ?_ | refine behind (by repeat (first | with_reducible exact Later.refl _ | with_reducible assumption | with_reducible refine Later.ofdrew ?_ | with_reducible refine Later.ofdrewN ?_ | with_reducible refine Later.alloc ?_ _ | with_reducible refine Later.drewN ?_ _ | with_reducible refine Later.drew ?_ | (with_reducible refine Later.trans ?_ (by assumption)))) ?_))
  go_wp2
  obtain ⟨e0, e1, hI⟩ := big_end (s := s) c2 hr
  exact bodyPost_ret (v := .agg #[.bool s, .slice pr (nlen (a + b)) cr]) (by simp [results, Tryz.results55, go_sem, e0, e1]) rfl ⟨_, rfl, hI, by repeat (first | with_reducible exact Later.refl _ | with_reducible assumption | with_reducible refine Later.ofdrew ?_ | with_reducible refine Later.ofdrewN ?_ | with_reducible refine Later.setCell ?_ ?_ _ | with_reducible refine Later.alloc ?_ _ | with_reducible refine Later.drewN ?_ _ | with_reducible refine Later.drew ?_ | (with_reducible refine Later.trans ?_ (by assumption)) | (simp only [World.size_setCell, World.size_alloc, World.heap_drewN]; omega) | (simp; done) | (simp; omega))⟩
end Go.Proofs.YtckeaibamgkegaaGreatDoor
end
