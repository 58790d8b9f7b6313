/- walks: chattelref01: Of -/
import Derived.Test.YtckeaibamgkegaaDoorRefC
set_option linter.all false
namespace Go.Proofs.YtckeaibamgkegaaDoor
open Go.RowKit
set_option maxRecDepth 100000

/-- A number of a sign and a size. -/
def IsBig (w : World) (x : Value) (neg : Bool) (n : Nat) : Prop := ∃ v, x = .agg #[.bool neg, v] ∧ Num w v n
/-- A number; nought is not below nought. -/
def IsZ (w : World) (x : Value) (z : Int) : Prop := IsBig w x (decide (z < 0)) z.natAbs
theorem IsBig.open {w : World} {x : Value} {neg : Bool} {n : Nat} (h : IsBig w x neg n) : ∃ p c, x = .agg #[.bool neg, .slice p (nlen n) c] ∧ Num w (.slice p (nlen n) c) n := by
  obtain ⟨v, rfl, hv⟩ := h
  obtain ⟨p, c, rfl⟩ := Row.form hv
  exact ⟨p, c, rfl, hv⟩
theorem IsZ.open {w : World} {x : Value} {z : Int} (h : IsZ w x z) : ∃ p c, x = .agg #[.bool (decide (z < 0)), .slice p (nlen z.natAbs) c] ∧ Num w (.slice p (nlen z.natAbs) c) z.natAbs := IsBig.open h
theorem IsBig.later {w w' : World} {x : Value} {s : Bool} {n : Nat} (h : IsBig w x s n) (hb : Later w w') : IsBig w' x s n := by
  obtain ⟨v, h1, h2⟩ := h; exact ⟨v, h1, h2.later hb⟩
theorem IsZ.later {w w' : World} {x : Value} {z : Int} (h : IsZ w x z) (hb : Later w w') : IsZ w' x z := IsBig.later h hb

theorem grown_cells {w1 w2 : World} {row : Option Nat} {k : Nat} {A : Array Value} (hg : w1.grownBy w2 row) (hk : k < w1.heap.size) (hr : row ≠ some k)
    (hc : ∀ i, w1.cell? ⟨k, i, none⟩ = A[i]?) (hf : ∀ i, i < A.size → w1.frozen? ⟨k, i, none⟩ = false) :
    (∀ i, w2.cell? ⟨k, i, none⟩ = A[i]?) ∧ (∀ i, i < A.size → w2.frozen? ⟨k, i, none⟩ = false) := by
  have hb := hg.block k hk (fun e => hr e.symm)
  exact ⟨fun i => (World.cell?_of_block (a := ⟨k, i, none⟩) hb).trans (hc i), fun i hi => (World.frozen?_of_block (a := ⟨k, i, none⟩) hb).trans (hf i hi)⟩

/-- Where Of stands: j bits are laid. -/
def OfRel (w wr : World) (m j : Nat) (neg : Bool) (v : Value) : Prop :=
  ((∀ i, wr.cell? ⟨w.heap.size, i, none⟩ = #[.bool false, .slice none 0 0][i]?) ∧ (∀ i, i < 2 → wr.frozen? ⟨w.heap.size, i, none⟩ = false)) ∧
  ((∀ i, wr.cell? ⟨w.heap.size + 1, i, none⟩ = #[.bool neg, v][i]?) ∧ (∀ i, i < 2 → wr.frozen? ⟨w.heap.size + 1, i, none⟩ = false)) ∧
  w.heap.size + 2 ≤ wr.heap.size ∧ wr.ownsRow (w.heap.size + 2) 3 1 v j (bitsV m j) ∧ Later w wr

theorem OfRel.next {w wr w1 w2 : World} {m j : Nat} {neg : Bool} {v v' : Value} {x : Int} (h : OfRel w wr m j neg v) (hx : x = bit m j) {o : Obj}
    (hown : w1.ownsRow (w.heap.size + 2) 3 1 v' (j + 1) (bitsV m j ++ [.int .i64 x])) (hg : (wr.alloc o).grownBy w1 v.ownBlock)
    (h2 : w2 = w1.setCell ⟨w.heap.size + 1, 1, none⟩ v') : OfRel w w2 m (j + 1) neg v' := by
  obtain ⟨⟨a1, a2⟩, ⟨a3, a4⟩, a5, a6, a7⟩ := h
  have hr : ∀ k, v.ownBlock = some k → w.heap.size + 2 ≤ k := fun k hk => (a6.lt k hk).1
  have hl1 : Later wr (wr.alloc o) := (Later.refl _).alloc _
  have hs1 := Later.size hl1
  obtain ⟨b1, b2⟩ := grown_cells (k := w.heap.size) hg (by omega) (fun e => by have := hr _ e; omega)
    (fun i => ((bcell hl1).1 _ i (by omega)).trans (a1 i)) (fun i hi => ((bcell hl1).2 _ i (by omega)).trans (a2 i hi))
  obtain ⟨b3, b4⟩ := grown_cells (k := w.heap.size + 1) hg (by omega) (fun e => by have := hr _ e; omega)
    (fun i => ((bcell hl1).1 _ i (by omega)).trans (a3 i)) (fun i hi => ((bcell hl1).2 _ i (by omega)).trans (a4 i hi))
  have hl2 : Later w w1 := Later.grown (a7.alloc _) hg (fun k hk => by have := hr k hk; omega)
  have hs2 := hg.size
  subst h2
  refine ⟨⟨fun i => set_far b1 v' (by omega) i, fun i hi => set_frozen (n := 2) (fun i hi => b2 i hi) v' i hi⟩, ⟨fun i => ?_, fun i hi => set_frozen (n := 2) (fun i hi => b4 i hi) v' i hi⟩, ?_, ?_, ?_⟩
  · rw [set_own b3 v' (by simp) i]; rfl
  · simp; omega
  · have := own_next hown hx rfl
    exact ownsRow_setCell_below this (by show w.heap.size + 1 < w.heap.size + 2; omega) _
  · exact hl2.setCell (by show w.heap.size ≤ w.heap.size + 1; omega) _

theorem own_form {w : World} {base t n : Nat} {v : Value} {xs : List Value} (h : w.ownsRow base t 1 v n xs) : ∃ p cap, v = .slice p n cap := by
  rcases h.2 with ⟨h1, h2⟩ | ⟨g, cap, cur, h1, _⟩
  · subst h2; exact ⟨_, _, h1⟩
  · exact ⟨_, _, h1⟩

set_option maxHeartbeats 1600000 in
theorem rof_pos (m : Nat) (w : World) (hm : m ≤ 9223372036854775807) :
    Calls Tryd.prog 56 #[.int .i64 m] w fun e w' => ∃ r, e = .returned r ∧ IsBig w' r false m ∧ Later w w' := by
  obtain ⟨i0, hi, hz0, hz1, hz2⟩ := info_parts intInfo
  have hneg : decide ((m : Int) < 0) = false := by simp
  have hmb : nlen m ≤ 63 := nlen_le (by omega)
  have h0 := fun B => own2 (w := w) (A := #[.bool false, .slice none 0 0]) (B := B) (ta := 60) (tb := 60) (Later.refl _)
  have H0 := Lib.hid h0
  clear h0
  go_enter Tryd.func56, Tryd.ntmps56
  go_wp2
  try rw [hneg]
  go_loopw [0] (fun s0 wr => ∃ j v, j ≤ nlen m ∧ s0 = .int .i64 ((m / 2 ^ j : Nat) : Int) ∧ OfRel w wr m j false v) (fun s0 _ => (intOf s0).toNat)
  case atStart =>
    obtain ⟨a1, a2, a3, a4, a5⟩ := H0.out #[.bool false, .slice none 0 0]
    exact ⟨0, _, by omega, by simp, ⟨a1, a2⟩, ⟨a3, a4⟩, by simp, World.ownsRow_nil _ _ _ _, ((Later.refl _).alloc _).alloc _⟩
  case round =>
    obtain ⟨j, v, hj, rfl, H⟩ := hrel
    obtain ⟨p, cp, rfl⟩ := own_form H.2.2.2.1
    have hc10 := H.2.1.1 0
    have hc11 := H.2.1.1 1
    have hsz := H.2.2.1
    have hown := H.2.2.2.1
    have hbit := bit_cases m j
    have HB : Hid (bit m j = ((m / 2 ^ j : Nat) : Int) % 2 ∧ m / 2 ^ (j + 1) = m / 2 ^ j / 2) := Lib.hid (by
      refine ⟨by unfold bit; omega, by rw [Nat.pow_succ, Nat.div_div_eq_div_mul]⟩)
    have HJ : Hid (m / 2 ^ j = 0 → j = nlen m) := Lib.hid (by
      intro hq
      have : m < 2 ^ j := by
        rcases Nat.div_eq_zero_iff.1 hq with h | h
        · have := Nat.pow_pos (show 0 < 2 by omega) (n := j); omega
        · exact h
      have := nlen_le this; omega)
    have HJ2 : Hid (m / 2 ^ j ≠ 0 → j + 1 ≤ nlen m) := Lib.hid (by
      intro hq
      refine le_nlen ?_
      apply Classical.byContradiction; intro hlt
      exact hq (Nat.div_eq_of_lt (by omega)))
    have hqb : m / 2 ^ j ≤ m := Nat.div_le_self _ _
    have hmx := Lib.hid hmb
    have H' := Lib.hid H
    clear hbit H hmb
    simp only [List.getElem?_toArray, List.getElem?_cons_zero, List.getElem?_cons_succ] at hc10 hc11
    obtain ⟨q, hq⟩ : ∃ q, m / 2 ^ j = q := ⟨_, rfl⟩
    rw [hq] at HB HJ HJ2 hqb ⊢
    clear hq
    by_cases hq0 : q = 0
    · subst hq0
      have HJ' := Lib.hid (HJ.out rfl)
      have hfz := H'.out.1.2 0 (by omega)
      have hfz1 := H'.out.1.2 1 (by omega)
      have hr0 := H'.out.1.1 0
      have hr1 := H'.out.1.1 1
      simp only [List.getElem?_toArray, List.getElem?_cons_zero, List.getElem?_cons_succ] at hr0 hr1
      have hE := set_own (k := 1) (set_own (k := 0) H'.out.1.1 (.bool false) (by simp)) (.slice p j cp) (by simp)
      have e0 := hE 0
      have e1 := hE 1
      simp at e0 e1
      have R := Lib.hid (Row.of_own (n := m) (ownsRow_setCell_below (ownsRow_setCell_below hown (a := ⟨w.heap.size, 0, none⟩) (by show w.heap.size < w.heap.size + 2; omega) (.bool false)) (a := ⟨w.heap.size, 1, none⟩) (by show w.heap.size < w.heap.size + 2; omega) (.slice p j cp)) (by rw [HJ'.out]; exact lt_nlen m))
      have hE0 := Lib.hid e0
      have hE1 := Lib.hid e1
      have hl := Lib.hid H'.out.2.2.2.2
      clear hown HJ HJ2 HB hE e0 e1
      go_wp2
      have e0 := hE0.out
      have e1 := hE1.out
      refine bodyPost_ret (v := .agg #[.bool false, .slice p j cp]) (by simp [results, Tryd.results56, go_sem, e0, e1]) rfl ⟨_, rfl, ⟨_, rfl, ?_⟩, ?_⟩
      · have := R.out
        rw [HJ'.out] at this ⊢
        exact this
      · exact (hl.out.setCell (by show w.heap.size ≤ w.heap.size; omega) _).setCell (by show w.heap.size ≤ w.heap.size; omega) _
    · have HJ' := Lib.hid (HJ2.out hq0)
      have hfz := H'.out.2.1.2 1 (by omega)
      have hq1 : 1 ≤ q := by omega
      clear HJ HJ2
      go_wp2_with (at_builtin; refine wpList_append_own _ rfl _ _ 58 rfl (w.heap.size + 2) 3 i0 (.int .i64 0) 1 8 Tryd.underlying58 hi hz0 hz1 hz2 rfl (by decide) _ _ _ rfl (hown.alloc _) ⟨wr.heap.size, 0, none⟩ 1 1 [.int .i64 ((q : Int) % 2)] rfl rfl ?a1 ?b1 ?c1 ?d1 ?e1 ?_)
      case a1 =>
        intro j u hj
        match j, hj with
        | 0, hj => simp at hj; subst hj; simp [Addr.add]
      case b1 => intro u hu; simp at hu; subst hu; rfl
      case c1 => unfold maxLen; have := hmx.out; have := HJ'.out; omega
      case d1 => have := hmx.out; have := HJ'.out; omega
      case e1 => simp; omega
      intro v' w1 hown' hgrow _
      obtain ⟨p', cp', rfl⟩ := own_form hown'
      have HN := fun w2 => OfRel.next (w2 := w2) H'.out HB.out.1.symm hown' hgrow
      have HN' := Lib.hid HN
      have hr : ∀ k, (Value.slice p j cp).ownBlock = some k → w.heap.size + 2 ≤ k := fun k hk => (hown.lt k hk).1
      have hl1 : Later wr (wr.alloc (.cells #[.int .i64 ((q : Int) % 2)] 3)) := (Later.refl _).alloc _
      obtain ⟨b3, b4⟩ := grown_cells (k := w.heap.size + 1) hgrow (by have := Later.size hl1; omega) (fun e => by have := hr _ e; omega)
        (fun i => ((bcell hl1).1 _ i (by omega)).trans (H'.out.2.1.1 i)) (fun i hi => ((bcell hl1).2 _ i (by omega)).trans (H'.out.2.1.2 i hi))
      have hs1 := hgrow.size
      have k1 := b3 1
      have k2 := b4 1 (by simp)
      simp only [List.getElem?_toArray, List.getElem?_cons_zero, List.getElem?_cons_succ] at k1
      clear HN hown' hgrow hown hr hl1 b3 b4 hc10 hc11 hfz hs1
      go_wp2
      go_roundw
      case rel => exact ⟨j + 1, _, HJ'.out, by rw [HB.out.2]; go_num, HN'.out _ rfl⟩
      case measure => simp [intOf]; omega
end Go.Proofs.YtckeaibamgkegaaDoor
