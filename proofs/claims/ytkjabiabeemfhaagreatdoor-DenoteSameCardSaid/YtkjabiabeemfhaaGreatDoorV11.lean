/- walks: chattelref01: Int -/
import Derived.Test.YtkjabiabeemfhaaGreatDoorV10
import Derived.Test.YtkjabiabeemfhaaGreatDoorV3
import Derived.Deep.DeepCutAuto
set_option linter.all false
set_option linter.all false
section
namespace Go.Proofs.YtkjabiabeemfhaaGreatDoor
open Go.RowKit
set_option maxRecDepth 100000
set_option maxHeartbeats 1600000 in
theorem rof_neg (m : Nat) (w : World) (hm0 : 1 ≤ m) (hm : m ≤ 9223372036854775808) :
    Calls Tryz.prog 61 #[.int .i64 (-(m : Int))] w fun e w' => ∃ r, e = .returned r ∧ IsBig w' r true m ∧ Later w w' := by
  obtain ⟨i0, hi, hz0, hz1, hz2⟩ := info_parts intInfo
  have hneg : decide (-(m : Int) < 0) = true := by simp; omega
  have hmb : nlen m ≤ 64 := nlen_le (by omega)
  have h0 := fun B => own2 (w := w) (A := #[.bool false, .slice none 0 0]) (B := B) (ta := 123) (tb := 123) (Later.refl _)
  have H0 := Lib.hid h0
  clear h0
  go_enter Tryz.func61, Tryz.ntmps61
  go_wp2
  try rw [hneg]
  try rw [show decide (0 < m) = true by simp; omega]
  go_loopw [0] (fun s0 wr => ∃ j v, j ≤ nlen m ∧ s0 = .int .i64 (-((m / 2 ^ j : Nat) : Int)) ∧ OfRel w wr m j true v) (fun s0 _ => (- intOf s0).toNat)
  case atStart =>
    obtain ⟨a1, a2, a3, a4, a5⟩ := H0.out #[.bool true, .slice none 0 0]
    exact ⟨0, _, by omega, by simp, ⟨a1, a2⟩, ⟨a3, a4⟩, by simp, World.ownsRow_nil _ _ _ _, ((Later.refl _).alloc _).alloc _⟩
  case round =>
    obtain ⟨j, v, hj, rfl, H⟩ := hrel
    obtain ⟨p, cp, rfl⟩ := own_form H.2.2.2.1
    have hc10 := H.2.1.1 0
    have hc11 := H.2.1.1 1
    have hsz := H.2.2.1
    have hown := H.2.2.2.1
    have hbit := bit_cases m j
    have HB : Hid (bit m j = ((m / 2 ^ j : Nat) : Int) % 2 ∧ m / 2 ^ (j + 1) = m / 2 ^ j / 2) := Lib.hid (by
      refine ⟨by unfold bit; omega, by rw [Nat.pow_succ, Nat.div_div_eq_div_mul]⟩)
    have HJ : Hid (m / 2 ^ j = 0 → j = nlen m) := Lib.hid (by
      intro hq
      have : m < 2 ^ j := by
        rcases Nat.div_eq_zero_iff.1 hq with h | h
        · have := Nat.pow_pos (show 0 < 2 by omega) (n := j); omega
        · exact h
      have := nlen_le this; omega)
    have HJ2 : Hid (m / 2 ^ j ≠ 0 → j + 1 ≤ nlen m) := Lib.hid (by
      intro hq
      refine le_nlen ?_
      apply Classical.byContradiction; intro hlt
      exact hq (Nat.div_eq_of_lt (by omega)))
    have hqb : m / 2 ^ j ≤ m := Nat.div_le_self _ _
    have hmx := Lib.hid hmb
    have H' := Lib.hid H
    clear hbit H hmb
    simp only [List.getElem?_toArray, List.getElem?_cons_zero, List.getElem?_cons_succ] at hc10 hc11
    obtain ⟨q, hq⟩ : ∃ q, m / 2 ^ j = q := ⟨_, rfl⟩
    rw [hq] at HB HJ HJ2 hqb ⊢
    clear hq
    by_cases hq0 : q = 0
    · subst hq0
      have HJ' := Lib.hid (HJ.out rfl)
      have hfz := H'.out.1.2 0 (by omega)
      have hfz1 := H'.out.1.2 1 (by omega)
      have hr0 := H'.out.1.1 0
      have hr1 := H'.out.1.1 1
      simp only [List.getElem?_toArray, List.getElem?_cons_zero, List.getElem?_cons_succ] at hr0 hr1
      have hE := set_own (k := 1) (set_own (k := 0) H'.out.1.1 (.bool true) (by simp)) (.slice p j cp) (by simp)
      have e0 := hE 0
      have e1 := hE 1
      simp at e0 e1
      have R := Lib.hid (Row.of_own (n := m) (ownsRow_setCell_below (ownsRow_setCell_below hown (a := ⟨w.heap.size, 0, none⟩) (by show w.heap.size < w.heap.size + 2; omega) (.bool true)) (a := ⟨w.heap.size, 1, none⟩) (by show w.heap.size < w.heap.size + 2; omega) (.slice p j cp)) (by rw [HJ'.out]; exact lt_nlen m))
      have hE0 := Lib.hid e0
      have hE1 := Lib.hid e1
      have hl := Lib.hid H'.out.2.2.2.2
      clear hown HJ HJ2 HB hE e0 e1
      go_wp2
      have e0 := hE0.out
      have e1 := hE1.out
      refine bodyPost_ret (v := .agg #[.bool true, .slice p j cp]) (by simp [results, Tryz.results61, go_sem, e0, e1]) rfl ⟨_, rfl, ⟨_, rfl, ?_⟩, ?_⟩
      · have := R.out
        rw [HJ'.out] at this ⊢
        exact this
      · exact (hl.out.setCell (by show w.heap.size ≤ w.heap.size; omega) _).setCell (by show w.heap.size ≤ w.heap.size; omega) _
    · have HJ' := Lib.hid (HJ2.out hq0)
      have hfz := H'.out.2.1.2 1 (by omega)
      have hq1 : 1 ≤ q := by omega
      clear HJ HJ2
      have hdiv : (-(q : Int)).tdiv 2 = -((q / 2 : Nat) : Int) := by rw [Int.neg_tdiv, Int.tdiv_eq_ediv_of_nonneg (by omega)]; omega
      rcases (show q % 2 = 1 ∨ q % 2 = 0 by omega) with ho | ho
      · have hmod : (-(q : Int)).tmod 2 = -1 := by rw [Int.neg_tmod, Int.tmod_eq_emod_of_nonneg (by omega)]; omega
        go_wp2_with (at_builtin; refine wpList_append_own _ rfl _ _ 94 rfl (w.heap.size + 2) 3 i0 (.int .i64 0) 1 8 Tryz.underlying94 hi hz0 hz1 hz2 rfl (by decide) _ _ _ rfl (hown.alloc _) ⟨wr.heap.size, 0, none⟩ 1 1 [.int .i64 (1 : Int)] rfl rfl ?a19 ?b19 ?c19 ?d19 ?e19 ?_)
        case a19 =>
          intro j u hj
          match j, hj with
          | 0, hj => simp at hj; subst hj; simp [Addr.add]
        case b19 => intro u hu; simp at hu; subst hu; rfl
        case c19 => unfold maxLen; have := hmx.out; have := HJ'.out; omega
        case d19 => have := hmx.out; have := HJ'.out; omega
        case e19 => simp; omega
        intro v' w1 hown' hgrow _
        obtain ⟨p', cp', rfl⟩ := own_form hown'
        have HN := fun w2 => OfRel.next (w2 := w2) H'.out (by have := HB.out.1; omega) hown' hgrow
        have HN' := Lib.hid HN
        have hr : ∀ k, (Value.slice p j cp).ownBlock = some k → w.heap.size + 2 ≤ k := fun k hk => (hown.lt k hk).1
        have hl1 : Later wr (wr.alloc (.cells #[.int .i64 (1 : Int)] 3)) := (Later.refl _).alloc _
        obtain ⟨b3, b4⟩ := grown_cells (k := w.heap.size + 1) hgrow (by have := Later.size hl1; omega) (fun e => by have := hr _ e; omega)
          (fun i => ((bcell hl1).1 _ i (by omega)).trans (H'.out.2.1.1 i)) (fun i hi => ((bcell hl1).2 _ i (by omega)).trans (H'.out.2.1.2 i hi))
        have hs1 := hgrow.size
        have k1 := b3 1
        have k2 := b4 1 (by simp)
        simp only [List.getElem?_toArray, List.getElem?_cons_zero, List.getElem?_cons_succ] at k1
        clear HN hown' hgrow hown hr hl1 b3 b4 hc10 hc11 hfz hs1
        go_wp2
        go_roundw
        case rel => exact ⟨j + 1, _, HJ'.out, by rw [HB.out.2]; go_num, HN'.out _ rfl⟩
        case measure => simp [intOf]; omega
      · have hmod : (-(q : Int)).tmod 2 = 0 := by rw [Int.neg_tmod, Int.tmod_eq_emod_of_nonneg (by omega)]; omega
        go_wp2_with (at_builtin; refine wpList_append_own _ rfl _ _ 94 rfl (w.heap.size + 2) 3 i0 (.int .i64 0) 1 8 Tryz.underlying94 hi hz0 hz1 hz2 rfl (by decide) _ _ _ rfl (hown.alloc _) ⟨wr.heap.size, 0, none⟩ 1 1 [.int .i64 (0 : Int)] rfl rfl ?a29 ?b29 ?c29 ?d29 ?e29 ?_)
        case a29 =>
          intro j u hj
          match j, hj with
          | 0, hj => simp at hj; subst hj; simp [Addr.add]
        case b29 => intro u hu; simp at hu; subst hu; rfl
        case c29 => unfold maxLen; have := hmx.out; have := HJ'.out; omega
        case d29 => have := hmx.out; have := HJ'.out; omega
        case e29 => simp; omega
        intro v' w1 hown' hgrow _
        obtain ⟨p', cp', rfl⟩ := own_form hown'
        have HN := fun w2 => OfRel.next (w2 := w2) H'.out (by have := HB.out.1; omega) hown' hgrow
        have HN' := Lib.hid HN
        have hr : ∀ k, (Value.slice p j cp).ownBlock = some k → w.heap.size + 2 ≤ k := fun k hk => (hown.lt k hk).1
        have hl1 : Later wr (wr.alloc (.cells #[.int .i64 (0 : Int)] 3)) := (Later.refl _).alloc _
        obtain ⟨b3, b4⟩ := grown_cells (k := w.heap.size + 1) hgrow (by have := Later.size hl1; omega) (fun e => by have := hr _ e; omega)
          (fun i => ((bcell hl1).1 _ i (by omega)).trans (H'.out.2.1.1 i)) (fun i hi => ((bcell hl1).2 _ i (by omega)).trans (H'.out.2.1.2 i hi))
        have hs1 := hgrow.size
        have k1 := b3 1
        have k2 := b4 1 (by simp)
        simp only [List.getElem?_toArray, List.getElem?_cons_zero, List.getElem?_cons_succ] at k1
        clear HN hown' hgrow hown hr hl1 b3 b4 hc10 hc11 hfz hs1
        go_wp2
        go_roundw
        case rel => exact ⟨j + 1, _, HJ'.out, by rw [HB.out.2]; go_num, HN'.out _ rfl⟩
        case measure => simp [intOf]; omega
end Go.Proofs.YtkjabiabeemfhaaGreatDoor
end
section
namespace Go.Proofs.YtkjabiabeemfhaaGreatDoor
open Go.RowKit
set_option maxRecDepth 100000
theorem rof_any (z : Int) (w : World) (h1 : -9223372036854775808 ≤ z) (h2 : z ≤ 9223372036854775807) :
    Calls Tryz.prog 61 #[.int .i64 z] w fun e w' => ∃ r, e = .returned r ∧ IsZ w' r z ∧ Later w w' := by
  by_cases hz : z < 0
  · obtain ⟨m, hm⟩ : ∃ m : Nat, z = -(m : Int) := ⟨z.natAbs, by omega⟩
    subst hm
    refine (rof_neg m w (by omega) (by omega)).mono ?_
    rintro e w' ⟨r, rfl, hr, hb⟩
    refine ⟨r, rfl, ?_, hb⟩
    unfold IsZ
    rw [show decide (-(m : Int) < 0) = true by simp; omega, show (-(m : Int)).natAbs = m by omega]
    exact hr
  · obtain ⟨m, rfl⟩ := Int.eq_ofNat_of_zero_le (show 0 ≤ z by omega)
    refine (rof_pos m w (by omega)).mono ?_
    rintro e w' ⟨r, rfl, hr, hb⟩
    refine ⟨r, rfl, ?_, hb⟩
    unfold IsZ
    rw [show decide ((m : Int) < 0) = false by simp, show ((m : Int)).natAbs = m by omega]
    exact hr
theorem Row.set {w : World} {v x : Value} {n L k i : Nat} {t : Bool} (h : Row w v n L) (hk : w.cell? ⟨k, 0, none⟩ = some (.bool t)) : Row (w.setCell ⟨k, i, none⟩ x) v n L := by
  refine ⟨h.1, ?_⟩
  rcases h.2 with h2 | ⟨b, cap, h2, h3, h4, h5⟩
  · exact .inl h2
  · refine .inr ⟨b, cap, h2, by simpa using h3, h4, fun j hj => ?_⟩
    have hne : k ≠ b := by
      rintro rfl
      have := h5 0 (by omega)
      rw [hk] at this; cases this
    rw [World.cell?_setCell_other _ _ _ _ (fun e => hne (by cases e; rfl))]
    exact h5 j hj
theorem Row.set2 {w : World} {v y y0 : Value} {n L k : Nat} {t s : Bool} (h : Row w v n L) (hk : ∀ i, w.cell? ⟨k, i, none⟩ = #[Value.bool t, y0][i]?) :
    Row ((w.setCell ⟨k, 0, none⟩ (.bool s)).setCell ⟨k, 1, none⟩ y) v n L := by
  refine (h.set (t := t) (by rw [hk]; rfl)).set (t := s) ?_
  rw [set_own hk _ (by simp)]; rfl
theorem big_end {w : World} {v y0 : Value} {n k : Nat} {t s : Bool} (hk : ∀ i, w.cell? ⟨k, i, none⟩ = #[Value.bool t, y0][i]?) (h : Num w v n) :
    ((w.setCell ⟨k, 0, none⟩ (.bool s)).setCell ⟨k, 1, none⟩ v).cell? ⟨k, 0, none⟩ = some (.bool s) ∧
    ((w.setCell ⟨k, 0, none⟩ (.bool s)).setCell ⟨k, 1, none⟩ v).cell? ⟨k, 1, none⟩ = some v ∧
    IsBig ((w.setCell ⟨k, 0, none⟩ (.bool s)).setCell ⟨k, 1, none⟩ v) (.agg #[.bool s, v]) s n := by
  have e := set_own (k := 1) (set_own (k := 0) hk (.bool s) (by simp)) v (by simp)
  exact ⟨by rw [e]; rfl, by rw [e]; rfl, v, rfl, h.set2 hk⟩
end Go.Proofs.YtkjabiabeemfhaaGreatDoor
end
section
namespace Go.Proofs.YtkjabiabeemfhaaGreatDoor
open Go.RowKit
set_option maxRecDepth 100000
theorem cmpN_lt {a b : Nat} (h : a < b) : cmpN a b = -1 := by simp [cmpN, h]
theorem cmpN_ge {a b : Nat} (h : b ≤ a) : 0 ≤ cmpN a b := by unfold cmpN; rw [if_neg (by omega)]; split <;> omega
end Go.Proofs.YtkjabiabeemfhaaGreatDoor
end
section
namespace Go.Proofs.YtkjabiabeemfhaaGreatDoor
open Go.RowKit
set_option maxRecDepth 100000
theorem bit_shift (a k i : Nat) : bit (a * 2 ^ k) i = if i < k then 0 else bit a (i - k) := by
  unfold bit
  have hp : 0 < 2 ^ k := Nat.pow_pos (by omega)
  split
  · rename_i h
    obtain ⟨d, rfl⟩ : ∃ d, k = i + (d + 1) := ⟨k - i - 1, by omega⟩
    rw [Nat.pow_add, Nat.mul_left_comm, Nat.mul_div_cancel_left _ (Nat.pow_pos (by omega)), Nat.pow_succ, ← Nat.mul_assoc, Nat.mul_mod_left]
    rfl
  · rename_i h
    obtain ⟨d, rfl⟩ : ∃ d, i = k + d := ⟨i - k, by omega⟩
    rw [Nat.pow_add, ← Nat.div_div_eq_div_mul, Nat.mul_div_cancel _ hp]
    simp
theorem made_zero (k : Nat) : (madeCells #[.int .i64 0] k).toList = List.replicate k (.int .i64 0) := by
  apply List.ext_getElem?
  intro i
  by_cases h : i < k
  · simp [madeCells, h, Nat.mod_one]
  · simp [madeCells, h]
theorem slInt : SliceOf Tryz.prog 94 3 1 8 := sliceOf_mk (z := .int .i64 0) Tryz.underlying94 intInfo rfl (by decide)
theorem zeroInt {z : Value} (h : ∃ i, Tryz.prog.info? 3 = some i ∧ i.zero = some z) : z = .int .i64 0 := by
  obtain ⟨i, h1, h2⟩ := h
  obtain ⟨i0, hi, hz0, _⟩ := info_parts intInfo
  rw [hi] at h1; cases h1; rw [hz0] at h2; cases h2; rfl
theorem cells_bits {w : World} {b L n : Nat} (hc : ∀ i, i < L → w.cell? ⟨b, i, none⟩ = some (.int .i64 (bit n i))) : CellsAt w b 0 (bitsV n L) := by
  intro j hj
  rw [bitsV_len] at hj
  rw [Nat.zero_add, hc j hj, bitsV_get hj]
theorem bits_one {n L : Nat} : ∀ u ∈ bitsV n L, u.oneCell' = true := by
  intro u hu
  simp only [bitsV, List.mem_map] at hu
  obtain ⟨i, _, rfl⟩ := hu; rfl
theorem Mine.zeros {w0 w : World} {v : Value} {k : Nat} (h : Mine w0 3 1 w v k (madeCells (Value.int .i64 0).cells (k * 1)).toList) : Mine w0 3 1 w v k (List.replicate k (.int .i64 0)) := by
  rw [Nat.mul_one] at h
  rw [← made_zero]; exact h
theorem Mine.row {w0 w : World} {v : Value} {n L : Nat} (h : Mine w0 3 1 w v L (bitsV n L)) (hn : n < 2 ^ L) : Row w v n L := Row.of_own h.1 hn
end Go.Proofs.YtkjabiabeemfhaaGreatDoor
end
section
namespace Go.Proofs.YtkjabiabeemfhaaGreatDoor
open Go.RowKit
set_option maxRecDepth 100000
theorem nlen_i64 {z : Int} (h1 : -9223372036854775808 ≤ z) (h2 : z ≤ 9223372036854775807) : nlen z.natAbs ≤ 64 := nlen_le (by omega)
end Go.Proofs.YtkjabiabeemfhaaGreatDoor
end
section
namespace Go.Proofs.YtkjabiabeemfhaaGreatDoor
open Go.RowKit
set_option maxRecDepth 100000
theorem bitsV_nought (L : Nat) : bitsV 0 L = List.replicate L (.int .i64 0) := by
  apply List.ext_getElem?
  intro i
  by_cases h : i < L
  · rw [bitsV_get h]; simp [h, bit]
  · rw [List.getElem?_eq_none (by rw [bitsV_len]; omega), List.getElem?_eq_none (by simp; omega)]
theorem mine_own {w0 w : World} {e g n : Nat} {xs : List Value} (h : Mine w0 e 1 w (.slice (some ⟨g, 0, none⟩) n n) n xs) : Own w [(g, xs.toArray)] := by
  obtain ⟨hl, h1⟩ := h.1
  rcases h1 with ⟨h1, _⟩ | ⟨g', cap, cur, h1, h2, h3, h4, h5, h6, h7⟩
  · cases h1
  · cases h1
    have hc : cur = xs.toArray := by
      rw [List.take_of_length_le (by simp; omega)] at h7
      rw [← h7]
    subst hc
    have hlt : g < w.heap.size := (Array.getElem?_eq_some_iff.1 h3).1
    exact ⟨⟨hlt, fun i => by simp [World.cell?, h3], fun i hi => by simp [World.frozen?, h3]⟩, trivial⟩
theorem mine_lit {w : World} {x : Value} {e : Nat} : Mine w e 1 (w.alloc (.cells #[x] e)) (.slice (some ⟨w.heap.size, 0, none⟩) 1 1) 1 [x] :=
  ⟨World.ownsRow_lit w #[x] 1 (Nat.le_refl _) (by unfold maxLen; omega) (by simp), (Later.refl _).alloc _⟩
theorem wpList_app_row {P : Program} {w0 w : World} {e : Nat} {v u : Value} {n m L : Nat} {xs : List Value} {ops : Array Oper} {rest : List Oper} {o : Oper} {a : Act} {Q : Exit → Act → World → Prop} {t bytes : Nat} (T : SliceOf P t e 1 bytes) (hM : Mine w0 e 1 w v n xs) (hgd : o.guard = none) (s x : Operand)
    (ho : o.op = .call { callee := .builtin .append, args := #[s, x], argTypes := #[t, t] }) (hs : a.eval s = v) (hx : a.eval x = u) (hu : Row w u m L)
    (h63 : (n + L) * bytes ≤ 140737488355328) (h64 : n + L ≤ maxLen)
    (h : ∀ v' w', Mine w0 e 1 w' v' (n + L) (xs ++ bitsV m L) → wpList P ops Q rest (a.put o.dst v') w') : wpList P ops Q (o :: rest) a w := by
  rcases hu.2 with ⟨rfl, rfl⟩ | ⟨b, cap, rfl, _, _, hc⟩
  · refine wpList_app_none T hM hgd s x ho hs hx ?_
    have := h v w (by rw [bitsV_zero, List.append_nil]; exact hM)
    exact this
  · exact wpList_app T hM hgd s x ho hs b 0 L cap (bitsV m L) hx (by rw [bitsV_len, Nat.mul_one]) (cells_bits hc) bits_one h63 h64 (fun v' w' h1 _ => h v' w' h1)
theorem bits_push {r L : Nat} {x : Int} (hx : x = 0 ∨ x = 1) : [Value.int .i64 x] ++ bitsV r L = bitsV (2 * r + x.toNat) (1 + L) := by
  apply List.ext_getElem?
  intro i
  rcases i with _ | i
  · simp only [List.cons_append, List.getElem?_cons_zero]
    rw [bitsV_get (by omega)]
    unfold bit
    congr 2
    rcases hx with rfl | rfl <;> simp <;> omega
  · simp only [List.cons_append, List.nil_append, List.getElem?_cons_succ]
    by_cases h : i < L
    · rw [bitsV_get h, bitsV_get (by omega)]
      have : (2 * r + x.toNat) / 2 ^ (i + 1) = r / 2 ^ i := by
        rw [Nat.pow_succ, Nat.mul_comm (2 ^ i) 2, ← Nat.div_div_eq_div_mul]
        congr 1
        rcases hx with rfl | rfl <;> simp <;> omega
      simp only [bit, this]
    · rw [List.getElem?_eq_none (by rw [bitsV_len]; omega), List.getElem?_eq_none (by rw [bitsV_len]; omega)]
theorem Mine.push {w0 w : World} {v : Value} {r L : Nat} {x : Int} (h : Mine w0 3 1 w v (1 + L) ([.int .i64 x] ++ bitsV r L)) (hx : x = 0 ∨ x = 1) (hr : r < 2 ^ L) : Row w v (2 * r + x.toNat) (1 + L) := by
  rw [bits_push hx] at h
  refine h.row ?_
  rw [Nat.pow_add]
  rcases hx with rfl | rfl <;> simp <;> omega
theorem div_low (a k : Nat) (b : Nat) (hb : 0 < b) : a / 2 ^ k % b = (if b ≤ 2 * (a / 2 ^ (k + 1) % b) + (bit a k).toNat then 2 * (a / 2 ^ (k + 1) % b) + (bit a k).toNat - b else 2 * (a / 2 ^ (k + 1) % b) + (bit a k).toNat) ∧
    a / 2 ^ k / b = 2 * (a / 2 ^ (k + 1) / b) + (if b ≤ 2 * (a / 2 ^ (k + 1) % b) + (bit a k).toNat then 1 else 0) := by
  have h1 := div_step a k
  have hbt : (bit a k).toNat = a / 2 ^ k % 2 := Int.toNat_natCast _
  rw [hbt]
  generalize a / 2 ^ (k + 1) = A at *
  have hx : a / 2 ^ k % 2 ≤ 1 := by omega
  generalize a / 2 ^ k % 2 = x at *
  rw [h1]
  have e := Nat.div_add_mod A b
  have l := Nat.mod_lt A hb
  generalize A / b = Q at *
  generalize A % b = R at *
  split
  · rename_i hge
    have : 2 * A + x = b * (2 * Q + 1) + (2 * R + x - b) := by rw [Nat.mul_add]; have : b * (2 * Q) = 2 * (b * Q) := Nat.mul_left_comm _ _ _; omega
    rw [this, Nat.mul_add_mod, Nat.mod_eq_of_lt (by omega), Nat.mul_add_div hb, Nat.div_eq_of_lt (by omega)]
    exact ⟨rfl, by omega⟩
  · rename_i hge
    have : 2 * A + x = b * (2 * Q) + (2 * R + x) := by have : b * (2 * Q) = 2 * (b * Q) := Nat.mul_left_comm _ _ _; omega
    rw [this, Nat.mul_add_mod, Nat.mod_eq_of_lt (by omega), Nat.mul_add_div hb, Nat.div_eq_of_lt (by omega)]
    exact ⟨rfl, by omega⟩
theorem bits_lay {Q L k : Nat} (hk : k < L) : (bitsV (Q * 2 ^ (k + 1)) L).set k (.int .i64 1) = bitsV ((2 * Q + 1) * 2 ^ k) L := by
  apply List.ext_getElem?
  intro i
  by_cases h : i < L
  · rw [List.getElem?_set, bitsV_get h, bitsV_get h, bitsV_len]
    split
    · rename_i he; subst he; rw [bit_shift, if_neg (by omega), Nat.sub_self]; unfold bit; congr 2; rw [Nat.pow_zero, Nat.div_one]; omega
    · rename_i hne
      congr 2
      rw [bit_shift, bit_shift]
      by_cases h2 : i < k
      · rw [if_pos (by omega), if_pos h2]
      · rw [if_neg (by omega), if_neg h2]
        obtain ⟨d, rfl⟩ : ∃ d, i = k + 1 + d := ⟨i - k - 1, by omega⟩
        unfold bit
        rw [show k + 1 + d - (k + 1) = d by omega, show k + 1 + d - k = d + 1 by omega, Nat.pow_succ, Nat.mul_comm (2 ^ d) 2, ← Nat.div_div_eq_div_mul, show (2 * Q + 1) / 2 = Q by omega]
  · rw [List.getElem?_eq_none (by simp [bitsV_len]; omega), List.getElem?_eq_none (by rw [bitsV_len]; omega)]
theorem own_set_row {w : World} {b k : Nat} {xs : List Value} {x : Value} (h : Own w [(b, xs.toArray)]) (hk : k < xs.length) : Own (w.setCell ⟨b, k, none⟩ x) [(b, (xs.set k x).toArray)] :=
  Own.cons (by simpa using h.1.1) (fun i => by rw [set_own h.1.2.1 x (by simpa using hk) i]; simp) (fun i hi => set_frozen (n := xs.length) (fun i hi => h.1.2.2 i (by simpa using hi)) x i (by simpa using hi)) trivial
theorem own_row {w : World} {b n L : Nat} (h : Own w [(b, (bitsV n L).toArray)]) (hn : n < 2 ^ L) : Row w (.slice (some ⟨b, 0, none⟩) L L) n L :=
  ⟨hn, .inr ⟨b, L, rfl, h.1.1, Nat.le_refl _, fun i hi => by rw [h.1.2.1]; simp only [List.getElem?_toArray]; exact bitsV_get hi⟩⟩
theorem Own.set_far {w : World} {b k : Nat} {x : Value} : ∀ {l : List (Nat × Array Value)}, Own w l → (∀ p ∈ l, p.1 ≠ b) → Own (w.setCell ⟨b, k, none⟩ x) l
  | [], _, _ => trivial
  | (g, A) :: l, h, hb => ⟨⟨by simpa using h.1.1, fun i => Go.Proofs.YtkjabiabeemfhaaGreatDoor.set_far h.1.2.1 x (fun e => hb _ (List.mem_cons_self ..) e.symm) i, fun i hi => set_frozen (n := A.size) h.1.2.2 x i hi⟩, h.2.set_far (fun p hp => hb p (List.mem_cons_of_mem _ hp))⟩
theorem Num.set_apart {w : World} {v x : Value} {n b k : Nat} (h : Num w v n) (hb : ∀ g, v.ownBlock = some g → g ≠ b) : Num (w.setCell ⟨b, k, none⟩ x) v n := by
  refine ⟨h.1, ?_⟩
  rcases h.2 with h2 | ⟨g, cap, h2, h3, h4, h5⟩
  · exact .inl h2
  · refine .inr ⟨g, cap, h2, by simpa using h3, h4, fun j hj => ?_⟩
    have : g ≠ b := hb g (by rw [h2]; rfl)
    rw [World.cell?_setCell_other _ _ _ _ (fun e => this (by cases e; rfl))]
    exact h5 j hj
theorem big_end2 {w : World} {k1 k2 n1 n2 : Nat} {v1 v2 y1 y2 : Value} {s1 s2 t1 t2 : Bool} (hO : Own w [(k1, #[.bool t1, y1]), (k2, #[.bool t2, y2])]) (hne : k1 ≠ k2) (h1 : Num w v1 n1) (h2 : Num w v2 n2) :
    ∃ W : World, ((((w.setCell ⟨k1, 0, none⟩ (.bool s1)).setCell ⟨k1, 1, none⟩ v1).setCell ⟨k2, 0, none⟩ (.bool s2)).setCell ⟨k2, 1, none⟩ v2) = W ∧
      W.cell? ⟨k1, 0, none⟩ = some (.bool s1) ∧ W.cell? ⟨k1, 1, none⟩ = some v1 ∧ W.cell? ⟨k2, 0, none⟩ = some (.bool s2) ∧ W.cell? ⟨k2, 1, none⟩ = some v2 ∧ IsBig W (.agg #[.bool s1, v1]) s1 n1 ∧ IsBig W (.agg #[.bool s2, v2]) s2 n2 := by
  obtain ⟨⟨_, c1, _⟩, ⟨_, c2, _⟩, _⟩ := hO
  have e1 := set_own (k := 1) (set_own (k := 0) c1 (.bool s1) (by simp)) v1 (by simp)
  have e2 : ∀ i, (((w.setCell ⟨k1, 0, none⟩ (.bool s1)).setCell ⟨k1, 1, none⟩ v1)).cell? ⟨k2, i, none⟩ = #[.bool t2, y2][i]? := set_far (set_far c2 _ hne) _ hne
  have e3 := set_own (k := 1) (set_own (k := 0) e2 (.bool s2) (by simp)) v2 (by simp)
  have e4 := set_far (k := 1) (set_far (k := 0) e1 (.bool s2) (Ne.symm hne)) v2 (Ne.symm hne)
  exact ⟨_, rfl, by rw [e4]; rfl, by rw [e4]; rfl, by rw [e3]; rfl, by rw [e3]; rfl, ⟨_, rfl, (h1.set2 c1).set2 e2⟩, ⟨_, rfl, (h2.set2 c1).set2 e2⟩⟩
set_option maxHeartbeats 1600000 in
theorem rparts_any (x y : Value) (s t : Bool) (a b : Nat) (w : World) (h : IsBig w x s a) (g : IsBig w y t b) (hL : nlen a ≤ 40000) (hM : nlen b ≤ 40000) (hb : 0 < b) :
    Calls Tryz.prog 101 #[x, y] w fun e w' => ∃ q r, e = .returned (.tuple #[q, r]) ∧ IsBig w' q false (a / b) ∧ IsBig w' r false (a % b) ∧ Later w w' := by
  obtain ⟨p, cp, rfl, hv⟩ := h.open
  obtain ⟨q, cq, rfl, hu⟩ := g.open
  clear h g
  have hla := lt_nlen a
  unfold Num at hv
  obtain ⟨la, hl⟩ : ∃ la, nlen a = la := ⟨_, rfl⟩
  rw [hl] at hv hla hL ⊢
  clear hl
  go_enter Tryz.func101, Tryz.ntmps101
  go_upto_region 1 with fail
  refine wp_opaque (fun w0 hb0 => ?_)
  have hO := Own.four hb0
  have hw0 : Later w w0 := hb0.un1.un1.un1.un1
  replace hv := hv.later hw0
  replace hu := hu.later hw0
  have hs0 := Later.size hw0
  obtain ⟨⟨z0, c0, -⟩, -⟩ := id hO
  go_wp2_with (at_make; go_must (refine wpList_mk slInt (Later.refl _) rfl _ _ rfl la rfl rfl (by omega) (by unfold maxLen; omega) ?_; intro w1 z hz hm hl1; cases zeroInt hz; clear c0; replace hm := Mine.zeros hm; have hO4 := hO.later hm.lat; obtain ⟨⟨z0, c0, -⟩, -⟩ := id hO4))
  have hq := mine_own hm
  rw [← bitsV_nought] at hq
  have hl01 := hm.lat
  have hz4 : w.heap.size + 1 + 1 + 1 < w0.heap.size := hO.2.2.2.1.1
  have hbq := Lib.hid hb
  obtain ⟨bq, hbqe⟩ : ∃ bq, w0.heap.size = bq := ⟨_, rfl⟩
  have hbq0 : w0.heap.size ≤ bq := by omega
  rw [hbqe] at hq ⊢
  replace hz4 : w.heap.size + 1 + 1 + 1 < bq := by omega
  clear c0 z0 hm hl1 hb0 hO hbqe
  go_loopw [7, 8] (fun s7 s8 wr => ∃ k : Nat, k ≤ la ∧ s8 = .int .i64 ((k : Int) - 1) ∧ Num wr s7 (a / 2 ^ k % b) ∧ (∀ g, s7.ownBlock = some g → g ≠ bq) ∧ Own wr [(bq, (bitsV ((a / 2 ^ k / b) * 2 ^ k) la).toArray)] ∧
      Own wr [(w.heap.size, #[.bool s, .slice p la cp]), (w.heap.size + 1, #[.bool t, .slice q (nlen b) cq]), (w.heap.size + 1 + 1, #[.bool false, .slice none 0 0]), (w.heap.size + 1 + 1 + 1, #[.bool false, .slice none 0 0])] ∧ Later w0 wr)
    (fun _ s8 _ => (intOf s8 + 1).toNat)
  case atStart =>
    refine ⟨la, Nat.le_refl _, rfl, ?_, ?_, ?_, hO4, hl01⟩
    · rw [Nat.div_eq_of_lt hla, Nat.zero_mod]; exact Num.nil _
    · intro g hg; simp [Value.ownBlock] at hg
    · rw [Nat.div_eq_of_lt hla, Nat.zero_div, Nat.zero_mul]; exact hq
  case round =>
    obtain ⟨k, hk, rfl, hr, hne, hq2, hO5, hlat⟩ := hrel
    obtain ⟨pr, cr, rfl⟩ := Row.form hr
    replace hv := hv.later hlat
    replace hu := hu.later hlat
    have hlw := hw0.trans hlat
    rcases k with _ | j
    · rw [Nat.pow_zero, Nat.div_one] at hr
      rw [Nat.pow_zero, Nat.div_one, Nat.mul_one] at hq2
      have hqr := own_row hq2 (Nat.lt_of_le_of_lt (Nat.div_le_self a b) hla)
      obtain ⟨-, -, ⟨z2, c2, f2⟩, ⟨z3, c3, f3⟩, -⟩ := id hO5
      rw [show (((0 : Nat) : Int) - 1) = -1 from rfl, Nat.pow_zero, Nat.div_one]
      have HR := Lib.hid hr
      have hne' := Lib.hid hne
      clear hr hq2 hv hu hne hO5 hO4 hq hla
      go_wp2_with (go_at_call 157; go_must (refine (trim_any _ _ _ _ hqr (by omega)).mono ?_; rintro e w3 ⟨u, rfl, hu4, rfl⟩; obtain ⟨pu, cu, rfl⟩ := Row.form hu4))
      obtain ⟨W, hW, e1, e2, e3, e4, hI1, hI2⟩ := big_end2 (s1 := false) (s2 := false) (Own.cons z2 c2 f2 (Own.cons z3 c3 f3 trivial)) (by omega) hu4 HR.out
      have hLW : Later w W := by
        rw [← hW]
        exact (((hlw.putCell (by omega) _).putCell (by omega) _).putCell (by omega) _).putCell (by omega) _
      rw [hW]
      exact bodyPost_ret (v := .tuple #[.agg #[.bool false, .slice pu (nlen (a / b)) cu], .agg #[.bool false, .slice pr (nlen (a % b)) cr]]) (by simp [results, Tryz.results101, go_sem, e1, e2, e3, e4]) rfl ⟨_, _, rfl, hI1, hI2, hLW⟩
    · obtain ⟨ba, capa, hvv, hba, _, hca⟩ := Row.full hv (by omega)
      cases hvv
      have hcell := hca j (by omega)
      obtain ⟨⟨z0, c0, -⟩, -⟩ := id hO5
      obtain ⟨hdl1, hdl2⟩ := div_low a j b hb
      have hbt := bit_cases a j
      have HD := Lib.hid (And.intro hdl1 hdl2)
      have hmod := Nat.mod_lt (a / 2 ^ (j + 1)) hb
      clear hdl1 hdl2 hca
      rw [show (((j + 1 : Nat) : Int) - 1) = (j : Int) by omega]
      obtain ⟨bt, hbte⟩ : ∃ bt, bit a j = bt := ⟨_, rfl⟩
      obtain ⟨R, hRe⟩ : ∃ R, a / 2 ^ (j + 1) % b = R := ⟨_, rfl⟩
      rw [hbte, hRe] at HD
      rw [hbte] at hcell hbt
      rw [hRe] at hr hmod ⊢
      have hR40 : nlen R ≤ 40000 := Nat.le_trans (nlen_mono (Nat.le_of_lt hmod)) hM
      have hnb : nlen (2 * R + bt.toNat) ≤ 1 + nlen R := nlen_le (by have := lt_nlen R; rw [Nat.pow_add]; rcases hbt with rfl | rfl <;> simp <;> omega)
      have HB := Lib.hid hbt
      clear hbte hRe hbt
      by_cases hge : b ≤ 2 * R + bt.toNat
      · have hcm := cmpN_ge hge
        obtain ⟨cm, hcm2⟩ : ∃ cm, cmpN (2 * R + bt.toNat) b = cm := ⟨_, rfl⟩
        rw [hcm2] at hcm
        have HC := Lib.hid hcm2
        have HGE := Lib.hid hge
        clear hcm2 hge hmod
        have hr2 := hr
        go_wp2_with (first
          | (at_builtin; go_must (refine wpList_app_row slInt (mine_lit (w := wr) (x := .int .i64 bt) (e := 3)) rfl _ _ rfl rfl rfl (hr.later ((Later.refl _).alloc _)) (by omega) (by unfold maxLen; omega) ?_; intro v2 w2 hm2; have hb2 := hm2.lat; have hrow := hm2.push HB.out (lt_nlen R); have how := Lib.hid hm2.1.lt; clear hm2 c0 z0 hcell))
          | (go_at_call 157; go_must (refine (trim_own _ _ _ _ hrow (by omega)).mono ?_; rintro e w3 ⟨u, rfl, hu4, rfl, hob⟩; obtain ⟨pu, cu, rfl⟩ := Row.form hu4; have hu5 := hu.later hb2; clear hrow; obtain ⟨-, ⟨z1, c1, -⟩, -⟩ := hO5.later hb2; have HOB := Lib.hid hob; clear hob))
          | (go_at_call 102; go_must (refine (order_any _ _ _ _ _ hu4 hu5 (by omega) (by omega)).mono ?_; rintro e w4 ⟨rfl, hb4⟩; rw [HC.out]; clear c1 z1; obtain ⟨-, ⟨z1, c1, -⟩, -⟩ := hO5.later (hb2.trans hb4)))
          | (go_at_call 158; go_must (refine (minus_own _ _ _ _ _ _ _ (hu4.later hb4) (hu5.later hb4) (by omega) (by omega) HGE.out).mono ?_; rintro e w5 ⟨u, rfl, hu6, hb5, hob⟩; obtain ⟨pu, cu, rfl⟩ := Row.form hu6; clear c1 z1; have hb6 := (hb2.trans hb4).trans hb5; obtain ⟨⟨z6, c6, f6⟩, -⟩ := hq2.later hb6; have c6' := (c6 j).trans (by simp only [List.getElem?_toArray]; exact bitsV_get (by omega)); have f6' := f6 j (by rw [List.size_toArray, bitsV_len]; omega); have HOB := Lib.hid hob; clear hob c6 f6)))
        have hbw := hq2.1.1
        have hsz4 := Later.size (hb2.trans hb4)
        go_roundw
        case rel =>
          refine ⟨j, by omega, rfl, ?_, ?_, ?_, ?_, ?_⟩
          · rw [HD.out.1, if_pos HGE.out]
            exact hu6.set_apart (fun g hg => by have := HOB.out g hg; omega)
          · exact fun g hg => by have := HOB.out g hg; omega
          · rw [HD.out.2, if_pos HGE.out, ← bits_lay (by omega)]
            exact own_set_row (hq2.later hb6) (by rw [bitsV_len]; omega)
          · exact (hO5.later hb6).set_far (fun p hp => by simp only [List.mem_cons, List.not_mem_nil, or_false] at hp; rcases hp with rfl | rfl | rfl | rfl <;> simp <;> omega)
          · exact (hlat.trans hb6).setCell hbq0 _
        case measure => simp [intOf]
      · have hlt : 2 * R + bt.toNat < b := by omega
        have hcm := cmpN_lt hlt
        have HC := Lib.hid hcm
        have HGE := Lib.hid hge
        clear hcm hge hmod hlt
        go_wp2_with (first
          | (at_builtin; go_must (refine wpList_app_row slInt (mine_lit (w := wr) (x := .int .i64 bt) (e := 3)) rfl _ _ rfl rfl rfl (hr.later ((Later.refl _).alloc _)) (by omega) (by unfold maxLen; omega) ?_; intro v2 w2 hm2; have hb2 := hm2.lat; have hrow := hm2.push HB.out (lt_nlen R); have how := Lib.hid hm2.1.lt; clear hm2 c0 z0 hcell))
          | (go_at_call 157; go_must (refine (trim_own _ _ _ _ hrow (by omega)).mono ?_; rintro e w3 ⟨u, rfl, hu4, rfl, hob⟩; obtain ⟨pu, cu, rfl⟩ := Row.form hu4; have hu5 := hu.later hb2; clear hrow; obtain ⟨-, ⟨z1, c1, -⟩, -⟩ := hO5.later hb2; have HOB := Lib.hid hob; clear hob))
          | (go_at_call 102; go_must (refine (order_any _ _ _ _ _ hu4 hu5 (by omega) (by omega)).mono ?_; rintro e w4 ⟨rfl, hb4⟩; rw [HC.out]; clear c1 z1)))
        have hbw := hq2.1.1
        have hb6 := hb2.trans hb4
        go_roundw
        case rel =>
          refine ⟨j, by omega, rfl, ?_, ?_, ?_, ?_, ?_⟩
          · rw [HD.out.1, if_neg HGE.out]
            exact hu4.later hb4
          · intro g hg
            rw [HOB.out] at hg
            have := how.out g hg
            omega
          · rw [HD.out.2, if_neg HGE.out, show (2 * (a / 2 ^ (j + 1) / b) + 0) * 2 ^ j = a / 2 ^ (j + 1) / b * 2 ^ (j + 1) by rw [Nat.pow_succ, Nat.add_zero, Nat.mul_comm 2, Nat.mul_assoc, Nat.mul_comm 2]]
            exact hq2.later hb6
          · exact hO5.later hb6
          · exact hlat.trans hb6
        case measure => simp [intOf]
end Go.Proofs.YtkjabiabeemfhaaGreatDoor
end
section
namespace Go.Proofs.YtkjabiabeemfhaaGreatDoor
open Go.RowKit
set_option maxRecDepth 100000
theorem own_split {w : World} {p q : Nat × Array Value} {l : List (Nat × Array Value)} (h : Own w (p :: q :: l)) : Own w [p] ∧ Own w (q :: l) := by
  obtain ⟨b, A⟩ := p
  exact ⟨⟨h.1, trivial⟩, h.2⟩
end Go.Proofs.YtkjabiabeemfhaaGreatDoor
end
section
namespace Go.Proofs.YtkjabiabeemfhaaGreatDoor
open Go.RowKit
set_option maxRecDepth 100000
def fitsB (s : Bool) (n : Nat) : Bool := decide (n ≤ 9223372036854775807) || (s && decide (n = 9223372036854775808))
def intV (s : Bool) (n : Nat) : Int := if fitsB s n then (if s then -(n : Int) else n) else 0
theorem not_fits {s : Bool} {n : Nat} (h : fitsB s n = false) : intV s n = 0 := by simp [intV, h]
theorem fits_le {s : Bool} {n : Nat} (h : fitsB s n = true) : n ≤ 9223372036854775808 := by
  simp [fitsB] at h; omega
theorem fits_pos {n : Nat} (h : fitsB false n = true) : n ≤ 9223372036854775807 := by
  simp [fitsB] at h; omega
theorem neg_step (n k : Nat) : 2 * (-((n / 2 ^ (k + 1) : Nat) : Int)) - bit n k = -((n / 2 ^ k : Nat) : Int) := by
  have := div_step n k
  unfold bit; omega
theorem mod_bit0 {n k : Nat} (h : n % 2 ^ k = 0) (hb : bit n k = 0) : n % 2 ^ (k + 1) = 0 := by
  rw [mod_step, h]; unfold bit at hb; rw [show n / 2 ^ k % 2 = 0 by omega]; simp
theorem mod_bit1 {n k L : Nat} (hk : k < L) (hb : bit n k ≠ 0) : n % 2 ^ L ≠ 0 := by
  intro h
  obtain ⟨c, hc⟩ := Nat.dvd_of_mod_eq_zero h
  apply hb
  rw [hc, Nat.mul_comm, bit_shift, if_pos hk]
theorem fit_full {n : Nat} (h : nlen n = 64) (hm : n % 2 ^ 63 = 0) : n = 9223372036854775808 := by
  have h1 := lt_nlen n
  have h2 : 2 ^ (nlen n - 1) ≤ n := nlen_low (nlen_pos.1 (by omega))
  rw [h] at h1 h2
  omega
theorem unfit_full {s : Bool} {n : Nat} (h : nlen n = 64) (hm : n % 2 ^ 63 ≠ 0) : fitsB s n = false := by
  have h2 : 2 ^ (nlen n - 1) ≤ n := nlen_low (nlen_pos.1 (by omega))
  rw [h] at h2
  simp [fitsB]
  refine ⟨by omega, fun _ h => ?_⟩
  subst h; exact hm (by decide)
theorem unfit_long {s : Bool} {n : Nat} (h : 64 < nlen n) : fitsB s n = false := by
  have h2 : 2 ^ (nlen n - 1) ≤ n := nlen_low (nlen_pos.1 (by omega))
  have h3 : 2 ^ 64 ≤ 2 ^ (nlen n - 1) := Nat.pow_le_pow_right (by omega) (by omega)
  simp [fitsB]
  omega
theorem fit_short {s : Bool} {n : Nat} (h : nlen n < 64) : fitsB s n = true := by
  have h1 := lt_nlen n
  have h3 : 2 ^ nlen n ≤ 2 ^ 63 := Nat.pow_le_pow_right (by omega) (by omega)
  simp [fitsB]; omega
theorem ret_ib {a b : Int} {c d : Bool} (h1 : a = b) (h2 : c = d) : Ending.returned (.tuple #[.int .i64 a, .bool c]) = .returned (.tuple #[.int .i64 b, .bool d]) := by rw [h1, h2]
set_option maxHeartbeats 1600000 in
theorem rint_any (x : Value) (s : Bool) (n : Nat) (w : World) (h : IsBig w x s n) (hL : nlen n ≤ 40000) :
    Calls Tryz.prog 59 #[x] w fun e w' => e = .returned (.tuple #[.int .i64 (intV s n), .bool (fitsB s n)]) ∧ Later w w' := by
  obtain ⟨p, cp, rfl, hv⟩ := h.open
  unfold Num at hv
  clear h
  obtain ⟨L, hLn⟩ : ∃ L, nlen n = L := ⟨_, rfl⟩
  rw [hLn] at hv hL ⊢
  have HLN := Lib.hid hLn
  clear hLn
  go_enter Tryz.func59, Tryz.ntmps59
  go_upto_region 1 with fail
  refine wp_opaque (fun w0 hb0 => ?_)
  have hO := Own.one hb0
  have hw0 : Later w w0 := hb0.un1
  replace hv := hv.later hw0
  obtain ⟨z0, c0, -⟩ := own_get hO
  clear hb0
  by_cases hlong : 64 < L
  · have hf := unfit_long (s := s) (n := n) (by rw [HLN.out]; exact hlong)
    have hi := not_fits hf
    have HF := Lib.hid (And.intro hf hi)
    clear hf hi hv hO
    go_wp2
    go_ret2
    exact ⟨ret_ib HF.out.2.symm HF.out.1.symm, hw0⟩
  go_upto_if 14 with fail
  go_cut [4] (fun s4 wx => fitsB s n = true ∧ wx = w0)
  case first =>
    by_cases hl : L = 64
    · subst hl
      obtain ⟨ba, capa, hvv, hba, _, hca⟩ := Row.full hv (by omega)
      cases hvv
      have HCA := Lib.hid hca
      clear hca hv
      go_wp2
      go_loop [4] (fun s4 => ∃ k : Nat, k ≤ 63 ∧ s4 = .int .i64 k ∧ n % 2 ^ k = 0) (fun s4 => 63 - (intOf s4).toNat)
      case atStart => exact ⟨0, by omega, rfl, Nat.mod_one n⟩
      case round =>
        obtain ⟨k, hk, rfl, hm⟩ := hrel
        have HM := Lib.hid hm
        clear hm
        by_cases hk63 : k < 63
        · have hcell := HCA.out k (by omega)
          by_cases hb0 : bit n k = 0
          · have HN := Lib.hid (mod_bit0 HM.out hb0)
            rw [hb0] at hcell
            clear hb0
            go_wp2
            go_round
            case rel => exact ⟨k + 1, by omega, by go_num, HN.out⟩
            case measure => simp [intOf]; omega
          · have hb1 : bit n k = 1 := (bit_cases n k).resolve_left hb0
            have hf := unfit_full (s := s) HLN.out (mod_bit1 hk63 hb0)
            have hi := not_fits hf
            have HF := Lib.hid (And.intro hf hi)
            rw [hb1] at hcell
            clear hf hi hb0 hb1
            go_wp2
            go_ret2
            exact ⟨ret_ib HF.out.2.symm HF.out.1.symm, hw0⟩
        · obtain rfl : k = 63 := by omega
          have hfull := fit_full HLN.out HM.out
          cases s
          · have hf : fitsB false n = false := by rw [hfull]; rfl
            have hi := not_fits hf
            have HF := Lib.hid (And.intro hf hi)
            clear hf hi hfull
            go_wp2
            go_ret2
            exact ⟨ret_ib HF.out.2.symm HF.out.1.symm, hw0⟩
          · have hf : fitsB true n = true := by rw [hfull]; rfl
            have HF := Lib.hid hf
            clear hf hfull
            go_wp2
            go_meet
            first | exact ⟨HF.out, rfl⟩ | exact ⟨HF.out, trivial⟩ | exact HF.out
    · have hf := fit_short (s := s) (n := n) (by rw [HLN.out]; omega)
      have HF := Lib.hid hf
      clear hf hv hO
      go_wp2
      go_meet
      exact ⟨HF.out, rfl⟩
  case rest =>
    obtain ⟨hf, rfl⟩ := hcut
    have hle := fits_le hf
    have HF := Lib.hid (And.intro hf (show intV s n = if s then -(n : Int) else n by unfold intV; rw [hf]; rfl))
    have hlt := hv.1
    clear hlong hf
    go_wp2
    go_loop [5, 6] (fun s5 s6 => ∃ k : Nat, k ≤ L ∧ s6 = .int .i64 ((k : Int) - 1) ∧ s5 = .int .i64 (-((n / 2 ^ k : Nat) : Int))) (fun _ s6 => (intOf s6 + 1).toNat)
    case atStart => exact ⟨L, Nat.le_refl _, rfl, by rw [Nat.div_eq_of_lt hlt]; rfl⟩
    case round =>
      obtain ⟨k, hk, rfl, rfl⟩ := hrel
      rcases k with _ | j
      · rw [Nat.pow_zero, Nat.div_one]
        rw [show (((0 : Nat) : Int) - 1) = -1 from rfl]
        clear hlt hv
        cases s
        · have hp := fits_pos HF.out.1
          go_wp2
          go_ret2
          exact ⟨ret_ib (by rw [HF.out.2]; simp) HF.out.1.symm, hw0⟩
        · go_wp2
          go_ret2
          exact ⟨ret_ib HF.out.2.symm HF.out.1.symm, hw0⟩
      · obtain ⟨ba, capa, hvv, hba, _, hca⟩ := Row.full hv (by omega)
        cases hvv
        have hcell := hca j (by omega)
        have hst := neg_step n j
        have hbt := bit_cases n j
        have hq1 : n / 2 ^ j ≤ n := Nat.div_le_self _ _
        have hq2 : n / 2 ^ (j + 1) ≤ n := Nat.div_le_self _ _
        have hq3 := div_step n j
        rw [show (((j + 1 : Nat) : Int) - 1) = (j : Int) by omega]
        clear hca hlt hv
        obtain ⟨bt, hbte⟩ : ∃ bt, bit n j = bt := ⟨_, rfl⟩
        obtain ⟨q, hq⟩ : ∃ q, n / 2 ^ (j + 1) = q := ⟨_, rfl⟩
        obtain ⟨q', hq'⟩ : ∃ q', n / 2 ^ j = q' := ⟨_, rfl⟩
        rw [hbte] at hst hbt hcell
        rw [hq] at hst hq2 hq3 ⊢
        rw [hq'] at hst hq1 hq3
        have HS := Lib.hid hst
        have HQ := Lib.hid hq'
        have hb0 : 0 ≤ bt := by omega
        have hb1 : bt ≤ 1 := by omega
        have hq4 : 2 * q ≤ n := by omega
        have hq5 : -9223372036854775808 ≤ 2 * -(q : Int) - bt := by omega
        clear hbte hq hq' hst hbt hq3
        go_wp2
        go_round
        case rel => exact ⟨j, by omega, rfl, by rw [HQ.out, ← HS.out]⟩
        case measure => simp [intOf]
end Go.Proofs.YtkjabiabeemfhaaGreatDoor
end
