/- walks: chattelref01: Parts -/
import Derived.Test.YtkpadahpepeaoaaDoorJh
import Derived.Deep.LoopGhost
set_option linter.all false
namespace Go.Proofs.YtkpadahpepeaoaaDoor
open Go.RowKit
set_option maxRecDepth 100000

theorem bitsV_nought (L : Nat) : bitsV 0 L = List.replicate L (.int .i64 0) := by
  apply List.ext_getElem?
  intro i
  by_cases h : i < L
  · rw [bitsV_get h]; simp [h, bit]
  · rw [List.getElem?_eq_none (by rw [bitsV_len]; omega), List.getElem?_eq_none (by simp; omega)]
theorem mine_own {w0 w : World} {e g n : Nat} {xs : List Value} (h : Mine w0 e 1 w (.slice (some ⟨g, 0, none⟩) n n) n xs) : Own w [(g, xs.toArray)] := by
  obtain ⟨hl, h1⟩ := h.1
  rcases h1 with ⟨h1, _⟩ | ⟨g', cap, cur, h1, h2, h3, h4, h5, h6, h7⟩
  · cases h1
  · cases h1
    have hc : cur = xs.toArray := by
      rw [List.take_of_length_le (by simp; omega)] at h7
      rw [← h7]
    subst hc
    have hlt : g < w.heap.size := (Array.getElem?_eq_some_iff.1 h3).1
    exact ⟨⟨hlt, fun i => by simp [World.cell?, h3], fun i hi => by simp [World.frozen?, h3]⟩, trivial⟩
theorem mine_lit {w : World} {x : Value} {e : Nat} : Mine w e 1 (w.alloc (.cells #[x] e)) (.slice (some ⟨w.heap.size, 0, none⟩) 1 1) 1 [x] :=
  ⟨World.ownsRow_lit w #[x] 1 (Nat.le_refl _) (by unfold maxLen; omega) (by simp), (Later.refl _).alloc _⟩

/-- What is appended is a row, nil or not. -/
theorem wpList_app_row {P : Program} {w0 w : World} {e : Nat} {v u : Value} {n m L : Nat} {xs : List Value} {ops : Array Oper} {rest : List Oper} {o : Oper} {a : Act} {Q : Exit → Act → World → Prop} {t bytes : Nat} (T : SliceOf P t e 1 bytes) (hM : Mine w0 e 1 w v n xs) (hgd : o.guard = none) (s x : Operand)
    (ho : o.op = .call { callee := .builtin .append, args := #[s, x], argTypes := #[t, t] }) (hs : a.eval s = v) (hx : a.eval x = u) (hu : Row w u m L)
    (h63 : (n + L) * bytes ≤ 140737488355328) (h64 : n + L ≤ maxLen)
    (h : ∀ v' w', Mine w0 e 1 w' v' (n + L) (xs ++ bitsV m L) → wpList P ops Q rest (a.put o.dst v') w') : wpList P ops Q (o :: rest) a w := by
  rcases hu.2 with ⟨rfl, rfl⟩ | ⟨b, cap, rfl, _, _, hc⟩
  · refine wpList_app_none T hM hgd s x ho hs hx ?_
    have := h v w (by rw [bitsV_zero, List.append_nil]; exact hM)
    exact this
  · exact wpList_app T hM hgd s x ho hs b 0 L cap (bitsV m L) hx (by rw [bitsV_len, Nat.mul_one]) (cells_bits hc) bits_one h63 h64 (fun v' w' h1 _ => h v' w' h1)

theorem bits_push {r L : Nat} {x : Int} (hx : x = 0 ∨ x = 1) : [Value.int .i64 x] ++ bitsV r L = bitsV (2 * r + x.toNat) (1 + L) := by
  apply List.ext_getElem?
  intro i
  rcases i with _ | i
  · simp only [List.cons_append, List.getElem?_cons_zero]
    rw [bitsV_get (by omega)]
    unfold bit
    congr 2
    rcases hx with rfl | rfl <;> simp <;> omega
  · simp only [List.cons_append, List.nil_append, List.getElem?_cons_succ]
    by_cases h : i < L
    · rw [bitsV_get h, bitsV_get (by omega)]
      have : (2 * r + x.toNat) / 2 ^ (i + 1) = r / 2 ^ i := by
        rw [Nat.pow_succ, Nat.mul_comm (2 ^ i) 2, ← Nat.div_div_eq_div_mul]
        congr 1
        rcases hx with rfl | rfl <;> simp <;> omega
      simp only [bit, this]
    · rw [List.getElem?_eq_none (by rw [bitsV_len]; omega), List.getElem?_eq_none (by rw [bitsV_len]; omega)]
theorem Mine.push {w0 w : World} {v : Value} {r L : Nat} {x : Int} (h : Mine w0 3 1 w v (1 + L) ([.int .i64 x] ++ bitsV r L)) (hx : x = 0 ∨ x = 1) (hr : r < 2 ^ L) : Row w v (2 * r + x.toNat) (1 + L) := by
  rw [bits_push hx] at h
  refine h.row ?_
  rw [Nat.pow_add]
  rcases hx with rfl | rfl <;> simp <;> omega
theorem div_low (a k : Nat) (b : Nat) (hb : 0 < b) : a / 2 ^ k % b = (if b ≤ 2 * (a / 2 ^ (k + 1) % b) + (bit a k).toNat then 2 * (a / 2 ^ (k + 1) % b) + (bit a k).toNat - b else 2 * (a / 2 ^ (k + 1) % b) + (bit a k).toNat) ∧
    a / 2 ^ k / b = 2 * (a / 2 ^ (k + 1) / b) + (if b ≤ 2 * (a / 2 ^ (k + 1) % b) + (bit a k).toNat then 1 else 0) := by
  have h1 := div_step a k
  have hbt : (bit a k).toNat = a / 2 ^ k % 2 := Int.toNat_natCast _
  rw [hbt]
  generalize a / 2 ^ (k + 1) = A at *
  have hx : a / 2 ^ k % 2 ≤ 1 := by omega
  generalize a / 2 ^ k % 2 = x at *
  rw [h1]
  have e := Nat.div_add_mod A b
  have l := Nat.mod_lt A hb
  generalize A / b = Q at *
  generalize A % b = R at *
  split
  · rename_i hge
    have : 2 * A + x = b * (2 * Q + 1) + (2 * R + x - b) := by rw [Nat.mul_add]; have : b * (2 * Q) = 2 * (b * Q) := Nat.mul_left_comm _ _ _; omega
    rw [this, Nat.mul_add_mod, Nat.mod_eq_of_lt (by omega), Nat.mul_add_div hb, Nat.div_eq_of_lt (by omega)]
    exact ⟨rfl, by omega⟩
  · rename_i hge
    have : 2 * A + x = b * (2 * Q) + (2 * R + x) := by have : b * (2 * Q) = 2 * (b * Q) := Nat.mul_left_comm _ _ _; omega
    rw [this, Nat.mul_add_mod, Nat.mod_eq_of_lt (by omega), Nat.mul_add_div hb, Nat.div_eq_of_lt (by omega)]
    exact ⟨rfl, by omega⟩
/-- A quotient's bit is laid. -/
theorem bits_lay {Q L k : Nat} (hk : k < L) : (bitsV (Q * 2 ^ (k + 1)) L).set k (.int .i64 1) = bitsV ((2 * Q + 1) * 2 ^ k) L := by
  apply List.ext_getElem?
  intro i
  by_cases h : i < L
  · rw [List.getElem?_set, bitsV_get h, bitsV_get h, bitsV_len]
    split
    · rename_i he; subst he; rw [bit_shift, if_neg (by omega), Nat.sub_self]; unfold bit; congr 2; rw [Nat.pow_zero, Nat.div_one]; omega
    · rename_i hne
      congr 2
      rw [bit_shift, bit_shift]
      by_cases h2 : i < k
      · rw [if_pos (by omega), if_pos h2]
      · rw [if_neg (by omega), if_neg h2]
        obtain ⟨d, rfl⟩ : ∃ d, i = k + 1 + d := ⟨i - k - 1, by omega⟩
        unfold bit
        rw [show k + 1 + d - (k + 1) = d by omega, show k + 1 + d - k = d + 1 by omega, Nat.pow_succ, Nat.mul_comm (2 ^ d) 2, ← Nat.div_div_eq_div_mul, show (2 * Q + 1) / 2 = Q by omega]
  · rw [List.getElem?_eq_none (by simp [bitsV_len]; omega), List.getElem?_eq_none (by rw [bitsV_len]; omega)]
theorem own_set_row {w : World} {b k : Nat} {xs : List Value} {x : Value} (h : Own w [(b, xs.toArray)]) (hk : k < xs.length) : Own (w.setCell ⟨b, k, none⟩ x) [(b, (xs.set k x).toArray)] :=
  Own.cons (by simpa using h.1.1) (fun i => by rw [set_own h.1.2.1 x (by simpa using hk) i]; simp) (fun i hi => set_frozen (n := xs.length) (fun i hi => h.1.2.2 i (by simpa using hi)) x i (by simpa using hi)) trivial
theorem own_row {w : World} {b n L : Nat} (h : Own w [(b, (bitsV n L).toArray)]) (hn : n < 2 ^ L) : Row w (.slice (some ⟨b, 0, none⟩) L L) n L :=
  ⟨hn, .inr ⟨b, L, rfl, h.1.1, Nat.le_refl _, fun i hi => by rw [h.1.2.1]; simp only [List.getElem?_toArray]; exact bitsV_get hi⟩⟩
theorem Own.set_far {w : World} {b k : Nat} {x : Value} : ∀ {l : List (Nat × Array Value)}, Own w l → (∀ p ∈ l, p.1 ≠ b) → Own (w.setCell ⟨b, k, none⟩ x) l
  | [], _, _ => trivial
  | (g, A) :: l, h, hb => ⟨⟨by simpa using h.1.1, fun i => Go.Proofs.YtkpadahpepeaoaaDoor.set_far h.1.2.1 x (fun e => hb _ (List.mem_cons_self ..) e.symm) i, fun i hi => set_frozen (n := A.size) h.1.2.2 x i hi⟩, h.2.set_far (fun p hp => hb p (List.mem_cons_of_mem _ hp))⟩
theorem Num.set_apart {w : World} {v x : Value} {n b k : Nat} (h : Num w v n) (hb : ∀ g, v.ownBlock = some g → g ≠ b) : Num (w.setCell ⟨b, k, none⟩ x) v n := by
  refine ⟨h.1, ?_⟩
  rcases h.2 with h2 | ⟨g, cap, h2, h3, h4, h5⟩
  · exact .inl h2
  · refine .inr ⟨g, cap, h2, by simpa using h3, h4, fun j hj => ?_⟩
    have : g ≠ b := hb g (by rw [h2]; rfl)
    rw [World.cell?_setCell_other _ _ _ _ (fun e => this (by cases e; rfl))]
    exact h5 j hj
theorem big_end2 {w : World} {k1 k2 n1 n2 : Nat} {v1 v2 y1 y2 : Value} {s1 s2 t1 t2 : Bool} (hO : Own w [(k1, #[.bool t1, y1]), (k2, #[.bool t2, y2])]) (hne : k1 ≠ k2) (h1 : Num w v1 n1) (h2 : Num w v2 n2) :
    ∃ W : World, ((((w.setCell ⟨k1, 0, none⟩ (.bool s1)).setCell ⟨k1, 1, none⟩ v1).setCell ⟨k2, 0, none⟩ (.bool s2)).setCell ⟨k2, 1, none⟩ v2) = W ∧
      W.cell? ⟨k1, 0, none⟩ = some (.bool s1) ∧ W.cell? ⟨k1, 1, none⟩ = some v1 ∧ W.cell? ⟨k2, 0, none⟩ = some (.bool s2) ∧ W.cell? ⟨k2, 1, none⟩ = some v2 ∧ IsBig W (.agg #[.bool s1, v1]) s1 n1 ∧ IsBig W (.agg #[.bool s2, v2]) s2 n2 := by
  obtain ⟨⟨_, c1, _⟩, ⟨_, c2, _⟩, _⟩ := hO
  have e1 := set_own (k := 1) (set_own (k := 0) c1 (.bool s1) (by simp)) v1 (by simp)
  have e2 : ∀ i, (((w.setCell ⟨k1, 0, none⟩ (.bool s1)).setCell ⟨k1, 1, none⟩ v1)).cell? ⟨k2, i, none⟩ = #[.bool t2, y2][i]? := set_far (set_far c2 _ hne) _ hne
  have e3 := set_own (k := 1) (set_own (k := 0) e2 (.bool s2) (by simp)) v2 (by simp)
  have e4 := set_far (k := 1) (set_far (k := 0) e1 (.bool s2) (Ne.symm hne)) v2 (Ne.symm hne)
  exact ⟨_, rfl, by rw [e4]; rfl, by rw [e4]; rfl, by rw [e3]; rfl, by rw [e3]; rfl, ⟨_, rfl, (h1.set2 c1).set2 e2⟩, ⟨_, rfl, (h2.set2 c1).set2 e2⟩⟩

set_option maxHeartbeats 1600000 in
theorem rparts_any (x y : Value) (s t : Bool) (a b : Nat) (w : World) (h : IsBig w x s a) (g : IsBig w y t b) (hL : nlen a ≤ 40000) (hM : nlen b ≤ 40000) (hb : 0 < b) :
    Calls Tryd.prog 54 #[x, y] w fun e w' => ∃ q r, e = .returned (.tuple #[q, r]) ∧ IsBig w' q false (a / b) ∧ IsBig w' r false (a % b) ∧ Later w w' := by
  obtain ⟨p, cp, rfl, hv⟩ := h.open
  obtain ⟨q, cq, rfl, hu⟩ := g.open
  clear h g
  have hla := lt_nlen a
  unfold Num at hv
  obtain ⟨la, hl⟩ : ∃ la, nlen a = la := ⟨_, rfl⟩
  rw [hl] at hv hla hL ⊢
  clear hl
  go_enter Tryd.func54, Tryd.ntmps54
  go_upto_region 1 with fail
  refine wp_opaque (fun w0 hb0 => ?_)
  have hO := Own.four hb0
  have hw0 : Later w w0 := hb0.un1.un1.un1.un1
  replace hv := hv.later hw0
  replace hu := hu.later hw0
  have hs0 := Later.size hw0
  obtain ⟨⟨z0, c0, -⟩, -⟩ := id hO
  go_wp2_with (at_make; go_must (refine wpList_mk slInt (Later.refl _) rfl _ _ rfl la rfl rfl (by omega) (by unfold maxLen; omega) ?_; intro w1 z hz hm hl1; cases zeroInt hz; clear c0; replace hm := Mine.zeros hm; have hO4 := hO.later hm.lat; obtain ⟨⟨z0, c0, -⟩, -⟩ := id hO4))
  have hq := mine_own hm
  rw [← bitsV_nought] at hq
  have hl01 := hm.lat
  have hz4 : w.heap.size + 1 + 1 + 1 < w0.heap.size := hO.2.2.2.1.1
  have hbq := Lib.hid hb
  obtain ⟨bq, hbqe⟩ : ∃ bq, w0.heap.size = bq := ⟨_, rfl⟩
  have hbq0 : w0.heap.size ≤ bq := by omega
  rw [hbqe] at hq ⊢
  replace hz4 : w.heap.size + 1 + 1 + 1 < bq := by omega
  clear c0 z0 hm hl1 hb0 hO hbqe
  go_loopw [7, 8] (fun s7 s8 wr => ∃ k : Nat, k ≤ la ∧ s8 = .int .i64 ((k : Int) - 1) ∧ Num wr s7 (a / 2 ^ k % b) ∧ (∀ g, s7.ownBlock = some g → g ≠ bq) ∧ Own wr [(bq, (bitsV ((a / 2 ^ k / b) * 2 ^ k) la).toArray)] ∧
      Own wr [(w.heap.size, #[.bool s, .slice p la cp]), (w.heap.size + 1, #[.bool t, .slice q (nlen b) cq]), (w.heap.size + 1 + 1, #[.bool false, .slice none 0 0]), (w.heap.size + 1 + 1 + 1, #[.bool false, .slice none 0 0])] ∧ Later w0 wr)
    (fun _ s8 _ => (intOf s8 + 1).toNat)
  case atStart =>
    refine ⟨la, Nat.le_refl _, rfl, ?_, ?_, ?_, hO4, hl01⟩
    · rw [Nat.div_eq_of_lt hla, Nat.zero_mod]; exact Num.nil _
    · intro g hg; simp [Value.ownBlock] at hg
    · rw [Nat.div_eq_of_lt hla, Nat.zero_div, Nat.zero_mul]; exact hq
  case round =>
    obtain ⟨k, hk, rfl, hr, hne, hq2, hO5, hlat⟩ := hrel
    obtain ⟨pr, cr, rfl⟩ := Row.form hr
    replace hv := hv.later hlat
    replace hu := hu.later hlat
    have hlw := hw0.trans hlat
    rcases k with _ | j
    · rw [Nat.pow_zero, Nat.div_one] at hr
      rw [Nat.pow_zero, Nat.div_one, Nat.mul_one] at hq2
      have hqr := own_row hq2 (Nat.lt_of_le_of_lt (Nat.div_le_self a b) hla)
      obtain ⟨-, -, ⟨z2, c2, f2⟩, ⟨z3, c3, f3⟩, -⟩ := id hO5
      rw [show (((0 : Nat) : Int) - 1) = -1 from rfl, Nat.pow_zero, Nat.div_one]
      have HR := Lib.hid hr
      have hne' := Lib.hid hne
      clear hr hq2 hv hu hne hO5 hO4 hq hla
      go_wp2_with (go_at_call 74; go_must (refine (trim_any _ _ _ _ hqr (by omega)).mono ?_; rintro e w3 ⟨u, rfl, hu4, rfl⟩; obtain ⟨pu, cu, rfl⟩ := Row.form hu4))
      obtain ⟨W, hW, e1, e2, e3, e4, hI1, hI2⟩ := big_end2 (s1 := false) (s2 := false) (Own.cons z2 c2 f2 (Own.cons z3 c3 f3 trivial)) (by omega) hu4 HR.out
      have hLW : Later w W := by
        rw [← hW]
        exact (((hlw.putCell (by omega) _).putCell (by omega) _).putCell (by omega) _).putCell (by omega) _
      rw [hW]
      exact bodyPost_ret (v := .tuple #[.agg #[.bool false, .slice pu (nlen (a / b)) cu], .agg #[.bool false, .slice pr (nlen (a % b)) cr]]) (by simp [results, Tryd.results54, go_sem, e1, e2, e3, e4]) rfl ⟨_, _, rfl, hI1, hI2, hLW⟩
    · obtain ⟨ba, capa, hvv, hba, _, hca⟩ := Row.full hv (by omega)
      cases hvv
      have hcell := hca j (by omega)
      obtain ⟨⟨z0, c0, -⟩, -⟩ := id hO5
      obtain ⟨hdl1, hdl2⟩ := div_low a j b hb
      have hbt := bit_cases a j
      have HD := Lib.hid (And.intro hdl1 hdl2)
      have hmod := Nat.mod_lt (a / 2 ^ (j + 1)) hb
      clear hdl1 hdl2 hca
      rw [show (((j + 1 : Nat) : Int) - 1) = (j : Int) by omega]
      obtain ⟨bt, hbte⟩ : ∃ bt, bit a j = bt := ⟨_, rfl⟩
      obtain ⟨R, hRe⟩ : ∃ R, a / 2 ^ (j + 1) % b = R := ⟨_, rfl⟩
      rw [hbte, hRe] at HD
      rw [hbte] at hcell hbt
      rw [hRe] at hr hmod ⊢
      have hR40 : nlen R ≤ 40000 := Nat.le_trans (nlen_mono (Nat.le_of_lt hmod)) hM
      have hnb : nlen (2 * R + bt.toNat) ≤ 1 + nlen R := nlen_le (by have := lt_nlen R; rw [Nat.pow_add]; rcases hbt with rfl | rfl <;> simp <;> omega)
      have HB := Lib.hid hbt
      clear hbte hRe hbt
      by_cases hge : b ≤ 2 * R + bt.toNat
      · have hcm := cmpN_ge hge
        obtain ⟨cm, hcm2⟩ : ∃ cm, cmpN (2 * R + bt.toNat) b = cm := ⟨_, rfl⟩
        rw [hcm2] at hcm
        have HC := Lib.hid hcm2
        have HGE := Lib.hid hge
        clear hcm2 hge hmod
        have hr2 := hr
        go_wp2_with (first
          | (at_builtin; go_must (refine wpList_app_row slInt (mine_lit (w := wr) (x := .int .i64 bt) (e := 3)) rfl _ _ rfl rfl rfl (hr.later ((Later.refl _).alloc _)) (by omega) (by unfold maxLen; omega) ?_; intro v2 w2 hm2; have hb2 := hm2.lat; have hrow := hm2.push HB.out (lt_nlen R); have how := Lib.hid hm2.1.lt; clear hm2 c0 z0 hcell))
          | (go_at_call 74; go_must (refine (trim_own _ _ _ _ hrow (by omega)).mono ?_; rintro e w3 ⟨u, rfl, hu4, rfl, hob⟩; obtain ⟨pu, cu, rfl⟩ := Row.form hu4; have hu5 := hu.later hb2; clear hrow; obtain ⟨-, ⟨z1, c1, -⟩, -⟩ := hO5.later hb2; have HOB := Lib.hid hob; clear hob))
          | (go_at_call 75; go_must (refine (order_any _ _ _ _ _ hu4 hu5 (by omega) (by omega)).mono ?_; rintro e w4 ⟨rfl, hb4⟩; rw [HC.out]; clear c1 z1; obtain ⟨-, ⟨z1, c1, -⟩, -⟩ := hO5.later (hb2.trans hb4)))
          | (go_at_call 76; go_must (refine (minus_own _ _ _ _ _ _ _ (hu4.later hb4) (hu5.later hb4) (by omega) (by omega) HGE.out).mono ?_; rintro e w5 ⟨u, rfl, hu6, hb5, hob⟩; obtain ⟨pu, cu, rfl⟩ := Row.form hu6; clear c1 z1; have hb6 := (hb2.trans hb4).trans hb5; obtain ⟨⟨z6, c6, f6⟩, -⟩ := hq2.later hb6; have c6' := (c6 j).trans (by simp only [List.getElem?_toArray]; exact bitsV_get (by omega)); have f6' := f6 j (by rw [List.size_toArray, bitsV_len]; omega); have HOB := Lib.hid hob; clear hob c6 f6)))
        have hbw := hq2.1.1
        have hsz4 := Later.size (hb2.trans hb4)
        go_roundw
        case rel =>
          refine ⟨j, by omega, rfl, ?_, ?_, ?_, ?_, ?_⟩
          · rw [HD.out.1, if_pos HGE.out]
            exact hu6.set_apart (fun g hg => by have := HOB.out g hg; omega)
          · exact fun g hg => by have := HOB.out g hg; omega
          · rw [HD.out.2, if_pos HGE.out, ← bits_lay (by omega)]
            exact own_set_row (hq2.later hb6) (by rw [bitsV_len]; omega)
          · exact (hO5.later hb6).set_far (fun p hp => by simp only [List.mem_cons, List.not_mem_nil, or_false] at hp; rcases hp with rfl | rfl | rfl | rfl <;> simp <;> omega)
          · exact (hlat.trans hb6).setCell hbq0 _
        case measure => simp [intOf]
      · have hlt : 2 * R + bt.toNat < b := by omega
        have hcm := cmpN_lt hlt
        have HC := Lib.hid hcm
        have HGE := Lib.hid hge
        clear hcm hge hmod hlt
        go_wp2_with (first
          | (at_builtin; go_must (refine wpList_app_row slInt (mine_lit (w := wr) (x := .int .i64 bt) (e := 3)) rfl _ _ rfl rfl rfl (hr.later ((Later.refl _).alloc _)) (by omega) (by unfold maxLen; omega) ?_; intro v2 w2 hm2; have hb2 := hm2.lat; have hrow := hm2.push HB.out (lt_nlen R); have how := Lib.hid hm2.1.lt; clear hm2 c0 z0 hcell))
          | (go_at_call 74; go_must (refine (trim_own _ _ _ _ hrow (by omega)).mono ?_; rintro e w3 ⟨u, rfl, hu4, rfl, hob⟩; obtain ⟨pu, cu, rfl⟩ := Row.form hu4; have hu5 := hu.later hb2; clear hrow; obtain ⟨-, ⟨z1, c1, -⟩, -⟩ := hO5.later hb2; have HOB := Lib.hid hob; clear hob))
          | (go_at_call 75; go_must (refine (order_any _ _ _ _ _ hu4 hu5 (by omega) (by omega)).mono ?_; rintro e w4 ⟨rfl, hb4⟩; rw [HC.out]; clear c1 z1)))
        have hbw := hq2.1.1
        have hb6 := hb2.trans hb4
        go_roundw
        case rel =>
          refine ⟨j, by omega, rfl, ?_, ?_, ?_, ?_, ?_⟩
          · rw [HD.out.1, if_neg HGE.out]
            exact hu4.later hb4
          · intro g hg
            rw [HOB.out] at hg
            have := how.out g hg
            omega
          · rw [HD.out.2, if_neg HGE.out, show (2 * (a / 2 ^ (j + 1) / b) + 0) * 2 ^ j = a / 2 ^ (j + 1) / b * 2 ^ (j + 1) by rw [Nat.pow_succ, Nat.add_zero, Nat.mul_comm 2, Nat.mul_assoc, Nat.mul_comm 2]]
            exact hq2.later hb6
          · exact hO5.later hb6
          · exact hlat.trans hb6
        case measure => simp [intOf]
end Go.Proofs.YtkpadahpepeaoaaDoor

/- walks: chattelref01: Near -/
namespace Go.Proofs.YtkpadahpepeaoaaDoor
open Go.RowKit
set_option maxRecDepth 100000

/-- The nearest whole number of a through b, an even one of two. -/
def nearN (a b : Nat) : Nat := if b < 2 * (a % b) ∨ (2 * (a % b) = b ∧ a / b % 2 = 1) then a / b + 1 else a / b
theorem cmpN_self (n : Nat) : cmpN n n = 0 := by simp [cmpN]
theorem cmpN_gt {n m : Nat} (h : m < n) : cmpN n m = 1 := by unfold cmpN; rw [if_neg (by omega), if_neg (by omega)]
theorem own_split {w : World} {p q : Nat × Array Value} {l : List (Nat × Array Value)} (h : Own w (p :: q :: l)) : Own w [p] ∧ Own w (q :: l) := by
  obtain ⟨b, A⟩ := p
  exact ⟨⟨h.1, trivial⟩, h.2⟩
theorem rof_one (w : World) : Calls Tryd.prog 48 #[.int .i64 1] w fun e w' => ∃ r, e = .returned r ∧ IsZ w' r 1 ∧ Later w w' := rof_any 1 w (by omega) (by omega)

theorem isZ_nat {w : World} {x : Value} {n : Nat} (h : IsBig w x false n) : IsZ w x (n : Int) := by
  unfold IsZ
  rw [show decide ((n : Int) < 0) = false by simp, Int.natAbs_natCast]; exact h
theorem isBig_nat {w : World} {x : Value} {n : Nat} (h : IsZ w x (n : Int)) : IsBig w x false n := by
  unfold IsZ at h
  rw [show decide ((n : Int) < 0) = false by simp, Int.natAbs_natCast] at h; exact h
theorem at_zero (v : Value) (n L : Nat) (w : World) (h : Row w v n L) (hL : L ≤ 100000) :
    Calls Tryd.prog 88 #[v, .int .i64 0] w fun e w' => e = .returned (.int .i64 (bit n 0)) ∧ w = w' := at_any v n L 0 w h hL (by omega)

end Go.Proofs.YtkpadahpepeaoaaDoor

/- walks: chattelref01: Int -/
namespace Go.Proofs.YtkpadahpepeaoaaDoor
open Go.RowKit
set_option maxRecDepth 100000

/-- A number of a sign and a size fits. -/
def fitsB (s : Bool) (n : Nat) : Bool := decide (n ≤ 9223372036854775807) || (s && decide (n = 9223372036854775808))
def intV (s : Bool) (n : Nat) : Int := if fitsB s n then (if s then -(n : Int) else n) else 0
theorem not_fits {s : Bool} {n : Nat} (h : fitsB s n = false) : intV s n = 0 := by simp [intV, h]
theorem fits_le {s : Bool} {n : Nat} (h : fitsB s n = true) : n ≤ 9223372036854775808 := by
  simp [fitsB] at h; omega
theorem fits_pos {n : Nat} (h : fitsB false n = true) : n ≤ 9223372036854775807 := by
  simp [fitsB] at h; omega
theorem neg_step (n k : Nat) : 2 * (-((n / 2 ^ (k + 1) : Nat) : Int)) - bit n k = -((n / 2 ^ k : Nat) : Int) := by
  have := div_step n k
  unfold bit; omega
theorem mod_bit0 {n k : Nat} (h : n % 2 ^ k = 0) (hb : bit n k = 0) : n % 2 ^ (k + 1) = 0 := by
  rw [mod_step, h]; unfold bit at hb; rw [show n / 2 ^ k % 2 = 0 by omega]; simp
theorem mod_bit1 {n k L : Nat} (hk : k < L) (hb : bit n k ≠ 0) : n % 2 ^ L ≠ 0 := by
  intro h
  obtain ⟨c, hc⟩ := Nat.dvd_of_mod_eq_zero h
  apply hb
  rw [hc, Nat.mul_comm, bit_shift, if_pos hk]
theorem fit_full {n : Nat} (h : nlen n = 64) (hm : n % 2 ^ 63 = 0) : n = 9223372036854775808 := by
  have h1 := lt_nlen n
  have h2 : 2 ^ (nlen n - 1) ≤ n := nlen_low (nlen_pos.1 (by omega))
  rw [h] at h1 h2
  omega
theorem unfit_full {s : Bool} {n : Nat} (h : nlen n = 64) (hm : n % 2 ^ 63 ≠ 0) : fitsB s n = false := by
  have h2 : 2 ^ (nlen n - 1) ≤ n := nlen_low (nlen_pos.1 (by omega))
  rw [h] at h2
  simp [fitsB]
  refine ⟨by omega, fun _ h => ?_⟩
  subst h; exact hm (by decide)
theorem unfit_long {s : Bool} {n : Nat} (h : 64 < nlen n) : fitsB s n = false := by
  have h2 : 2 ^ (nlen n - 1) ≤ n := nlen_low (nlen_pos.1 (by omega))
  have h3 : 2 ^ 64 ≤ 2 ^ (nlen n - 1) := Nat.pow_le_pow_right (by omega) (by omega)
  simp [fitsB]
  omega
theorem fit_short {s : Bool} {n : Nat} (h : nlen n < 64) : fitsB s n = true := by
  have h1 := lt_nlen n
  have h3 : 2 ^ nlen n ≤ 2 ^ 63 := Nat.pow_le_pow_right (by omega) (by omega)
  simp [fitsB]; omega

theorem ret_ib {a b : Int} {c d : Bool} (h1 : a = b) (h2 : c = d) : Ending.returned (.tuple #[.int .i64 a, .bool c]) = .returned (.tuple #[.int .i64 b, .bool d]) := by rw [h1, h2]

set_option maxHeartbeats 1600000 in
theorem rint_any (x : Value) (s : Bool) (n : Nat) (w : World) (h : IsBig w x s n) (hL : nlen n ≤ 40000) :
    Calls Tryd.prog 55 #[x] w fun e w' => e = .returned (.tuple #[.int .i64 (intV s n), .bool (fitsB s n)]) ∧ Later w w' := by
  obtain ⟨p, cp, rfl, hv⟩ := h.open
  unfold Num at hv
  clear h
  obtain ⟨L, hLn⟩ : ∃ L, nlen n = L := ⟨_, rfl⟩
  rw [hLn] at hv hL ⊢
  have HLN := Lib.hid hLn
  clear hLn
  go_enter Tryd.func55, Tryd.ntmps55
  go_upto_region 1 with fail
  refine wp_opaque (fun w0 hb0 => ?_)
  have hO := Own.one hb0
  have hw0 : Later w w0 := hb0.un1
  replace hv := hv.later hw0
  obtain ⟨z0, c0, -⟩ := own_get hO
  clear hb0
  by_cases hlong : 64 < L
  · have hf := unfit_long (s := s) (n := n) (by rw [HLN.out]; exact hlong)
    have hi := not_fits hf
    have HF := Lib.hid (And.intro hf hi)
    clear hf hi hv hO
    go_wp2
    go_ret2
    exact ⟨ret_ib HF.out.2.symm HF.out.1.symm, hw0⟩
  go_upto_if 14 with fail
  go_cut [4] (fun s4 wx => fitsB s n = true ∧ wx = w0)
  case first =>
    by_cases hl : L = 64
    · subst hl
      obtain ⟨ba, capa, hvv, hba, _, hca⟩ := Row.full hv (by omega)
      cases hvv
      have HCA := Lib.hid hca
      clear hca hv
      go_wp2
      go_loop [4] (fun s4 => ∃ k : Nat, k ≤ 63 ∧ s4 = .int .i64 k ∧ n % 2 ^ k = 0) (fun s4 => 63 - (intOf s4).toNat)
      case atStart => exact ⟨0, by omega, rfl, Nat.mod_one n⟩
      case round =>
        obtain ⟨k, hk, rfl, hm⟩ := hrel
        have HM := Lib.hid hm
        clear hm
        by_cases hk63 : k < 63
        · have hcell := HCA.out k (by omega)
          by_cases hb0 : bit n k = 0
          · have HN := Lib.hid (mod_bit0 HM.out hb0)
            rw [hb0] at hcell
            clear hb0
            go_wp2
            go_round
            case rel => exact ⟨k + 1, by omega, by go_num, HN.out⟩
            case measure => simp [intOf]; omega
          · have hb1 : bit n k = 1 := (bit_cases n k).resolve_left hb0
            have hf := unfit_full (s := s) HLN.out (mod_bit1 hk63 hb0)
            have hi := not_fits hf
            have HF := Lib.hid (And.intro hf hi)
            rw [hb1] at hcell
            clear hf hi hb0 hb1
            go_wp2
            go_ret2
            exact ⟨ret_ib HF.out.2.symm HF.out.1.symm, hw0⟩
        · obtain rfl : k = 63 := by omega
          have hfull := fit_full HLN.out HM.out
          cases s
          · have hf : fitsB false n = false := by rw [hfull]; rfl
            have hi := not_fits hf
            have HF := Lib.hid (And.intro hf hi)
            clear hf hi hfull
            go_wp2
            go_ret2
            exact ⟨ret_ib HF.out.2.symm HF.out.1.symm, hw0⟩
          · have hf : fitsB true n = true := by rw [hfull]; rfl
            have HF := Lib.hid hf
            clear hf hfull
            go_wp2
            go_meet
            first | exact ⟨HF.out, rfl⟩ | exact ⟨HF.out, trivial⟩ | exact HF.out
    · have hf := fit_short (s := s) (n := n) (by rw [HLN.out]; omega)
      have HF := Lib.hid hf
      clear hf hv hO
      go_wp2
      go_meet
      exact ⟨HF.out, rfl⟩
  case rest =>
    obtain ⟨hf, rfl⟩ := hcut
    have hle := fits_le hf
    have HF := Lib.hid (And.intro hf (show intV s n = if s then -(n : Int) else n by unfold intV; rw [hf]; rfl))
    have hlt := hv.1
    clear hlong hf
    go_wp2
    go_loop [5, 6] (fun s5 s6 => ∃ k : Nat, k ≤ L ∧ s6 = .int .i64 ((k : Int) - 1) ∧ s5 = .int .i64 (-((n / 2 ^ k : Nat) : Int))) (fun _ s6 => (intOf s6 + 1).toNat)
    case atStart => exact ⟨L, Nat.le_refl _, rfl, by rw [Nat.div_eq_of_lt hlt]; rfl⟩
    case round =>
      obtain ⟨k, hk, rfl, rfl⟩ := hrel
      rcases k with _ | j
      · rw [Nat.pow_zero, Nat.div_one]
        rw [show (((0 : Nat) : Int) - 1) = -1 from rfl]
        clear hlt hv
        cases s
        · have hp := fits_pos HF.out.1
          go_wp2
          go_ret2
          exact ⟨ret_ib (by rw [HF.out.2]; simp) HF.out.1.symm, hw0⟩
        · go_wp2
          go_ret2
          exact ⟨ret_ib HF.out.2.symm HF.out.1.symm, hw0⟩
      · obtain ⟨ba, capa, hvv, hba, _, hca⟩ := Row.full hv (by omega)
        cases hvv
        have hcell := hca j (by omega)
        have hst := neg_step n j
        have hbt := bit_cases n j
        have hq1 : n / 2 ^ j ≤ n := Nat.div_le_self _ _
        have hq2 : n / 2 ^ (j + 1) ≤ n := Nat.div_le_self _ _
        have hq3 := div_step n j
        rw [show (((j + 1 : Nat) : Int) - 1) = (j : Int) by omega]
        clear hca hlt hv
        obtain ⟨bt, hbte⟩ : ∃ bt, bit n j = bt := ⟨_, rfl⟩
        obtain ⟨q, hq⟩ : ∃ q, n / 2 ^ (j + 1) = q := ⟨_, rfl⟩
        obtain ⟨q', hq'⟩ : ∃ q', n / 2 ^ j = q' := ⟨_, rfl⟩
        rw [hbte] at hst hbt hcell
        rw [hq] at hst hq2 hq3 ⊢
        rw [hq'] at hst hq1 hq3
        have HS := Lib.hid hst
        have HQ := Lib.hid hq'
        have hb0 : 0 ≤ bt := by omega
        have hb1 : bt ≤ 1 := by omega
        have hq4 : 2 * q ≤ n := by omega
        have hq5 : -9223372036854775808 ≤ 2 * -(q : Int) - bt := by omega
        clear hbte hq hq' hst hbt hq3
        go_wp2
        go_round
        case rel => exact ⟨j, by omega, rfl, by rw [HQ.out, ← HS.out]⟩
        case measure => simp [intOf]
end Go.Proofs.YtkpadahpepeaoaaDoor

/- walks: chattelref02: Of, Neg, Mul, Add, Turn, Order -/
namespace Go.Proofs.YtkpadahpepeaoaaDoor
open Go.RowKit
set_option maxRecDepth 100000

/-- A number through another one. -/
def IsQ (w : World) (x : Value) (n d : Int) : Prop := ∃ u v, x = .agg #[.bool (decide (n < 0)), u, .bool (decide (d < 0)), v] ∧ Num w u n.natAbs ∧ Num w v d.natAbs
theorem IsQ.later {w w' : World} {x : Value} {n d : Int} (h : IsQ w x n d) (hb : Later w w') : IsQ w' x n d := by
  obtain ⟨a, b, h1, h2, h3⟩ := h; exact ⟨a, b, h1, h2.later hb, h3.later hb⟩
theorem IsQ.open {w : World} {x : Value} {n d : Int} (h : IsQ w x n d) : ∃ p c q e, x = .agg #[.bool (decide (n < 0)), .slice p (nlen n.natAbs) c, .bool (decide (d < 0)), .slice q (nlen d.natAbs) e] ∧
    IsZ w (.agg #[.bool (decide (n < 0)), .slice p (nlen n.natAbs) c]) n ∧ IsZ w (.agg #[.bool (decide (d < 0)), .slice q (nlen d.natAbs) e]) d := by
  obtain ⟨a, b, rfl, h2, h3⟩ := h
  obtain ⟨p, c, rfl⟩ := Row.form h2
  obtain ⟨q, e, rfl⟩ := Row.form h3
  exact ⟨p, c, q, e, rfl, ⟨_, rfl, h2⟩, ⟨_, rfl, h3⟩⟩
theorem IsZ.num {w : World} {s : Bool} {v : Value} {z : Int} (h : IsZ w (.agg #[.bool s, v]) z) : Num w v z.natAbs := by
  obtain ⟨u, h1, h2⟩ := h
  cases h1; exact h2
theorem q_end {w : World} {k n1 n2 : Nat} {v1 v2 y1 y2 : Value} {s1 s2 t1 t2 : Bool} (hc : ∀ i, w.cell? ⟨k, i, none⟩ = #[.bool t1, y1, .bool t2, y2][i]?) (h1 : Num w v1 n1) (h2 : Num w v2 n2) :
    ∃ W : World, ((((w.setCell ⟨k, 0, none⟩ (.bool s1)).setCell ⟨k, 1, none⟩ v1).setCell ⟨k, 2, none⟩ (.bool s2)).setCell ⟨k, 3, none⟩ v2) = W ∧
      W.cell? ⟨k, 0, none⟩ = some (.bool s1) ∧ W.cell? ⟨k, 1, none⟩ = some v1 ∧ W.cell? ⟨k, 2, none⟩ = some (.bool s2) ∧ W.cell? ⟨k, 3, none⟩ = some v2 ∧ Num W v1 n1 ∧ Num W v2 n2 := by
  have e1 := set_own (k := 0) hc (.bool s1) (by simp)
  have e2 := set_own (k := 1) e1 v1 (by simp)
  have e3 := set_own (k := 2) e2 (.bool s2) (by simp)
  have e4 := set_own (k := 3) e3 v2 (by simp)
  have hn : ∀ {v : Value} {n : Nat}, Num w v n → Num ((((w.setCell ⟨k, 0, none⟩ (.bool s1)).setCell ⟨k, 1, none⟩ v1).setCell ⟨k, 2, none⟩ (.bool s2)).setCell ⟨k, 3, none⟩ v2) v n := fun h =>
    ((((h : Row _ _ _ _).set (t := t1) (by rw [hc]; rfl)).set (t := s1) (by rw [e1]; rfl)).set (t := s1) (by rw [e2]; rfl)).set (t := s1) (by rw [e3]; rfl)
  exact ⟨_, rfl, by rw [e4]; rfl, by rw [e4]; rfl, by rw [e4]; rfl, by rw [e4]; rfl, hn h1, hn h2⟩
theorem isQ_mk {w : World} {n d : Int} {v1 v2 : Value} (h1 : Num w v1 n.natAbs) (h2 : Num w v2 d.natAbs) : IsQ w (.agg #[.bool (decide (n < 0)), v1, .bool (decide (d < 0)), v2]) n d :=
  ⟨_, _, rfl, h1, h2⟩
theorem put4 {w w1 : World} {k : Nat} {a b c d : Value} (h : Later w w1) (hk : w.heap.size ≤ k) : Later w ((((w1.setCell ⟨k, 0, none⟩ a).setCell ⟨k, 1, none⟩ b).setCell ⟨k, 2, none⟩ c).setCell ⟨k, 3, none⟩ d) :=
  (((h.putCell hk _).putCell hk _).putCell hk _).putCell hk _

set_option maxHeartbeats 800000 in
theorem qof_any (n d : Int) (w : World) (hn1 : -9223372036854775808 ≤ n) (hn2 : n ≤ 9223372036854775807) (hd1 : -9223372036854775808 ≤ d) (hd2 : d ≤ 9223372036854775807) :
    Calls Tryd.prog 31 #[.agg #[.int .i64 n, .int .i64 d]] w fun e w' => ∃ r, e = .returned r ∧ IsQ w' r n d ∧ Later w w' := by
  go_enter Tryd.func31, Tryd.ntmps31
  go_upto_region 1 with fail
  refine wp_opaque (fun w0 hb0 => ?_)
  have hO := Own.two hb0
  have hw0 : Later w w0 := hb0.un1.un1
  obtain ⟨⟨z1, c1, -⟩, ⟨z2, c2, f2⟩, -⟩ := id hO
  refine wp_region_plan 7 (.one [0, 1, 3, 4] 2 (.one [] 5 (.one [6] 7 (.done [])))) (by kernel_rfl) (by kernel_rfl) (fun _ _ d _ _ h => by cases d <;> exact h) ?_
  repeat' (first
    | (refine plan_done (fun K hK => ?_); (first | (simp only [pick_cons, pick_nil, toList_some_append, List.getElem?_toArray, List.getElem?_cons_zero, List.getElem?_cons_succ]; repeat (go_big_quiet_step (fail))) | simp only [pick_nil]); refine wpQuiet_nil (hK _ ?_); clear hK K)
    | (refine plan_one (by rfl) (fun K hK => ?_); (first | (simp only [pick_cons, pick_nil, toList_some_append, List.getElem?_toArray, List.getElem?_cons_zero, List.getElem?_cons_succ]; repeat (go_big_quiet_step (fail))) | simp only [pick_nil]); refine wpQuiet_nil (hK _ ?_); clear hK K)
    | ((with_reducible refine at_list ?_); go_wp2_with (first | (go_at_call_of 48 (Value.int IntKind.i64 n); go_must (refine (rof_any n _ hn1 hn2).mono ?_; rintro e w1 ⟨r1, rfl, hr1, hb1⟩; replace hb1 := Later.undrew hb1; obtain ⟨p1, k1, er1, hr2⟩ := hr1.open; subst er1; clear c1 z1 c2 z2 f2; obtain ⟨⟨z1, c1, -⟩, ⟨z2, c2, f2⟩, -⟩ := hO.later hb1)) | (go_at_call_of 48 (Value.int IntKind.i64 d); go_must (refine (rof_any d _ hd1 hd2).mono ?_; rintro e w2 ⟨r3, rfl, hr3, hb2⟩; obtain ⟨p2, k2, er3, hr4⟩ := hr3.open; subst er3; clear c1 z1 c2 z2 f2; obtain ⟨⟨z1, c1, -⟩, ⟨z2, c2, f2⟩, -⟩ := hO.later (hb1.trans hb2)))); first | refine behind_store (t := 7) (by decide) ?_ | refine behind (by repeat (first | with_reducible exact Later.refl _ | with_reducible assumption | with_reducible refine Later.ofdrew ?_ | with_reducible refine Later.ofdrewN ?_ | with_reducible refine Later.alloc ?_ _ | with_reducible refine Later.drewN ?_ _ | with_reducible refine Later.drew ?_ | (with_reducible refine Later.trans ?_ (by assumption)))) ?_))
  go_wp2
  obtain ⟨W, hW, e0, e1, e2, e3, hm1, hm2⟩ := q_end (s1 := decide (n < 0)) (s2 := decide (d < 0)) c2 (hr2.later hb2) hr4
  have hLW := put4 (k := w.heap.size + 1) (a := .bool (decide (n < 0))) (b := .slice p1 (nlen n.natAbs) k1) (c := .bool (decide (d < 0))) (d := .slice p2 (nlen d.natAbs) k2) ((hw0.trans hb1).trans hb2) (by omega)
  rw [hW] at hLW ⊢
  exact bodyPost_ret (v := .agg #[.bool (decide (n < 0)), .slice p1 (nlen n.natAbs) k1, .bool (decide (d < 0)), .slice p2 (nlen d.natAbs) k2]) (by simp [results, Tryd.results31, go_sem, e0, e1, e2, e3]) rfl ⟨_, rfl, isQ_mk hm1 hm2, hLW⟩

set_option maxHeartbeats 800000 in
theorem qneg_any (x : Value) (n d : Int) (w : World) (h : IsQ w x n d) (hL : nlen n.natAbs ≤ 30000) :
    Calls Tryd.prog 34 #[x] w fun e w' => ∃ r, e = .returned r ∧ IsQ w' r (-n) d ∧ Later w w' := by
  obtain ⟨p, c, q, e, rfl, hz1, hz2⟩ := h.open
  clear h
  obtain ⟨m, hm⟩ : ∃ m, -n = m := ⟨_, rfl⟩
  rw [hm]
  have HM := Lib.hid hm
  clear hm
  go_enter Tryd.func34, Tryd.ntmps34
  go_upto_region 1 with fail
  refine wp_opaque (fun w0 hb0 => ?_)
  have hO := Own.two hb0
  have hw0 : Later w w0 := hb0.un1.un1
  obtain ⟨⟨z1, c1, -⟩, ⟨z2, c2, f2⟩, -⟩ := id hO
  replace hz1 := hz1.later hw0
  replace hz2 := hz2.later hw0
  refine wp_region_plan 6 (.one [0, 1, 3, 4] 2 (.one [5] 6 (.done []))) (by kernel_rfl) (by kernel_rfl) (fun _ _ d _ _ h => by cases d <;> exact h) ?_
  repeat' (first
    | (refine plan_done (fun K hK => ?_); (first | (simp only [pick_cons, pick_nil, toList_some_append, List.getElem?_toArray, List.getElem?_cons_zero, List.getElem?_cons_succ]; repeat (go_big_quiet_step (fail))) | simp only [pick_nil]); refine wpQuiet_nil (hK _ ?_); clear hK K)
    | (refine plan_one (by rfl) (fun K hK => ?_); (first | (simp only [pick_cons, pick_nil, toList_some_append, List.getElem?_toArray, List.getElem?_cons_zero, List.getElem?_cons_succ]; repeat (go_big_quiet_step (fail))) | simp only [pick_nil]); refine wpQuiet_nil (hK _ ?_); clear hK K)
    | ((with_reducible refine at_list ?_); go_wp2_with ((go_at_call 52; go_must (refine (rneg_z _ n _ (hz1.later (by repeat (first | with_reducible exact Later.refl _ | with_reducible assumption | with_reducible refine Later.ofdrew ?_ | with_reducible refine Later.ofdrewN ?_ | with_reducible refine Later.setCell ?_ ?_ _ | with_reducible refine Later.alloc ?_ _ | with_reducible refine Later.drewN ?_ _ | with_reducible refine Later.drew ?_ | (with_reducible refine Later.trans ?_ (by assumption)) | (simp only [World.size_setCell, World.size_alloc, World.heap_drewN]; omega) | (simp; done) | (simp; omega)))) (by omega)).mono ?_; rintro e w1 ⟨r1, rfl, hr1, hb1⟩; rw [HM.out] at hr1; replace hb1 := Later.undrew hb1; obtain ⟨p1, k1, er1, hr2⟩ := hr1.open; subst er1; clear c1 z1 c2 z2 f2; obtain ⟨⟨z1, c1, -⟩, ⟨z2, c2, f2⟩, -⟩ := hO.later hb1))); first | refine behind_store (t := 6) (by decide) ?_ | refine behind (by repeat (first | with_reducible exact Later.refl _ | with_reducible assumption | with_reducible refine Later.ofdrew ?_ | with_reducible refine Later.ofdrewN ?_ | with_reducible refine Later.alloc ?_ _ | with_reducible refine Later.drewN ?_ _ | with_reducible refine Later.drew ?_ | (with_reducible refine Later.trans ?_ (by assumption)))) ?_))
  go_wp2
  have hn2 := (hz2.later hb1).num
  obtain ⟨W, hW, e0, e1, e2, e3, hm1, hm2⟩ := q_end (s1 := decide (m < 0)) (s2 := decide (d < 0)) c2 hr2 hn2
  have hLW := put4 (k := w.heap.size + 1) (a := .bool (decide (m < 0))) (b := .slice p1 (nlen m.natAbs) k1) (c := .bool (decide (d < 0))) (d := .slice q (nlen d.natAbs) e) (hw0.trans hb1) (by omega)
  rw [hW] at hLW ⊢
  exact bodyPost_ret (v := .agg #[.bool (decide (m < 0)), .slice p1 (nlen m.natAbs) k1, .bool (decide (d < 0)), .slice q (nlen d.natAbs) e]) (by simp [results, Tryd.results34, go_sem, e0, e1, e2, e3]) rfl ⟨_, rfl, isQ_mk hm1 hm2, hLW⟩

theorem nlen_imul (a b : Int) : nlen (a * b).natAbs ≤ nlen a.natAbs + nlen b.natAbs := by rw [Int.natAbs_mul]; exact nlen_mul _ _

set_option maxHeartbeats 1600000 in
theorem qmul_any (x y : Value) (n1 d1 n2 d2 : Int) (w : World) (h : IsQ w x n1 d1) (g : IsQ w y n2 d2) (b1 : nlen n1.natAbs ≤ 20000) (b2 : nlen d1.natAbs ≤ 20000) (b3 : nlen n2.natAbs ≤ 20000) (b4 : nlen d2.natAbs ≤ 20000) :
    Calls Tryd.prog 35 #[x, y] w fun e w' => ∃ r, e = .returned r ∧ IsQ w' r (n1 * n2) (d1 * d2) ∧ Later w w' := by
  obtain ⟨p, c, q, e, rfl, hz1, hz2⟩ := h.open
  obtain ⟨p', c', q', e', rfl, hz3, hz4⟩ := g.open
  clear h g
  obtain ⟨m, hm⟩ : ∃ m, n1 * n2 = m := ⟨_, rfl⟩
  obtain ⟨k, hk⟩ : ∃ k, d1 * d2 = k := ⟨_, rfl⟩
  rw [hm, hk]
  have HM := Lib.hid hm
  have HK := Lib.hid hk
  clear hm hk
  go_enter Tryd.func35, Tryd.ntmps35
  go_upto_region 1 with fail
  refine wp_opaque (fun w0 hb0 => ?_)
  have hO := Own.three hb0
  have hw0 : Later w w0 := hb0.un1.un1.un1
  obtain ⟨⟨z1, c1, -⟩, ⟨z2, c2, -⟩, ⟨z3, c3, f3⟩, -⟩ := id hO
  replace hz1 := hz1.later hw0
  replace hz2 := hz2.later hw0
  replace hz3 := hz3.later hw0
  replace hz4 := hz4.later hw0
  have tok1 : True := trivial
  refine wp_region_plan 11 (.one [0, 1, 2, 3, 5, 6, 7, 8] 4 (.one [] 9 (.one [10] 11 (.done [])))) (by kernel_rfl) (by kernel_rfl) (fun _ _ d _ _ h => by cases d <;> exact h) ?_
  repeat' (first
    | (refine plan_done (fun K hK => ?_); (first | (simp only [pick_cons, pick_nil, toList_some_append, List.getElem?_toArray, List.getElem?_cons_zero, List.getElem?_cons_succ]; repeat (go_big_quiet_step (fail))) | simp only [pick_nil]); refine wpQuiet_nil (hK _ ?_); clear hK K)
    | (refine plan_one (by rfl) (fun K hK => ?_); (first | (simp only [pick_cons, pick_nil, toList_some_append, List.getElem?_toArray, List.getElem?_cons_zero, List.getElem?_cons_succ]; repeat (go_big_quiet_step (fail))) | simp only [pick_nil]); refine wpQuiet_nil (hK _ ?_); clear hK K)
    | ((with_reducible refine at_list ?_); go_wp2_with (first | (go_at_call 50; clear tok1; go_must (refine (rmul_any _ _ n1 n2 _ (hz1.later (by repeat (first | with_reducible exact Later.refl _ | with_reducible assumption | with_reducible refine Later.ofdrew ?_ | with_reducible refine Later.ofdrewN ?_ | with_reducible refine Later.setCell ?_ ?_ _ | with_reducible refine Later.alloc ?_ _ | with_reducible refine Later.drewN ?_ _ | with_reducible refine Later.drew ?_ | (with_reducible refine Later.trans ?_ (by assumption)) | (simp only [World.size_setCell, World.size_alloc, World.heap_drewN]; omega) | (simp; done) | (simp; omega)))) (hz3.later (by repeat (first | with_reducible exact Later.refl _ | with_reducible assumption | with_reducible refine Later.ofdrew ?_ | with_reducible refine Later.ofdrewN ?_ | with_reducible refine Later.setCell ?_ ?_ _ | with_reducible refine Later.alloc ?_ _ | with_reducible refine Later.drewN ?_ _ | with_reducible refine Later.drew ?_ | (with_reducible refine Later.trans ?_ (by assumption)) | (simp only [World.size_setCell, World.size_alloc, World.heap_drewN]; omega) | (simp; done) | (simp; omega)))) (by omega) (by omega)).mono ?_; rintro e w1 ⟨r1, rfl, hr1, hb1⟩; rw [HM.out] at hr1; replace hb1 := Later.undrew hb1; obtain ⟨p1, k1, er1, hr2⟩ := hr1.open; subst er1; clear c1 z1 c2 z2 c3 z3 f3; obtain ⟨⟨z1, c1, -⟩, ⟨z2, c2, -⟩, ⟨z3, c3, f3⟩, -⟩ := hO.later hb1)) | (go_at_call 50; go_must (refine (rmul_any _ _ d1 d2 _ (hz2.later (by repeat (first | with_reducible exact Later.refl _ | with_reducible assumption | with_reducible refine Later.ofdrew ?_ | with_reducible refine Later.ofdrewN ?_ | with_reducible refine Later.setCell ?_ ?_ _ | with_reducible refine Later.alloc ?_ _ | with_reducible refine Later.drewN ?_ _ | with_reducible refine Later.drew ?_ | (with_reducible refine Later.trans ?_ (by assumption)) | (simp only [World.size_setCell, World.size_alloc, World.heap_drewN]; omega) | (simp; done) | (simp; omega)))) (hz4.later (by repeat (first | with_reducible exact Later.refl _ | with_reducible assumption | with_reducible refine Later.ofdrew ?_ | with_reducible refine Later.ofdrewN ?_ | with_reducible refine Later.setCell ?_ ?_ _ | with_reducible refine Later.alloc ?_ _ | with_reducible refine Later.drewN ?_ _ | with_reducible refine Later.drew ?_ | (with_reducible refine Later.trans ?_ (by assumption)) | (simp only [World.size_setCell, World.size_alloc, World.heap_drewN]; omega) | (simp; done) | (simp; omega)))) (by omega) (by omega)).mono ?_; rintro e w2 ⟨r3, rfl, hr3, hb2⟩; rw [HK.out] at hr3; obtain ⟨p3, k3, er3, hr4⟩ := hr3.open; subst er3; clear c1 z1 c2 z2 c3 z3 f3; obtain ⟨⟨z1, c1, -⟩, ⟨z2, c2, -⟩, ⟨z3, c3, f3⟩, -⟩ := hO.later (hb1.trans hb2)))); first | refine behind_store (t := 11) (by decide) ?_ | refine behind (by repeat (first | with_reducible exact Later.refl _ | with_reducible assumption | with_reducible refine Later.ofdrew ?_ | with_reducible refine Later.ofdrewN ?_ | with_reducible refine Later.alloc ?_ _ | with_reducible refine Later.drewN ?_ _ | with_reducible refine Later.drew ?_ | (with_reducible refine Later.trans ?_ (by assumption)))) ?_))
  go_wp2
  obtain ⟨W, hW, e0, e1, e2, e3, hm1, hm2⟩ := q_end (s1 := decide (m < 0)) (s2 := decide (k < 0)) c3 (hr2.later hb2) hr4
  have hLW := put4 (k := w.heap.size + 1 + 1) (a := .bool (decide (m < 0))) (b := .slice p1 (nlen m.natAbs) k1) (c := .bool (decide (k < 0))) (d := .slice p3 (nlen k.natAbs) k3) ((hw0.trans hb1).trans hb2) (by omega)
  rw [hW] at hLW ⊢
  exact bodyPost_ret (v := .agg #[.bool (decide (m < 0)), .slice p1 (nlen m.natAbs) k1, .bool (decide (k < 0)), .slice p3 (nlen k.natAbs) k3]) (by simp [results, Tryd.results35, go_sem, e0, e1, e2, e3]) rfl ⟨_, rfl, isQ_mk hm1 hm2, hLW⟩

set_option maxHeartbeats 1600000 in
theorem qadd_any (x y : Value) (n1 d1 n2 d2 : Int) (w : World) (h : IsQ w x n1 d1) (g : IsQ w y n2 d2) (b1 : nlen n1.natAbs ≤ 20000) (b2 : nlen d1.natAbs ≤ 20000) (b3 : nlen n2.natAbs ≤ 20000) (b4 : nlen d2.natAbs ≤ 20000) :
    Calls Tryd.prog 33 #[x, y] w fun e w' => ∃ r, e = .returned r ∧ IsQ w' r (n1 * d2 + n2 * d1) (d1 * d2) ∧ Later w w' := by
  obtain ⟨p, c, q, e, rfl, hz1, hz2⟩ := h.open
  obtain ⟨p', c', q', e', rfl, hz3, hz4⟩ := g.open
  clear h g
  have hs1 := nlen_imul n1 d2
  have hs2 := nlen_imul n2 d1
  obtain ⟨m, hm⟩ : ∃ m, n1 * d2 + n2 * d1 = m := ⟨_, rfl⟩
  obtain ⟨k, hk⟩ : ∃ k, d1 * d2 = k := ⟨_, rfl⟩
  rw [hm, hk]
  have HM := Lib.hid hm
  have HK := Lib.hid hk
  clear hm hk
  go_enter Tryd.func33, Tryd.ntmps33
  go_upto_region 1 with fail
  refine wp_opaque (fun w0 hb0 => ?_)
  have hO := Own.three hb0
  have hw0 : Later w w0 := hb0.un1.un1.un1
  obtain ⟨⟨z1, c1, -⟩, ⟨z2, c2, -⟩, ⟨z3, c3, f3⟩, -⟩ := id hO
  replace hz1 := hz1.later hw0
  replace hz2 := hz2.later hw0
  replace hz3 := hz3.later hw0
  replace hz4 := hz4.later hw0
  have tok1 : True := trivial
  have tok2 : True := trivial
  refine wp_region_plan 17 (.one [0, 1, 2, 3, 5, 6, 7, 8, 11, 12, 13, 14] 4 (.one [] 9 (.one [] 10 (.one [] 15 (.one [16] 17 (.done [])))))) (by kernel_rfl) (by kernel_rfl) (fun _ _ d _ _ h => by cases d <;> exact h) ?_
  repeat' (first
    | (refine plan_done (fun K hK => ?_); (first | (simp only [pick_cons, pick_nil, toList_some_append, List.getElem?_toArray, List.getElem?_cons_zero, List.getElem?_cons_succ]; repeat (go_big_quiet_step (fail))) | simp only [pick_nil]); refine wpQuiet_nil (hK _ ?_); clear hK K)
    | (refine plan_one (by rfl) (fun K hK => ?_); (first | (simp only [pick_cons, pick_nil, toList_some_append, List.getElem?_toArray, List.getElem?_cons_zero, List.getElem?_cons_succ]; repeat (go_big_quiet_step (fail))) | simp only [pick_nil]); refine wpQuiet_nil (hK _ ?_); clear hK K)
    | ((with_reducible refine at_list ?_); go_wp2_with (first | (go_at_call 50; clear tok1; go_must (refine (rmul_any _ _ n1 d2 _ (hz1.later (by repeat (first | with_reducible exact Later.refl _ | with_reducible assumption | with_reducible refine Later.ofdrew ?_ | with_reducible refine Later.ofdrewN ?_ | with_reducible refine Later.setCell ?_ ?_ _ | with_reducible refine Later.alloc ?_ _ | with_reducible refine Later.drewN ?_ _ | with_reducible refine Later.drew ?_ | (with_reducible refine Later.trans ?_ (by assumption)) | (simp only [World.size_setCell, World.size_alloc, World.heap_drewN]; omega) | (simp; done) | (simp; omega)))) (hz4.later (by repeat (first | with_reducible exact Later.refl _ | with_reducible assumption | with_reducible refine Later.ofdrew ?_ | with_reducible refine Later.ofdrewN ?_ | with_reducible refine Later.setCell ?_ ?_ _ | with_reducible refine Later.alloc ?_ _ | with_reducible refine Later.drewN ?_ _ | with_reducible refine Later.drew ?_ | (with_reducible refine Later.trans ?_ (by assumption)) | (simp only [World.size_setCell, World.size_alloc, World.heap_drewN]; omega) | (simp; done) | (simp; omega)))) (by omega) (by omega)).mono ?_; rintro e w1 ⟨r1, rfl, hr1, hb1⟩; replace hb1 := Later.undrew hb1; clear c1 z1 c2 z2 c3 z3 f3; obtain ⟨⟨z1, c1, -⟩, ⟨z2, c2, -⟩, ⟨z3, c3, f3⟩, -⟩ := hO.later hb1)) | (go_at_call 50; clear tok2; go_must (refine (rmul_any _ _ n2 d1 _ (hz3.later (by repeat (first | with_reducible exact Later.refl _ | with_reducible assumption | with_reducible refine Later.ofdrew ?_ | with_reducible refine Later.ofdrewN ?_ | with_reducible refine Later.setCell ?_ ?_ _ | with_reducible refine Later.alloc ?_ _ | with_reducible refine Later.drewN ?_ _ | with_reducible refine Later.drew ?_ | (with_reducible refine Later.trans ?_ (by assumption)) | (simp only [World.size_setCell, World.size_alloc, World.heap_drewN]; omega) | (simp; done) | (simp; omega)))) (hz2.later (by repeat (first | with_reducible exact Later.refl _ | with_reducible assumption | with_reducible refine Later.ofdrew ?_ | with_reducible refine Later.ofdrewN ?_ | with_reducible refine Later.setCell ?_ ?_ _ | with_reducible refine Later.alloc ?_ _ | with_reducible refine Later.drewN ?_ _ | with_reducible refine Later.drew ?_ | (with_reducible refine Later.trans ?_ (by assumption)) | (simp only [World.size_setCell, World.size_alloc, World.heap_drewN]; omega) | (simp; done) | (simp; omega)))) (by omega) (by omega)).mono ?_; rintro e w2 ⟨r2, rfl, hr2, hb2⟩; have hc2 := hb1.trans hb2; clear c1 z1 c2 z2 c3 z3 f3; obtain ⟨⟨z1, c1, -⟩, ⟨z2, c2, -⟩, ⟨z3, c3, f3⟩, -⟩ := hO.later hc2)) | (go_at_call 51; go_must (refine (radd_any _ _ (n1 * d2) (n2 * d1) _ (hr1.later (by repeat (first | with_reducible exact Later.refl _ | with_reducible assumption | with_reducible refine Later.ofdrew ?_ | with_reducible refine Later.ofdrewN ?_ | with_reducible refine Later.setCell ?_ ?_ _ | with_reducible refine Later.alloc ?_ _ | with_reducible refine Later.drewN ?_ _ | with_reducible refine Later.drew ?_ | (with_reducible refine Later.trans ?_ (by assumption)) | (simp only [World.size_setCell, World.size_alloc, World.heap_drewN]; omega) | (simp; done) | (simp; omega)))) (hr2.later (by repeat (first | with_reducible exact Later.refl _ | with_reducible assumption | with_reducible refine Later.ofdrew ?_ | with_reducible refine Later.ofdrewN ?_ | with_reducible refine Later.setCell ?_ ?_ _ | with_reducible refine Later.alloc ?_ _ | with_reducible refine Later.drewN ?_ _ | with_reducible refine Later.drew ?_ | (with_reducible refine Later.trans ?_ (by assumption)) | (simp only [World.size_setCell, World.size_alloc, World.heap_drewN]; omega) | (simp; done) | (simp; omega)))) (by omega) (by omega)).mono ?_; rintro e w3 ⟨r3, rfl, hr3, hb3⟩; have hc3 := hc2.trans hb3; rw [HM.out] at hr3; obtain ⟨p3, k3, er3, hr4⟩ := hr3.open; subst er3; clear c1 z1 c2 z2 c3 z3 f3; obtain ⟨⟨z1, c1, -⟩, ⟨z2, c2, -⟩, ⟨z3, c3, f3⟩, -⟩ := hO.later hc3)) | (go_at_call 50; go_must (refine (rmul_any _ _ d1 d2 _ (hz2.later (by repeat (first | with_reducible exact Later.refl _ | with_reducible assumption | with_reducible refine Later.ofdrew ?_ | with_reducible refine Later.ofdrewN ?_ | with_reducible refine Later.setCell ?_ ?_ _ | with_reducible refine Later.alloc ?_ _ | with_reducible refine Later.drewN ?_ _ | with_reducible refine Later.drew ?_ | (with_reducible refine Later.trans ?_ (by assumption)) | (simp only [World.size_setCell, World.size_alloc, World.heap_drewN]; omega) | (simp; done) | (simp; omega)))) (hz4.later (by repeat (first | with_reducible exact Later.refl _ | with_reducible assumption | with_reducible refine Later.ofdrew ?_ | with_reducible refine Later.ofdrewN ?_ | with_reducible refine Later.setCell ?_ ?_ _ | with_reducible refine Later.alloc ?_ _ | with_reducible refine Later.drewN ?_ _ | with_reducible refine Later.drew ?_ | (with_reducible refine Later.trans ?_ (by assumption)) | (simp only [World.size_setCell, World.size_alloc, World.heap_drewN]; omega) | (simp; done) | (simp; omega)))) (by omega) (by omega)).mono ?_; rintro e w4 ⟨r5, rfl, hr5, hb4⟩; rw [HK.out] at hr5; obtain ⟨p5, k5, er5, hr6⟩ := hr5.open; subst er5; clear c1 z1 c2 z2 c3 z3 f3; obtain ⟨⟨z1, c1, -⟩, ⟨z2, c2, -⟩, ⟨z3, c3, f3⟩, -⟩ := hO.later (hc3.trans hb4)))); first | refine behind_store (t := 17) (by decide) ?_ | refine behind (by repeat (first | with_reducible exact Later.refl _ | with_reducible assumption | with_reducible refine Later.ofdrew ?_ | with_reducible refine Later.ofdrewN ?_ | with_reducible refine Later.alloc ?_ _ | with_reducible refine Later.drewN ?_ _ | with_reducible refine Later.drew ?_ | (with_reducible refine Later.trans ?_ (by assumption)))) ?_))
  go_wp2
  obtain ⟨W, hW, e0, e1, e2, e3, hm1, hm2⟩ := q_end (s1 := decide (m < 0)) (s2 := decide (k < 0)) c3 (hr4.later hb4) hr6
  have hLW := put4 (k := w.heap.size + 1 + 1) (a := .bool (decide (m < 0))) (b := .slice p3 (nlen m.natAbs) k3) (c := .bool (decide (k < 0))) (d := .slice p5 (nlen k.natAbs) k5) ((hw0.trans hc3).trans hb4) (by omega)
  rw [hW] at hLW ⊢
  exact bodyPost_ret (v := .agg #[.bool (decide (m < 0)), .slice p3 (nlen m.natAbs) k3, .bool (decide (k < 0)), .slice p5 (nlen k.natAbs) k5]) (by simp [results, Tryd.results33, go_sem, e0, e1, e2, e3]) rfl ⟨_, rfl, isQ_mk hm1 hm2, hLW⟩

set_option maxHeartbeats 1600000 in
theorem qorder_any (x y : Value) (n1 d1 n2 d2 : Int) (w : World) (h : IsQ w x n1 d1) (g : IsQ w y n2 d2) (b1 : nlen n1.natAbs ≤ 20000) (b2 : nlen d1.natAbs ≤ 20000) (b3 : nlen n2.natAbs ≤ 20000) (b4 : nlen d2.natAbs ≤ 20000) :
    Calls Tryd.prog 32 #[x, y] w fun e w' => e = .returned (.int .i64 (cmpZ (n1 * d2) (n2 * d1))) ∧ Later w w' := by
  obtain ⟨p, c, q, e, rfl, hz1, hz2⟩ := h.open
  obtain ⟨p', c', q', e', rfl, hz3, hz4⟩ := g.open
  clear h g
  have hs1 := nlen_imul n1 d2
  have hs2 := nlen_imul n2 d1
  obtain ⟨m, hm⟩ : ∃ m, cmpZ (n1 * d2) (n2 * d1) = m := ⟨_, rfl⟩
  rw [hm]
  have HM := Lib.hid hm
  clear hm
  go_enter Tryd.func32, Tryd.ntmps32
  go_upto_region 1 with fail
  refine wp_opaque (fun w0 hb0 => ?_)
  have hO := Own.two hb0
  have hw0 : Later w w0 := hb0.un1.un1
  obtain ⟨⟨z1, c1, -⟩, ⟨z2, c2, -⟩, -⟩ := id hO
  replace hz1 := hz1.later hw0
  replace hz2 := hz2.later hw0
  replace hz3 := hz3.later hw0
  replace hz4 := hz4.later hw0
  have tok1 : True := trivial
  refine wp_region_plan 12 (.one [0, 1, 2, 3, 5, 6, 7, 8] 4 (.one [] 9 (.one [] 10 (.done [11])))) (by kernel_rfl) (by kernel_rfl) (fun _ _ d _ _ h => by cases d <;> exact h) ?_
  repeat' (first
    | (refine plan_done (fun K hK => ?_); (first | (simp only [pick_cons, pick_nil, toList_some_append, List.getElem?_toArray, List.getElem?_cons_zero, List.getElem?_cons_succ]; repeat (go_big_quiet_step (fail))) | simp only [pick_nil]); refine wpQuiet_nil (hK _ ?_); clear hK K)
    | (refine plan_one (by rfl) (fun K hK => ?_); (first | (simp only [pick_cons, pick_nil, toList_some_append, List.getElem?_toArray, List.getElem?_cons_zero, List.getElem?_cons_succ]; repeat (go_big_quiet_step (fail))) | simp only [pick_nil]); refine wpQuiet_nil (hK _ ?_); clear hK K)
    | ((with_reducible refine at_list ?_); go_wp2_with (first | (go_at_call 50; clear tok1; go_must (refine (rmul_any _ _ n1 d2 _ (hz1.later (by repeat (first | with_reducible exact Later.refl _ | with_reducible assumption | with_reducible refine Later.ofdrew ?_ | with_reducible refine Later.ofdrewN ?_ | with_reducible refine Later.setCell ?_ ?_ _ | with_reducible refine Later.alloc ?_ _ | with_reducible refine Later.drewN ?_ _ | with_reducible refine Later.drew ?_ | (with_reducible refine Later.trans ?_ (by assumption)) | (simp only [World.size_setCell, World.size_alloc, World.heap_drewN]; omega) | (simp; done) | (simp; omega)))) (hz4.later (by repeat (first | with_reducible exact Later.refl _ | with_reducible assumption | with_reducible refine Later.ofdrew ?_ | with_reducible refine Later.ofdrewN ?_ | with_reducible refine Later.setCell ?_ ?_ _ | with_reducible refine Later.alloc ?_ _ | with_reducible refine Later.drewN ?_ _ | with_reducible refine Later.drew ?_ | (with_reducible refine Later.trans ?_ (by assumption)) | (simp only [World.size_setCell, World.size_alloc, World.heap_drewN]; omega) | (simp; done) | (simp; omega)))) (by omega) (by omega)).mono ?_; rintro e w1 ⟨r1, rfl, hr1, hb1⟩; replace hb1 := Later.undrew hb1; clear c1 z1 c2 z2; obtain ⟨⟨z1, c1, -⟩, ⟨z2, c2, -⟩, -⟩ := hO.later hb1)) | (go_at_call 50; go_must (refine (rmul_any _ _ n2 d1 _ (hz3.later (by repeat (first | with_reducible exact Later.refl _ | with_reducible assumption | with_reducible refine Later.ofdrew ?_ | with_reducible refine Later.ofdrewN ?_ | with_reducible refine Later.setCell ?_ ?_ _ | with_reducible refine Later.alloc ?_ _ | with_reducible refine Later.drewN ?_ _ | with_reducible refine Later.drew ?_ | (with_reducible refine Later.trans ?_ (by assumption)) | (simp only [World.size_setCell, World.size_alloc, World.heap_drewN]; omega) | (simp; done) | (simp; omega)))) (hz2.later (by repeat (first | with_reducible exact Later.refl _ | with_reducible assumption | with_reducible refine Later.ofdrew ?_ | with_reducible refine Later.ofdrewN ?_ | with_reducible refine Later.setCell ?_ ?_ _ | with_reducible refine Later.alloc ?_ _ | with_reducible refine Later.drewN ?_ _ | with_reducible refine Later.drew ?_ | (with_reducible refine Later.trans ?_ (by assumption)) | (simp only [World.size_setCell, World.size_alloc, World.heap_drewN]; omega) | (simp; done) | (simp; omega)))) (by omega) (by omega)).mono ?_; rintro e w2 ⟨r2, rfl, hr2, hb2⟩; have hc2 := hb1.trans hb2)) | (go_at_call 49; go_must (refine (rorder_any _ _ (n1 * d2) (n2 * d1) _ (hr1.later (by repeat (first | with_reducible exact Later.refl _ | with_reducible assumption | with_reducible refine Later.ofdrew ?_ | with_reducible refine Later.ofdrewN ?_ | with_reducible refine Later.setCell ?_ ?_ _ | with_reducible refine Later.alloc ?_ _ | with_reducible refine Later.drewN ?_ _ | with_reducible refine Later.drew ?_ | (with_reducible refine Later.trans ?_ (by assumption)) | (simp only [World.size_setCell, World.size_alloc, World.heap_drewN]; omega) | (simp; done) | (simp; omega)))) (hr2.later (by repeat (first | with_reducible exact Later.refl _ | with_reducible assumption | with_reducible refine Later.ofdrew ?_ | with_reducible refine Later.ofdrewN ?_ | with_reducible refine Later.setCell ?_ ?_ _ | with_reducible refine Later.alloc ?_ _ | with_reducible refine Later.drewN ?_ _ | with_reducible refine Later.drew ?_ | (with_reducible refine Later.trans ?_ (by assumption)) | (simp only [World.size_setCell, World.size_alloc, World.heap_drewN]; omega) | (simp; done) | (simp; omega)))) (by omega) (by omega)).mono ?_; rintro e w3 ⟨rfl, hb3⟩; have hc3 := hc2.trans hb3; rw [HM.out]))); first | refine behind_store (t := 12) (by decide) ?_ | refine behind (by repeat (first | with_reducible exact Later.refl _ | with_reducible assumption | with_reducible refine Later.ofdrew ?_ | with_reducible refine Later.ofdrewN ?_ | with_reducible refine Later.alloc ?_ _ | with_reducible refine Later.drewN ?_ _ | with_reducible refine Later.drew ?_ | (with_reducible refine Later.trans ?_ (by assumption)))) ?_))
  go_wp2
  go_ret
  exact ⟨rfl, hw0.trans hc3⟩
end Go.Proofs.YtkpadahpepeaoaaDoor
