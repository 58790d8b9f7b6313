/- walks: chattelref01: Parts -/
import Derived.Test.YtckeaibamgkegaaDoorRefI
set_option linter.all false
namespace Go.Proofs.YtckeaibamgkegaaDoor
open Go.RowKit
set_option maxRecDepth 100000

theorem bitsV_nought (L : Nat) : bitsV 0 L = List.replicate L (.int .i64 0) := by
  apply List.ext_getElem?
  intro i
  by_cases h : i < L
  · rw [bitsV_get h]; simp [h, bit]
  · rw [List.getElem?_eq_none (by rw [bitsV_len]; omega), List.getElem?_eq_none (by simp; omega)]
theorem mine_own {w0 w : World} {e g n : Nat} {xs : List Value} (h : Mine w0 e 1 w (.slice (some ⟨g, 0, none⟩) n n) n xs) : Own w [(g, xs.toArray)] := by
  obtain ⟨hl, h1⟩ := h.1
  rcases h1 with ⟨h1, _⟩ | ⟨g', cap, cur, h1, h2, h3, h4, h5, h6, h7⟩
  · cases h1
  · cases h1
    have hc : cur = xs.toArray := by
      rw [List.take_of_length_le (by simp; omega)] at h7
      rw [← h7]
    subst hc
    have hlt : g < w.heap.size := (Array.getElem?_eq_some_iff.1 h3).1
    exact ⟨⟨hlt, fun i => by simp [World.cell?, h3], fun i hi => by simp [World.frozen?, h3]⟩, trivial⟩
theorem mine_lit {w : World} {x : Value} {e : Nat} : Mine w e 1 (w.alloc (.cells #[x] e)) (.slice (some ⟨w.heap.size, 0, none⟩) 1 1) 1 [x] :=
  ⟨World.ownsRow_lit w #[x] 1 (Nat.le_refl _) (by unfold maxLen; omega) (by simp), (Later.refl _).alloc _⟩

/-- What is appended is a row, nil or not. -/
theorem wpList_app_row {P : Program} {w0 w : World} {e : Nat} {v u : Value} {n m L : Nat} {xs : List Value} {ops : Array Oper} {rest : List Oper} {o : Oper} {a : Act} {Q : Exit → Act → World → Prop} {t bytes : Nat} (T : SliceOf P t e 1 bytes) (hM : Mine w0 e 1 w v n xs) (hgd : o.guard = none) (s x : Operand)
    (ho : o.op = .call { callee := .builtin .append, args := #[s, x], argTypes := #[t, t] }) (hs : a.eval s = v) (hx : a.eval x = u) (hu : Row w u m L)
    (h63 : (n + L) * bytes ≤ 140737488355328) (h64 : n + L ≤ maxLen)
    (h : ∀ v' w', Mine w0 e 1 w' v' (n + L) (xs ++ bitsV m L) → wpList P ops Q rest (a.put o.dst v') w') : wpList P ops Q (o :: rest) a w := by
  rcases hu.2 with ⟨rfl, rfl⟩ | ⟨b, cap, rfl, _, _, hc⟩
  · refine wpList_app_none T hM hgd s x ho hs hx ?_
    have := h v w (by rw [bitsV_zero, List.append_nil]; exact hM)
    exact this
  · exact wpList_app T hM hgd s x ho hs b 0 L cap (bitsV m L) hx (by rw [bitsV_len, Nat.mul_one]) (cells_bits hc) bits_one h63 h64 (fun v' w' h1 _ => h v' w' h1)

theorem bits_push {r L : Nat} {x : Int} (hx : x = 0 ∨ x = 1) : [Value.int .i64 x] ++ bitsV r L = bitsV (2 * r + x.toNat) (1 + L) := by
  apply List.ext_getElem?
  intro i
  rcases i with _ | i
  · simp only [List.cons_append, List.getElem?_cons_zero]
    rw [bitsV_get (by omega)]
    unfold bit
    congr 2
    rcases hx with rfl | rfl <;> simp <;> omega
  · simp only [List.cons_append, List.nil_append, List.getElem?_cons_succ]
    by_cases h : i < L
    · rw [bitsV_get h, bitsV_get (by omega)]
      have : (2 * r + x.toNat) / 2 ^ (i + 1) = r / 2 ^ i := by
        rw [Nat.pow_succ, Nat.mul_comm (2 ^ i) 2, ← Nat.div_div_eq_div_mul]
        congr 1
        rcases hx with rfl | rfl <;> simp <;> omega
      simp only [bit, this]
    · rw [List.getElem?_eq_none (by rw [bitsV_len]; omega), List.getElem?_eq_none (by rw [bitsV_len]; omega)]
theorem Mine.push {w0 w : World} {v : Value} {r L : Nat} {x : Int} (h : Mine w0 3 1 w v (1 + L) ([.int .i64 x] ++ bitsV r L)) (hx : x = 0 ∨ x = 1) (hr : r < 2 ^ L) : Row w v (2 * r + x.toNat) (1 + L) := by
  rw [bits_push hx] at h
  refine h.row ?_
  rw [Nat.pow_add]
  rcases hx with rfl | rfl <;> simp <;> omega
theorem div_low (a k : Nat) (b : Nat) (hb : 0 < b) : a / 2 ^ k % b = (if b ≤ 2 * (a / 2 ^ (k + 1) % b) + (bit a k).toNat then 2 * (a / 2 ^ (k + 1) % b) + (bit a k).toNat - b else 2 * (a / 2 ^ (k + 1) % b) + (bit a k).toNat) ∧
    a / 2 ^ k / b = 2 * (a / 2 ^ (k + 1) / b) + (if b ≤ 2 * (a / 2 ^ (k + 1) % b) + (bit a k).toNat then 1 else 0) := by
  have h1 := div_step a k
  have hbt : (bit a k).toNat = a / 2 ^ k % 2 := Int.toNat_natCast _
  rw [hbt]
  generalize a / 2 ^ (k + 1) = A at *
  have hx : a / 2 ^ k % 2 ≤ 1 := by omega
  generalize a / 2 ^ k % 2 = x at *
  rw [h1]
  have e := Nat.div_add_mod A b
  have l := Nat.mod_lt A hb
  generalize A / b = Q at *
  generalize A % b = R at *
  split
  · rename_i hge
    have : 2 * A + x = b * (2 * Q + 1) + (2 * R + x - b) := by rw [Nat.mul_add]; have : b * (2 * Q) = 2 * (b * Q) := Nat.mul_left_comm _ _ _; omega
    rw [this, Nat.mul_add_mod, Nat.mod_eq_of_lt (by omega), Nat.mul_add_div hb, Nat.div_eq_of_lt (by omega)]
    exact ⟨rfl, by omega⟩
  · rename_i hge
    have : 2 * A + x = b * (2 * Q) + (2 * R + x) := by have : b * (2 * Q) = 2 * (b * Q) := Nat.mul_left_comm _ _ _; omega
    rw [this, Nat.mul_add_mod, Nat.mod_eq_of_lt (by omega), Nat.mul_add_div hb, Nat.div_eq_of_lt (by omega)]
    exact ⟨rfl, by omega⟩
/-- A quotient's bit is laid. -/
theorem bits_lay {Q L k : Nat} (hk : k < L) : (bitsV (Q * 2 ^ (k + 1)) L).set k (.int .i64 1) = bitsV ((2 * Q + 1) * 2 ^ k) L := by
  apply List.ext_getElem?
  intro i
  by_cases h : i < L
  · rw [List.getElem?_set, bitsV_get h, bitsV_get h, bitsV_len]
    split
    · rename_i he; subst he; rw [bit_shift, if_neg (by omega), Nat.sub_self]; unfold bit; congr 2; rw [Nat.pow_zero, Nat.div_one]; omega
    · rename_i hne
      congr 2
      rw [bit_shift, bit_shift]
      by_cases h2 : i < k
      · rw [if_pos (by omega), if_pos h2]
      · rw [if_neg (by omega), if_neg h2]
        obtain ⟨d, rfl⟩ : ∃ d, i = k + 1 + d := ⟨i - k - 1, by omega⟩
        unfold bit
        rw [show k + 1 + d - (k + 1) = d by omega, show k + 1 + d - k = d + 1 by omega, Nat.pow_succ, Nat.mul_comm (2 ^ d) 2, ← Nat.div_div_eq_div_mul, show (2 * Q + 1) / 2 = Q by omega]
  · rw [List.getElem?_eq_none (by simp [bitsV_len]; omega), List.getElem?_eq_none (by rw [bitsV_len]; omega)]
theorem own_set_row {w : World} {b k : Nat} {xs : List Value} {x : Value} (h : Own w [(b, xs.toArray)]) (hk : k < xs.length) : Own (w.setCell ⟨b, k, none⟩ x) [(b, (xs.set k x).toArray)] :=
  Own.cons (by simpa using h.1.1) (fun i => by rw [set_own h.1.2.1 x (by simpa using hk) i]; simp) (fun i hi => set_frozen (n := xs.length) (fun i hi => h.1.2.2 i (by simpa using hi)) x i (by simpa using hi)) trivial
theorem own_row {w : World} {b n L : Nat} (h : Own w [(b, (bitsV n L).toArray)]) (hn : n < 2 ^ L) : Row w (.slice (some ⟨b, 0, none⟩) L L) n L :=
  ⟨hn, .inr ⟨b, L, rfl, h.1.1, Nat.le_refl _, fun i hi => by rw [h.1.2.1]; simp only [List.getElem?_toArray]; exact bitsV_get hi⟩⟩
theorem Own.set_far {w : World} {b k : Nat} {x : Value} : ∀ {l : List (Nat × Array Value)}, Own w l → (∀ p ∈ l, p.1 ≠ b) → Own (w.setCell ⟨b, k, none⟩ x) l
  | [], _, _ => trivial
  | (g, A) :: l, h, hb => ⟨⟨by simpa using h.1.1, fun i => Go.Proofs.YtckeaibamgkegaaDoor.set_far h.1.2.1 x (fun e => hb _ (List.mem_cons_self ..) e.symm) i, fun i hi => set_frozen (n := A.size) h.1.2.2 x i hi⟩, h.2.set_far (fun p hp => hb p (List.mem_cons_of_mem _ hp))⟩
theorem Num.set_apart {w : World} {v x : Value} {n b k : Nat} (h : Num w v n) (hb : ∀ g, v.ownBlock = some g → g ≠ b) : Num (w.setCell ⟨b, k, none⟩ x) v n := by
  refine ⟨h.1, ?_⟩
  rcases h.2 with h2 | ⟨g, cap, h2, h3, h4, h5⟩
  · exact .inl h2
  · refine .inr ⟨g, cap, h2, by simpa using h3, h4, fun j hj => ?_⟩
    have : g ≠ b := hb g (by rw [h2]; rfl)
    rw [World.cell?_setCell_other _ _ _ _ (fun e => this (by cases e; rfl))]
    exact h5 j hj
theorem big_end2 {w : World} {k1 k2 n1 n2 : Nat} {v1 v2 y1 y2 : Value} {s1 s2 t1 t2 : Bool} (hO : Own w [(k1, #[.bool t1, y1]), (k2, #[.bool t2, y2])]) (hne : k1 ≠ k2) (h1 : Num w v1 n1) (h2 : Num w v2 n2) :
    ∃ W : World, ((((w.setCell ⟨k1, 0, none⟩ (.bool s1)).setCell ⟨k1, 1, none⟩ v1).setCell ⟨k2, 0, none⟩ (.bool s2)).setCell ⟨k2, 1, none⟩ v2) = W ∧
      W.cell? ⟨k1, 0, none⟩ = some (.bool s1) ∧ W.cell? ⟨k1, 1, none⟩ = some v1 ∧ W.cell? ⟨k2, 0, none⟩ = some (.bool s2) ∧ W.cell? ⟨k2, 1, none⟩ = some v2 ∧ IsBig W (.agg #[.bool s1, v1]) s1 n1 ∧ IsBig W (.agg #[.bool s2, v2]) s2 n2 := by
  obtain ⟨⟨_, c1, _⟩, ⟨_, c2, _⟩, _⟩ := hO
  have e1 := set_own (k := 1) (set_own (k := 0) c1 (.bool s1) (by simp)) v1 (by simp)
  have e2 : ∀ i, (((w.setCell ⟨k1, 0, none⟩ (.bool s1)).setCell ⟨k1, 1, none⟩ v1)).cell? ⟨k2, i, none⟩ = #[.bool t2, y2][i]? := set_far (set_far c2 _ hne) _ hne
  have e3 := set_own (k := 1) (set_own (k := 0) e2 (.bool s2) (by simp)) v2 (by simp)
  have e4 := set_far (k := 1) (set_far (k := 0) e1 (.bool s2) (Ne.symm hne)) v2 (Ne.symm hne)
  exact ⟨_, rfl, by rw [e4]; rfl, by rw [e4]; rfl, by rw [e3]; rfl, by rw [e3]; rfl, ⟨_, rfl, (h1.set2 c1).set2 e2⟩, ⟨_, rfl, (h2.set2 c1).set2 e2⟩⟩

set_option maxHeartbeats 1600000 in
theorem rparts_any (x y : Value) (s t : Bool) (a b : Nat) (w : World) (h : IsBig w x s a) (g : IsBig w y t b) (hL : nlen a ≤ 40000) (hM : nlen b ≤ 40000) (hb : 0 < b) :
    Calls Tryd.prog 55 #[x, y] w fun e w' => ∃ q r, e = .returned (.tuple #[q, r]) ∧ IsBig w' q false (a / b) ∧ IsBig w' r false (a % b) ∧ Later w w' := by
  obtain ⟨p, cp, rfl, hv⟩ := h.open
  obtain ⟨q, cq, rfl, hu⟩ := g.open
  clear h g
  have hla := lt_nlen a
  unfold Num at hv
  obtain ⟨la, hl⟩ : ∃ la, nlen a = la := ⟨_, rfl⟩
  rw [hl] at hv hla hL ⊢
  clear hl
  go_enter Tryd.func55, Tryd.ntmps55
  go_upto_region 1 with fail
  refine wp_opaque (fun w0 hb0 => ?_)
  have hO := Own.four hb0
  have hw0 : Later w w0 := hb0.un1.un1.un1.un1
  replace hv := hv.later hw0
  replace hu := hu.later hw0
  have hs0 := Later.size hw0
  obtain ⟨⟨z0, c0, -⟩, -⟩ := id hO
  go_wp2_with (at_make; go_must (refine wpList_mk slInt (Later.refl _) rfl _ _ rfl la rfl rfl (by omega) (by unfold maxLen; omega) ?_; intro w1 z hz hm hl1; cases zeroInt hz; clear c0; replace hm := Mine.zeros hm; have hO4 := hO.later hm.lat; obtain ⟨⟨z0, c0, -⟩, -⟩ := id hO4))
  have hq := mine_own hm
  rw [← bitsV_nought] at hq
  have hl01 := hm.lat
  have hz4 : w.heap.size + 1 + 1 + 1 < w0.heap.size := hO.2.2.2.1.1
  have hbq := Lib.hid hb
  obtain ⟨bq, hbqe⟩ : ∃ bq, w0.heap.size = bq := ⟨_, rfl⟩
  have hbq0 : w0.heap.size ≤ bq := by omega
  rw [hbqe] at hq ⊢
  replace hz4 : w.heap.size + 1 + 1 + 1 < bq := by omega
  clear c0 z0 hm hl1 hb0 hO hbqe
  go_loopw [7, 8] (fun s7 s8 wr => ∃ k : Nat, k ≤ la ∧ s8 = .int .i64 ((k : Int) - 1) ∧ Num wr s7 (a / 2 ^ k % b) ∧ (∀ g, s7.ownBlock = some g → g ≠ bq) ∧ Own wr [(bq, (bitsV ((a / 2 ^ k / b) * 2 ^ k) la).toArray)] ∧
      Own wr [(w.heap.size, #[.bool s, .slice p la cp]), (w.heap.size + 1, #[.bool t, .slice q (nlen b) cq]), (w.heap.size + 1 + 1, #[.bool false, .slice none 0 0]), (w.heap.size + 1 + 1 + 1, #[.bool false, .slice none 0 0])] ∧ Later w0 wr)
    (fun _ s8 _ => (intOf s8 + 1).toNat)
  case atStart =>
    refine ⟨la, Nat.le_refl _, rfl, ?_, ?_, ?_, hO4, hl01⟩
    · rw [Nat.div_eq_of_lt hla, Nat.zero_mod]; exact Num.nil _
    · intro g hg; simp [Value.ownBlock] at hg
    · rw [Nat.div_eq_of_lt hla, Nat.zero_div, Nat.zero_mul]; exact hq
  case round =>
    obtain ⟨k, hk, rfl, hr, hne, hq2, hO5, hlat⟩ := hrel
    obtain ⟨pr, cr, rfl⟩ := Row.form hr
    replace hv := hv.later hlat
    replace hu := hu.later hlat
    have hlw := hw0.trans hlat
    rcases k with _ | j
    · rw [Nat.pow_zero, Nat.div_one] at hr
      rw [Nat.pow_zero, Nat.div_one, Nat.mul_one] at hq2
      have hqr := own_row hq2 (Nat.lt_of_le_of_lt (Nat.div_le_self a b) hla)
      obtain ⟨-, -, ⟨z2, c2, f2⟩, ⟨z3, c3, f3⟩, -⟩ := id hO5
      rw [show (((0 : Nat) : Int) - 1) = -1 from rfl, Nat.pow_zero, Nat.div_one]
      have HR := Lib.hid hr
      have hne' := Lib.hid hne
      clear hr hq2 hv hu hne hO5 hO4 hq hla
      go_wp2_with (go_at_call 86; go_must (refine (trim_any _ _ _ _ hqr (by omega)).mono ?_; rintro e w3 ⟨u, rfl, hu4, rfl⟩; obtain ⟨pu, cu, rfl⟩ := Row.form hu4))
      obtain ⟨W, hW, e1, e2, e3, e4, hI1, hI2⟩ := big_end2 (s1 := false) (s2 := false) (Own.cons z2 c2 f2 (Own.cons z3 c3 f3 trivial)) (by omega) hu4 HR.out
      have hLW : Later w W := by
        rw [← hW]
        exact (((hlw.putCell (by omega) _).putCell (by omega) _).putCell (by omega) _).putCell (by omega) _
      rw [hW]
      exact bodyPost_ret (v := .tuple #[.agg #[.bool false, .slice pu (nlen (a / b)) cu], .agg #[.bool false, .slice pr (nlen (a % b)) cr]]) (by simp [results, Tryd.results55, go_sem, e1, e2, e3, e4]) rfl ⟨_, _, rfl, hI1, hI2, hLW⟩
    · obtain ⟨ba, capa, hvv, hba, _, hca⟩ := Row.full hv (by omega)
      cases hvv
      have hcell := hca j (by omega)
      obtain ⟨⟨z0, c0, -⟩, -⟩ := id hO5
      obtain ⟨hdl1, hdl2⟩ := div_low a j b hb
      have hbt := bit_cases a j
      have HD := Lib.hid (And.intro hdl1 hdl2)
      have hmod := Nat.mod_lt (a / 2 ^ (j + 1)) hb
      clear hdl1 hdl2 hca
      rw [show (((j + 1 : Nat) : Int) - 1) = (j : Int) by omega]
      obtain ⟨bt, hbte⟩ : ∃ bt, bit a j = bt := ⟨_, rfl⟩
      obtain ⟨R, hRe⟩ : ∃ R, a / 2 ^ (j + 1) % b = R := ⟨_, rfl⟩
      rw [hbte, hRe] at HD
      rw [hbte] at hcell hbt
      rw [hRe] at hr hmod ⊢
      have hR40 : nlen R ≤ 40000 := Nat.le_trans (nlen_mono (Nat.le_of_lt hmod)) hM
      have hnb : nlen (2 * R + bt.toNat) ≤ 1 + nlen R := nlen_le (by have := lt_nlen R; rw [Nat.pow_add]; rcases hbt with rfl | rfl <;> simp <;> omega)
      have HB := Lib.hid hbt
      clear hbte hRe hbt
      by_cases hge : b ≤ 2 * R + bt.toNat
      · have hcm := cmpN_ge hge
        obtain ⟨cm, hcm2⟩ : ∃ cm, cmpN (2 * R + bt.toNat) b = cm := ⟨_, rfl⟩
        rw [hcm2] at hcm
        have HC := Lib.hid hcm2
        have HGE := Lib.hid hge
        clear hcm2 hge hmod
        have hr2 := hr
        go_wp2_with (first
          | (at_builtin; go_must (refine wpList_app_row slInt (mine_lit (w := wr) (x := .int .i64 bt) (e := 3)) rfl _ _ rfl rfl rfl (hr.later ((Later.refl _).alloc _)) (by omega) (by unfold maxLen; omega) ?_; intro v2 w2 hm2; have hb2 := hm2.lat; have hrow := hm2.push HB.out (lt_nlen R); have how := Lib.hid hm2.1.lt; clear hm2 c0 z0 hcell))
          | (go_at_call 86; go_must (refine (trim_own _ _ _ _ hrow (by omega)).mono ?_; rintro e w3 ⟨u, rfl, hu4, rfl, hob⟩; obtain ⟨pu, cu, rfl⟩ := Row.form hu4; have hu5 := hu.later hb2; clear hrow; obtain ⟨-, ⟨z1, c1, -⟩, -⟩ := hO5.later hb2; have HOB := Lib.hid hob; clear hob))
          | (go_at_call 87; go_must (refine (order_any _ _ _ _ _ hu4 hu5 (by omega) (by omega)).mono ?_; rintro e w4 ⟨rfl, hb4⟩; rw [HC.out]; clear c1 z1; obtain ⟨-, ⟨z1, c1, -⟩, -⟩ := hO5.later (hb2.trans hb4)))
          | (go_at_call 88; go_must (refine (minus_own _ _ _ _ _ _ _ (hu4.later hb4) (hu5.later hb4) (by omega) (by omega) HGE.out).mono ?_; rintro e w5 ⟨u, rfl, hu6, hb5, hob⟩; obtain ⟨pu, cu, rfl⟩ := Row.form hu6; clear c1 z1; have hb6 := (hb2.trans hb4).trans hb5; obtain ⟨⟨z6, c6, f6⟩, -⟩ := hq2.later hb6; have c6' := (c6 j).trans (by simp only [List.getElem?_toArray]; exact bitsV_get (by omega)); have f6' := f6 j (by rw [List.size_toArray, bitsV_len]; omega); have HOB := Lib.hid hob; clear hob c6 f6)))
        have hbw := hq2.1.1
        have hsz4 := Later.size (hb2.trans hb4)
        go_roundw
        case rel =>
          refine ⟨j, by omega, rfl, ?_, ?_, ?_, ?_, ?_⟩
          · rw [HD.out.1, if_pos HGE.out]
            exact hu6.set_apart (fun g hg => by have := HOB.out g hg; omega)
          · exact fun g hg => by have := HOB.out g hg; omega
          · rw [HD.out.2, if_pos HGE.out, ← bits_lay (by omega)]
            exact own_set_row (hq2.later hb6) (by rw [bitsV_len]; omega)
          · exact (hO5.later hb6).set_far (fun p hp => by simp only [List.mem_cons, List.not_mem_nil, or_false] at hp; rcases hp with rfl | rfl | rfl | rfl <;> simp <;> omega)
          · exact (hlat.trans hb6).setCell hbq0 _
        case measure => simp [intOf]
      · have hlt : 2 * R + bt.toNat < b := by omega
        have hcm := cmpN_lt hlt
        have HC := Lib.hid hcm
        have HGE := Lib.hid hge
        clear hcm hge hmod hlt
        go_wp2_with (first
          | (at_builtin; go_must (refine wpList_app_row slInt (mine_lit (w := wr) (x := .int .i64 bt) (e := 3)) rfl _ _ rfl rfl rfl (hr.later ((Later.refl _).alloc _)) (by omega) (by unfold maxLen; omega) ?_; intro v2 w2 hm2; have hb2 := hm2.lat; have hrow := hm2.push HB.out (lt_nlen R); have how := Lib.hid hm2.1.lt; clear hm2 c0 z0 hcell))
          | (go_at_call 86; go_must (refine (trim_own _ _ _ _ hrow (by omega)).mono ?_; rintro e w3 ⟨u, rfl, hu4, rfl, hob⟩; obtain ⟨pu, cu, rfl⟩ := Row.form hu4; have hu5 := hu.later hb2; clear hrow; obtain ⟨-, ⟨z1, c1, -⟩, -⟩ := hO5.later hb2; have HOB := Lib.hid hob; clear hob))
          | (go_at_call 87; go_must (refine (order_any _ _ _ _ _ hu4 hu5 (by omega) (by omega)).mono ?_; rintro e w4 ⟨rfl, hb4⟩; rw [HC.out]; clear c1 z1)))
        have hbw := hq2.1.1
        have hb6 := hb2.trans hb4
        go_roundw
        case rel =>
          refine ⟨j, by omega, rfl, ?_, ?_, ?_, ?_, ?_⟩
          · rw [HD.out.1, if_neg HGE.out]
            exact hu4.later hb4
          · intro g hg
            rw [HOB.out] at hg
            have := how.out g hg
            omega
          · rw [HD.out.2, if_neg HGE.out, show (2 * (a / 2 ^ (j + 1) / b) + 0) * 2 ^ j = a / 2 ^ (j + 1) / b * 2 ^ (j + 1) by rw [Nat.pow_succ, Nat.add_zero, Nat.mul_comm 2, Nat.mul_assoc, Nat.mul_comm 2]]
            exact hq2.later hb6
          · exact hO5.later hb6
          · exact hlat.trans hb6
        case measure => simp [intOf]
end Go.Proofs.YtckeaibamgkegaaDoor
