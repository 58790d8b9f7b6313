/- money as a text, plain: which money a text is -/
import Derived.Test.YtckeaibamgkegaaDoorCashP
import Derived.Lib.SlTrimSet
set_option linter.all false
namespace Go.Proofs.YtckeaibamgkegaaDoor
open Go.RowKit
set_option maxRecDepth 100000

theorem dec_head (u : Nat) (h : 0 < u) : (Lib.decDigits u).head? ≠ some 48 := by
  induction u using Nat.strongRecOn with
  | _ u ih =>
    by_cases h10 : u < 10
    · rw [Lib.decDigits, dif_pos h10, List.head?_cons]
      intro e
      have e2 := congrArg UInt8.toNat (Option.some.inj e)
      rw [UInt8.toNat_ofNat'] at e2
      have e3 : (48 : UInt8).toNat = 48 := rfl
      omega
    · have h1 := ih (u / 10) (by omega) (by omega)
      rw [Lib.decDigits, dif_neg h10, List.head?_append]
      cases hd : (Lib.decDigits (u / 10)).head? with
      | none => exact absurd (List.head?_eq_none_iff.1 hd) (dec_ne _)
      | some x => rw [hd] at h1; simpa using h1
/-- Digits are noughts and a decimal. -/
theorem digs_canon (W : List UInt8) (hne : W ≠ []) (hd : W.all digB = true) : ∃ z, W = List.replicate z 48 ++ Lib.decDigits (valD 0 W) := by
  obtain ⟨n, hn⟩ : ∃ n, W.length = n := ⟨_, rfl⟩
  induction n generalizing W with
  | zero => exact absurd (List.eq_nil_of_length_eq_zero hn) hne
  | succ n ih =>
    obtain ⟨V, c, rfl⟩ : ∃ V c, W = V ++ [c] := ⟨W.dropLast, W.getLast hne, (List.dropLast_concat_getLast _).symm⟩
    rw [List.all_append, Bool.and_eq_true] at hd
    have hc := of_decide_eq_true ((by simpa using hd.2 : digB c = true))
    have hcc : UInt8.ofNat (48 + (c.toNat - 48)) = c := by
      rw [show 48 + (c.toNat - 48) = c.toNat by omega]; simp
    rw [valD_snoc]
    by_cases hV : V = []
    · subst hV
      refine ⟨0, ?_⟩
      rw [show valD 0 [] * 10 + (c.toNat - 48) = c.toNat - 48 by simp [valD], Lib.decDigits_one (by omega), hcc]; rfl
    · obtain ⟨z, hz⟩ := ih V hV hd.1 (by simpa using hn)
      by_cases h0 : valD 0 V = 0
      · rw [h0, Lib.decDigits_one (by omega)] at hz
        refine ⟨z + 1, ?_⟩
        rw [h0, Nat.zero_mul, Nat.zero_add, Lib.decDigits_one (by omega), hcc]
        congr 1
        rw [hz, List.replicate_succ']; rfl
      · refine ⟨z, ?_⟩
        rw [Lib.decDigits, dif_neg (by omega), show (valD 0 V * 10 + (c.toNat - 48)) / 10 = valD 0 V by omega, show (valD 0 V * 10 + (c.toNat - 48)) % 10 = c.toNat - 48 by omega, hcc, ← List.append_assoc, ← hz]
theorem val_rep (z : Nat) (D : List UInt8) : valD 0 (List.replicate z 48 ++ D) = valD 0 D := by
  induction z with
  | zero => rfl
  | succ z ih => rw [List.replicate_succ, List.cons_append, valD_cons]; exact ih
theorem pad_val (k u : Nat) : valD 0 (padL k (Lib.decDigits u)) = u := by unfold padL; rw [val_rep, dec_val]
theorem pad_all (k u : Nat) : (padL k (Lib.decDigits u)).all digB = true := by
  unfold padL
  rw [List.all_append, dec_all, Bool.and_true, List.all_eq_true]
  intro x hx
  rw [(List.mem_replicate.1 hx).2]; decide
/-- A text of money: its currency, its sign, its digits. -/
structure CM (s : List UInt8) (c : Nat) (neg : Bool) (W : List UInt8) : Prop where
  lt : c < 8
  dig : W.all digB = true
  len : dgN c + 1 ≤ W.length
  lead : dgN c + 1 < W.length → W.head? ≠ some 48
  neg0 : neg = true → valD 0 W ≠ 0
  text : s = nmL c ++ 32 :: ((if neg then [45] else []) ++ pointL (dgN c) W)
theorem CM.canon {s : List UInt8} {c : Nat} {neg : Bool} {W : List UInt8} (h : CM s c neg W) : W = padL (dgN c) (Lib.decDigits (valD 0 W)) := by
  have hne : W ≠ [] := fun e => by have := h.len; rw [e] at this; simp at this
  obtain ⟨z, hz⟩ := digs_canon W hne h.dig
  have hl := congrArg List.length hz
  rw [List.length_append, List.length_replicate] at hl
  unfold padL
  by_cases h1 : dgN c + 1 < W.length
  · have hz0 : z = 0 := by
      cases z with
      | zero => rfl
      | succ z =>
        have := h.lead h1
        rw [hz, List.replicate_succ] at this
        exact absurd rfl this
    subst hz0
    rw [show dgN c + 1 - (Lib.decDigits (valD 0 W)).length = 0 by omega]
    exact hz
  · have := h.len
    rw [show dgN c + 1 - (Lib.decDigits (valD 0 W)).length = z by omega]
    exact hz
theorem cm_text (c : Nat) (n : Int) (h : c < 8) : CM (textM c n) c (decide (n < 0)) (padL (dgN c) (Lib.decDigits n.natAbs)) := by
  refine ⟨h, pad_all _ _, by rw [padL_len]; omega, ?_, ?_, ?_⟩
  · intro hl
    rw [padL_len] at hl
    have h2 : dgN c + 1 < (Lib.decDigits n.natAbs).length := by omega
    unfold padL
    rw [show dgN c + 1 - (Lib.decDigits n.natAbs).length = 0 by omega]
    show (Lib.decDigits n.natAbs).head? ≠ some 48
    refine dec_head _ ?_
    rcases Nat.eq_zero_or_pos n.natAbs with h0 | h0
    · rw [h0, Lib.decDigits_one (by omega)] at h2
      simp at h2
    · exact h0
  · intro hn
    rw [pad_val]
    have := of_decide_eq_true hn
    omega
  · unfold textM signL
    by_cases hn : n < 0
    · rw [if_pos hn, decide_eq_true hn]; rfl
    · rw [if_neg hn, decide_eq_false hn]; rfl
theorem cm_back {s : List UInt8} {c : Nat} {neg : Bool} {W : List UInt8} (h : CM s c neg W) : s = textM c (if neg then -(valD 0 W : Int) else (valD 0 W : Int)) := by
  have hc := h.canon
  rw [h.text]
  unfold textM signL
  cases neg with
  | false =>
    simp only [Bool.false_eq_true, if_false]
    rw [if_neg (show ¬ ((valD 0 W : Int) < 0) by omega), Int.natAbs_natCast, ← hc]
  | true =>
    have h0 := h.neg0 rfl
    simp only [if_true]
    rw [if_pos (show (-(valD 0 W : Int)) < 0 by omega), show (-(valD 0 W : Int)).natAbs = valD 0 W by omega, ← hc]
/-- Digits with a point, cut at it. -/
theorem point_cut {k : Nat} {W : List UInt8} (hd : W.all digB = true) (hl : k + 1 ≤ W.length) :
    Lib.cut (pointL k W) [46] = (W.take (W.length - k), (if k = 0 then [] else W.drop (W.length - k)), decide (0 < k)) := by
  have hno : ∀ n, (46 : UInt8) ∉ W.take n := fun n hm => by
    have := List.all_eq_true.1 hd 46 (List.mem_of_mem_take hm)
    exact absurd this (by decide)
  unfold pointL
  by_cases h0 : k = 0
  · subst h0
    rw [if_pos rfl, if_pos rfl, List.append_nil, cut_no (hno _)]; rfl
  · rw [if_neg h0, if_neg h0, cut_at (hno _), decide_eq_true (by omega)]
theorem point_head {k : Nat} {W : List UInt8} (hd : W.all digB = true) (hl : k + 1 ≤ W.length) : ∃ x r, pointL k W = x :: r ∧ digB x = true := by
  unfold pointL
  cases W with
  | nil => simp at hl
  | cons x r =>
    have hx : digB x = true := by rw [List.all_cons, Bool.and_eq_true] at hd; exact hd.1
    have : (x :: r).length - k = ((x :: r).length - k - 1) + 1 := by rw [List.length_cons] at hl ⊢; omega
    rw [this, List.take_succ_cons, List.cons_append]
    exact ⟨x, _, rfl, hx⟩
/-- What cash.Parse looks at. -/
structure Good (k : Nat) (minus point : Bool) (whole part : List UInt8) : Prop where
  pt : point = decide (0 < k)
  len : part.length = k
  ne : whole ≠ []
  dw : whole.all digB = true
  da : (whole ++ part).all digB = true
  lead : ¬ (1 < whole.length ∧ whole.head? = some 48)
  neg0 : ¬ (minus = true ∧ valD 0 (whole ++ part) = 0)
theorem good_cm {c : Nat} (hc : c < 8) {s rest plain whole part : List UInt8} {minus point : Bool} (hs : s = nmL c ++ 32 :: rest) (hr : rest = (if minus then [45] else []) ++ plain)
    (hp : (point = true ∧ plain = whole ++ 46 :: part) ∨ (point = false ∧ plain = whole ∧ part = [])) (g : Good (dgN c) minus point whole part) : CM s c minus (whole ++ part) := by
  have hw := List.length_pos_iff.2 g.ne
  refine ⟨hc, g.da, by rw [List.length_append, g.len]; omega, ?_, fun hm h0 => g.neg0 ⟨hm, h0⟩, ?_⟩
  · intro hl
    rw [List.length_append, g.len] at hl
    intro e
    refine g.lead ⟨by omega, ?_⟩
    rw [List.head?_append] at e
    cases hh : whole.head? with
    | none => exact absurd (List.head?_eq_none_iff.1 hh) g.ne
    | some x => rw [hh] at e; simpa using e
  · rw [hs, hr]
    congr 3
    unfold pointL
    have e1 : (whole ++ part).length - dgN c = whole.length := by rw [List.length_append, g.len]; omega
    rw [e1, List.take_left, List.drop_left]
    rcases hp with ⟨h1, h2⟩ | ⟨h1, h2, h3⟩
    · have h4 := g.pt
      rw [h1] at h4
      have := of_decide_eq_true h4.symm
      rw [if_neg (by omega), h2]
    · have h4 := g.pt
      rw [h1] at h4
      have := of_decide_eq_false h4.symm
      rw [if_pos (by omega), List.append_nil, h2]
theorem nm_no32 {c : Nat} (h : c < 8) : (32 : UInt8) ∉ nmL c := fun hm => nmL_abc h 32 hm rfl
theorem cm_cut {c : Nat} {s W : List UInt8} {neg : Bool} (h : CM s c neg W) : Lib.cut s [32] = (nmL c, (if neg then [45] else []) ++ pointL (dgN c) W, true) := by
  rw [h.text, cut_at (nm_no32 h.lt)]
theorem cm_sign {c : Nat} {s W : List UInt8} {neg : Bool} (h : CM s c neg W) : Lib.hasPrefix ((if neg then [45] else []) ++ pointL (dgN c) W) [45] = neg ∧ Lib.trimPrefix ((if neg then [45] else []) ++ pointL (dgN c) W) [45] = pointL (dgN c) W := by
  obtain ⟨x, r, hx, hdx⟩ := point_head h.dig h.len
  cases neg with
  | true =>
    simp only [if_true]
    refine ⟨by simp [Lib.hasPrefix, List.isPrefixOf], by simp [Lib.trimPrefix, Lib.hasPrefix, List.isPrefixOf]⟩
  | false =>
    simp only [Bool.false_eq_true, if_false, List.nil_append]
    have hp : Lib.hasPrefix (pointL (dgN c) W) [45] = false := by
      rw [hx]
      have : x ≠ 45 := fun e => by rw [e] at hdx; exact absurd hdx (by decide)
      simp [Lib.hasPrefix, List.isPrefixOf]
      exact fun e => this e.symm
    exact ⟨hp, by unfold Lib.trimPrefix; rw [hp]; simp⟩
theorem whole_part {k : Nat} {W : List UInt8} : W.take (W.length - k) ++ (if k = 0 then [] else W.drop (W.length - k)) = W := by
  by_cases h : k = 0
  · subst h; simp
  · rw [if_neg h, List.take_append_drop]
theorem cm_good {c : Nat} {s W : List UInt8} {neg : Bool} (h : CM s c neg W) : Good (dgN c) neg (decide (0 < dgN c)) (W.take (W.length - dgN c)) (if dgN c = 0 then [] else W.drop (W.length - dgN c)) := by
  have hl := h.len
  have hwp := whole_part (k := dgN c) (W := W)
  refine ⟨rfl, ?_, ?_, ?_, by rw [hwp]; exact h.dig, ?_, fun ⟨h1, h2⟩ => h.neg0 h1 (by rw [hwp] at h2; exact h2)⟩
  · split
    · simp; omega
    · rw [List.length_drop]; omega
  · intro e
    have := congrArg List.length e
    rw [List.length_take, List.length_nil] at this
    omega
  · rw [List.all_eq_true]
    exact fun x hx => List.all_eq_true.1 h.dig x (List.mem_of_mem_take hx)
  · rintro ⟨h1, h2⟩
    rw [List.length_take] at h1
    refine h.lead (by omega) ?_
    cases W with
    | nil => simp at hl
    | cons x r =>
      have : (x :: r).length - dgN c = ((x :: r).length - dgN c - 1) + 1 := by omega
      rw [this, List.take_succ_cons, List.head?_cons] at h2
      rw [List.head?_cons]; exact h2
/-- Which money a text is, what does not fit, or that it is none. -/
def valM (neg : Bool) (W : List UInt8) : Int := if neg then -(valD 0 W : Int) else (valD 0 W : Int)
def MP (s : List UInt8) (cur n e : Int) : Prop :=
  (∃ c neg W, CM s c neg W ∧ ((I64 (valM neg W) ∧ cur = (c : Nat) ∧ n = valM neg W ∧ e = 0) ∨ (¬ I64 (valM neg W) ∧ cur = 0 ∧ n = 0 ∧ e = 11))) ∨ (e = 13 ∧ cur = 0 ∧ n = 0 ∧ ∀ c neg W, ¬ CM s c neg W)
theorem cm_one {s : List UInt8} {c c' : Nat} {neg neg' : Bool} {W W' : List UInt8} (h : CM s c neg W) (g : CM s c' neg' W') : c = c' ∧ neg = neg' ∧ W = W' := by
  have h1 := cm_cut h
  rw [cm_cut g] at h1
  have hc := nmL_inj g.lt h.lt (Prod.mk.inj h1).1
  subst hc
  have h2 := (Prod.mk.inj (Prod.mk.inj h1).2).1
  have hs := cm_sign h
  have gs := cm_sign g
  rw [← h2] at hs
  have e1 : neg = neg' := hs.1.symm.trans gs.1
  have e2 : pointL (dgN c') W = pointL (dgN c') W' := hs.2.symm.trans gs.2
  refine ⟨rfl, e1, ?_⟩
  have e3 := congrArg (fun l => Lib.cut l [46]) e2
  have e4 : Lib.cut (pointL (dgN c') W) [46] = Lib.cut (pointL (dgN c') W') [46] := e3
  rw [point_cut h.dig h.len, point_cut g.dig g.len] at e4
  rw [← whole_part (k := dgN c') (W := W), ← whole_part (k := dgN c') (W := W'), (Prod.mk.inj e4).1, (Prod.mk.inj (Prod.mk.inj e4).2).1]
theorem MP_one {s : List UInt8} {c n e c' n' e' : Int} (h : MP s c n e) (g : MP s c' n' e') : c = c' ∧ n = n' ∧ e = e' := by
  rcases h with ⟨a, b, W, hC, hr⟩ | ⟨h1, h2, h3, h4⟩ <;> rcases g with ⟨a', b', W', gC, gr⟩ | ⟨g1, g2, g3, g4⟩
  · obtain ⟨rfl, rfl, rfl⟩ := cm_one hC gC
    rcases hr with ⟨i, rfl, rfl, rfl⟩ | ⟨i, rfl, rfl, rfl⟩ <;> rcases gr with ⟨j, rfl, rfl, rfl⟩ | ⟨j, rfl, rfl, rfl⟩
    · exact ⟨rfl, rfl, rfl⟩
    · exact absurd i j
    · exact absurd j i
    · exact ⟨rfl, rfl, rfl⟩
  · exact absurd hC (g4 _ _ _)
  · exact absurd gC (h4 _ _ _)
  · exact ⟨by rw [h2, g2], by rw [h3, g3], by rw [h1, g1]⟩
theorem MP_text (c : Nat) (n : Int) (hc : c < 8) (hn : I64 n) : MP (textM c n) (c : Nat) n 0 := by
  refine .inl ⟨c, decide (n < 0), _, cm_text c n hc, .inl ?_⟩
  have hv : valM (decide (n < 0)) (padL (dgN c) (Lib.decDigits n.natAbs)) = n := by
    unfold valM
    rw [pad_val]
    by_cases h : n < 0
    · rw [if_pos (decide_eq_true h)]; omega
    · rw [if_neg (by rw [decide_eq_false h]; simp)]; omega
  rw [hv]
  exact ⟨hn, rfl, rfl, rfl⟩
theorem MP_back {s : List UInt8} {cur n : Int} (h : MP s cur n 0) : ∃ c : Nat, c < 8 ∧ cur = c ∧ I64 n ∧ s = textM c n := by
  rcases h with ⟨c, neg, W, hC, ⟨hi, rfl, rfl, -⟩ | ⟨-, -, -, h⟩⟩ | ⟨h, -⟩
  · exact ⟨c, hC.lt, rfl, hi, cm_back hC⟩
  · cases h
  · cases h
theorem MP_err {s : List UInt8} {cur n e : Int} (h : MP s cur n e) (he : e ≠ 0) : cur = 0 ∧ n = 0 := by
  rcases h with ⟨c, neg, W, hC, ⟨_, _, _, h⟩ | ⟨_, h1, h2, _⟩⟩ | ⟨_, h1, h2, _⟩
  · exact absurd h he
  · exact ⟨h1, h2⟩
  · exact ⟨h1, h2⟩
end Go.Proofs.YtckeaibamgkegaaDoor
