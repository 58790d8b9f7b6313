/- the reference's Parse, plain: when a text is no money -/
import Derived.Test.YtckeaibamgkegaaDoorCashU
set_option linter.all false
namespace Go.Proofs.YtckeaibamgkegaaDoor
open Go.RowKit
set_option maxRecDepth 100000

theorem cm_size {s W : List UInt8} {c : Nat} {neg : Bool} (h : CM s c neg W) : 5 ≤ s.length ∧ s[3]? = some 32 ∧ s.take 3 = nmL c := by
  obtain ⟨x, r, hx, -⟩ := point_head h.dig h.len
  have h3 := nmL_len h.lt
  rw [h.text]
  refine ⟨?_, ?_, ?_⟩
  · rw [List.length_append, h3, List.length_cons, List.length_append, hx, List.length_cons]; omega
  · rw [List.getElem?_append_right (by omega), h3]; rfl
  · rw [List.take_append_of_le_length (by omega), List.take_of_length_le (by omega)]
theorem no_short {s : List UInt8} (h : s.length < 5) : MP s 0 0 13 := .inr ⟨rfl, rfl, rfl, fun c neg W hC => by have := (cm_size hC).1; omega⟩
theorem no_space {s : List UInt8} (h : s[3]? ≠ some 32) : MP s 0 0 13 := .inr ⟨rfl, rfl, rfl, fun c neg W hC => h (cm_size hC).2.1⟩
theorem no_name {s : List UInt8} (h : ∀ c, c < 8 → nmL c ≠ s.take 3) : MP s 0 0 13 := .inr ⟨rfl, rfl, rfl, fun c neg W hC => h c hC.lt (cm_size hC).2.2.symm⟩
/-- A text of this form is money only so. -/
theorem cm_only {s plain W : List UInt8} {c c' : Nat} {minus neg : Bool} (hc : c < 8) (hs : s = nmL c ++ 32 :: ((if minus then [45] else []) ++ plain)) (hm : minus = false → plain.head? ≠ some 45) (h : CM s c' neg W) :
    c' = c ∧ neg = minus ∧ plain = pointL (dgN c) W := by
  have h1 := cm_cut h
  rw [hs, cut_at (nm_no32 hc)] at h1
  obtain rfl := nmL_inj hc h.lt (Prod.mk.inj h1).1
  have h2 := (Prod.mk.inj (Prod.mk.inj h1).2).1
  have g := cm_sign h
  rw [← h2] at g
  cases minus with
  | true =>
    simp only [if_true] at g
    refine ⟨rfl, ?_, ?_⟩
    · rw [← g.1]; simp [Lib.hasPrefix, List.isPrefixOf]
    · rw [← g.2]; simp [Lib.trimPrefix, Lib.hasPrefix, List.isPrefixOf]
  | false =>
    simp only [Bool.false_eq_true, if_false, List.nil_append] at g
    have hp : Lib.hasPrefix plain [45] = false := by
      cases plain with
      | nil => rfl
      | cons x r =>
        have : x ≠ 45 := fun e => hm rfl (by rw [e]; rfl)
        simp [Lib.hasPrefix, List.isPrefixOf]
        exact fun e => this e.symm
    refine ⟨rfl, by rw [← g.1, hp], ?_⟩
    rw [← g.2]
    unfold Lib.trimPrefix; rw [hp]; simp
def unP (k : Nat) (p : List UInt8) : List UInt8 := p.take (p.length - k - 1) ++ p.drop (p.length - k)
theorem pointL_zero (W : List UInt8) : pointL 0 W = W := by unfold pointL; simp
theorem pointL_pos {k : Nat} {W : List UInt8} (hk : 0 < k) (h : k + 1 ≤ W.length) : (pointL k W).length = W.length + 1 ∧ (pointL k W)[(pointL k W).length - k - 1]? = some 46 ∧ unP k (pointL k W) = W := by
  have e : pointL k W = W.take (W.length - k) ++ 46 :: W.drop (W.length - k) := by unfold pointL; rw [if_neg (by omega)]
  have hl : (pointL k W).length = W.length + 1 := by rw [e, List.length_append, List.length_take, List.length_cons, List.length_drop]; omega
  have ht : (W.take (W.length - k)).length = W.length - k := by rw [List.length_take]; omega
  refine ⟨hl, ?_, ?_⟩
  · rw [hl, e, List.getElem?_append_right (by omega), ht, show W.length + 1 - k - 1 - (W.length - k) = 0 by omega]; rfl
  · unfold unP
    rw [hl, e, show W.length + 1 - k - 1 = W.length - k by omega, show W.length + 1 - k = (W.length - k) + 1 by omega]
    rw [List.take_append_of_le_length (by omega), List.take_of_length_le (by omega), List.drop_append, List.drop_of_length_le (by omega), ht, show W.length - k + 1 - (W.length - k) = 1 by omega, List.drop_succ_cons, List.drop_zero, List.nil_append]
    exact List.take_append_drop _ _
theorem unP_back {k : Nat} {p : List UInt8} (hk : 0 < k) (hl : k + 2 ≤ p.length) (h : p[p.length - k - 1]? = some 46) : p = pointL k (unP k p) ∧ k + 1 ≤ (unP k p).length := by
  have hlen : (unP k p).length = p.length - 1 := by unfold unP; rw [List.length_append, List.length_take, List.length_drop]; omega
  refine ⟨?_, by omega⟩
  have ht : (p.take (p.length - k - 1)).length = p.length - k - 1 := by rw [List.length_take]; omega
  unfold pointL
  rw [if_neg (by omega), hlen, show p.length - 1 - k = p.length - k - 1 by omega]
  unfold unP
  rw [List.take_append_of_le_length (by omega), List.take_of_length_le (by omega), List.drop_append_of_le_length (by omega), List.drop_of_length_le (by omega), List.nil_append]
  have h1 : p.drop (p.length - k - 1) = 46 :: p.drop (p.length - k) := by
    obtain ⟨hlt, he⟩ := List.getElem?_eq_some_iff.1 h
    rw [List.drop_eq_getElem_cons hlt, he, show p.length - k - 1 + 1 = p.length - k by omega]
  rw [← h1, List.take_append_drop]
theorem no_point {s plain : List UInt8} {c : Nat} {minus : Bool} (hc : c < 8) (hs : s = nmL c ++ 32 :: ((if minus then [45] else []) ++ plain)) (hm : minus = false → plain.head? ≠ some 45)
    (hk : 0 < dgN c) (h : plain.length < dgN c + 2 ∨ plain[plain.length - dgN c - 1]? ≠ some 46) : MP s 0 0 13 := .inr ⟨rfl, rfl, rfl, fun c' neg W hC => by
  obtain ⟨rfl, rfl, hp⟩ := cm_only hc hs hm hC
  obtain ⟨h1, h2, -⟩ := pointL_pos hk hC.len
  rw [← hp] at h1 h2
  rcases h with h | h
  · have := hC.len; omega
  · exact h h2⟩
/-- The digits, the sign, nothing else: what the reference's Parse answers behind its point. -/
theorem mp_digits {s plain V : List UInt8} {c : Nat} {minus : Bool} (hc : c < 8) (hs : s = nmL c ++ 32 :: ((if minus then [45] else []) ++ plain)) (hm : minus = false → plain.head? ≠ some 45)
    (hV : (0 < dgN c ∧ plain = pointL (dgN c) V ∧ dgN c + 1 ≤ V.length) ∨ (dgN c = 0 ∧ plain = V)) :
    ((!V.isEmpty && V.all digB) = false → MP s 0 0 13) ∧ ((dgN c + 1 < V.length ∧ V.head? = some 48) → MP s 0 0 13) ∧ ((minus = true ∧ valD 0 V = 0) → MP s 0 0 13) ∧
    ((!V.isEmpty && V.all digB) = true → ¬ (dgN c + 1 < V.length ∧ V.head? = some 48) → ¬ (minus = true ∧ valD 0 V = 0) → (I64 (valM minus V) → MP s (c : Nat) (valM minus V) 0) ∧ (¬ I64 (valM minus V) → MP s 0 0 11)) := by
  have only : ∀ c' neg W, CM s c' neg W → c' = c ∧ neg = minus ∧ W = V := fun c' neg W hC => by
    obtain ⟨rfl, rfl, hp⟩ := cm_only hc hs hm hC
    refine ⟨rfl, rfl, ?_⟩
    rcases hV with ⟨hk, h1, h2⟩ | ⟨hk, h1⟩
    · rw [← (pointL_pos hk hC.len).2.2, ← (pointL_pos hk h2).2.2, ← hp, ← h1]
    · rw [hk, pointL_zero] at hp; rw [← hp, h1]
  refine ⟨fun h => .inr ⟨rfl, rfl, rfl, fun c' neg W hC => ?_⟩, fun h => .inr ⟨rfl, rfl, rfl, fun c' neg W hC => ?_⟩, fun h => .inr ⟨rfl, rfl, rfl, fun c' neg W hC => ?_⟩, fun h1 h2 h3 => ?_⟩
  · obtain ⟨rfl, rfl, rfl⟩ := only _ _ _ hC
    have h4 : W.isEmpty = false := by
      have := hC.len
      cases W with | nil => simp at this | cons _ _ => rfl
    rw [h4, hC.dig] at h
    cases h
  · obtain ⟨rfl, rfl, rfl⟩ := only _ _ _ hC
    exact hC.lead h.1 h.2
  · obtain ⟨rfl, rfl, rfl⟩ := only _ _ _ hC
    exact hC.neg0 h.1 h.2
  · rw [Bool.and_eq_true] at h1
    have hne : 0 < V.length := by
      cases V with | nil => simp at h1 | cons _ _ => simp
    have hC : CM s c minus V := by
      refine ⟨hc, h1.2, ?_, fun ha hb => h2 ⟨ha, hb⟩, fun ha hb => h3 ⟨ha, hb⟩, ?_⟩
      · rcases hV with ⟨_, _, h⟩ | ⟨h, _⟩ <;> omega
      · rw [hs]
        rcases hV with ⟨_, h, _⟩ | ⟨h, h5⟩
        · rw [← h]
        · rw [h, pointL_zero, ← h5]
    exact ⟨fun hi => .inl ⟨c, minus, V, hC, .inl ⟨hi, rfl, rfl, rfl⟩⟩, fun hi => .inl ⟨c, minus, V, hC, .inr ⟨hi, rfl, rfl, rfl⟩⟩⟩
end Go.Proofs.YtckeaibamgkegaaDoor
