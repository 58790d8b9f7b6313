/- texts of numbers, plain: digits, decimals, what Atoi makes of them, a cut at a byte -/
import Derived.Test.YtckeaibamgkegaaDoorWords
import Derived.Lib.ItoaLen
import Derived.Lib.AtoiAllCases
import Derived.Lib.IndexMore
set_option linter.all false
namespace Go.Proofs.YtckeaibamgkegaaDoor
open Go.RowKit
set_option maxRecDepth 100000

def digB (c : UInt8) : Bool := decide (48 ≤ c.toNat ∧ c.toNat ≤ 57)
/-- The number that digits are. -/
def valD (acc : Nat) (l : List UInt8) : Nat := l.foldl (fun a c => a * 10 + (c.toNat - 48)) acc
theorem valD_ge : ∀ (l : List UInt8) (acc : Nat), acc ≤ valD acc l
  | [], acc => Nat.le_refl _
  | c :: r, acc => by
    have := valD_ge r (acc * 10 + (c.toNat - 48))
    unfold valD at this ⊢
    rw [List.foldl_cons]; omega
theorem valD_snoc (l : List UInt8) (c : UInt8) (acc : Nat) : valD acc (l ++ [c]) = valD acc l * 10 + (c.toNat - 48) := by unfold valD; rw [List.foldl_append]; rfl
theorem valD_app (a b : List UInt8) (acc : Nat) : valD acc (a ++ b) = valD (valD acc a) b := by unfold valD; rw [List.foldl_append]
theorem valD_cons (c : UInt8) (l : List UInt8) (acc : Nat) : valD acc (c :: l) = valD (acc * 10 + (c.toNat - 48)) l := by unfold valD; rw [List.foldl_cons]
theorem parse_ok (l : List UInt8) : ∀ (acc : Nat), l.all digB = true → valD acc l < 18446744073709551616 → Lib.parseUint10 acc l = .ok (valD acc l) := by
  induction l with
  | nil => intro acc _ _; rw [Lib.parseUint10]; simp only [valD, List.foldl_nil]
  | cons c r ih =>
    intro acc h hv
    rw [List.all_cons, Bool.and_eq_true] at h
    have hc := of_decide_eq_true h.1
    rw [valD_cons] at hv ⊢
    have hg := valD_ge r (acc * 10 + (c.toNat - 48))
    have h1 : ¬ (1844674407370955162 ≤ acc) := by omega
    have h2 : ¬ (18446744073709551616 ≤ acc * 10 + (c.toNat - 48)) := by omega
    rw [Lib.parseUint10, if_pos hc, if_neg h1, if_neg h2]
    exact ih _ h.2 hv
theorem parse_range (l : List UInt8) : ∀ (acc : Nat), l.all digB = true → acc < 18446744073709551616 → 18446744073709551616 ≤ valD acc l → Lib.parseUint10 acc l = .range := by
  induction l with
  | nil => intro acc _ ha hv; unfold valD at hv; rw [List.foldl_nil] at hv; omega
  | cons c r ih =>
    intro acc h ha hv
    rw [List.all_cons, Bool.and_eq_true] at h
    have hc := of_decide_eq_true h.1
    rw [valD_cons] at hv
    rw [Lib.parseUint10, if_pos hc]
    by_cases h1 : 1844674407370955162 ≤ acc
    · rw [if_pos h1]
    · rw [if_neg h1]
      by_cases h2 : 18446744073709551616 ≤ acc * 10 + (c.toNat - 48)
      · rw [if_pos h2]
      · rw [if_neg h2]
        exact ih _ h.2 (by omega) hv
/-- What Atoi makes of digits. -/
theorem atoi_digits {l : List UInt8} (hl : l ≠ []) (h : l.all digB = true) : Lib.atoiAll l = if valD 0 l ≤ 9223372036854775807 then .ok (valD 0 l : Int) else .range := by
  cases l with
  | nil => exact absurd rfl hl
  | cons c r =>
    have hc := of_decide_eq_true ((Bool.and_eq_true _ _).mp (by rw [List.all_cons] at h; exact h)).1
    rw [Lib.atoiAll_plain c r (by omega) (by omega)]
    unfold Lib.parseMag
    rw [if_neg (by simp)]
    by_cases hv : valD 0 (c :: r) < 18446744073709551616
    · rw [parse_ok _ _ h hv]
      by_cases h2 : valD 0 (c :: r) ≤ 9223372036854775807
      · rw [if_pos h2]
        unfold Lib.signless
        simp only
        rw [if_neg (by omega)]
      · rw [if_neg h2]
        unfold Lib.signless
        simp only
        rw [if_pos (by omega)]
    · rw [parse_range _ _ h (by omega) (by omega), if_neg (by omega)]
      rfl
theorem atoi_minus {l : List UInt8} (hl : l ≠ []) (h : l.all digB = true) : Lib.atoiAll (45 :: l) = if valD 0 l ≤ 9223372036854775808 then .ok (-(valD 0 l : Int)) else .range := by
  rw [Lib.atoiAll_minus]
  unfold Lib.parseMag
  rw [if_neg hl]
  by_cases hv : valD 0 l < 18446744073709551616
  · rw [parse_ok _ _ h hv]
    by_cases h2 : valD 0 l ≤ 9223372036854775808
    · rw [if_pos h2]
      unfold Lib.signed
      simp only
      rw [if_neg (by omega)]
    · rw [if_neg h2]
      unfold Lib.signed
      simp only
      rw [if_pos (by omega)]
  · rw [parse_range _ _ h (by omega) (by omega), if_neg (by omega)]
    rfl

/-! Decimals. -/
theorem digB_of {d : Nat} (h : d < 10) : digB (UInt8.ofNat (48 + d)) = true := by
  unfold digB
  rw [decide_eq_true_eq, UInt8.toNat_ofNat']
  omega
theorem dig_nat {d : Nat} (h : d < 10) : (UInt8.ofNat (48 + d)).toNat - 48 = d := by
  rw [UInt8.toNat_ofNat']; omega
theorem dec_all (u : Nat) : (Lib.decDigits u).all digB = true := by
  induction u using Nat.strongRecOn with
  | _ u ih =>
    by_cases h : u < 10
    · rw [Lib.decDigits, dif_pos h, List.all_cons, digB_of h]; rfl
    · rw [Lib.decDigits, dif_neg h, List.all_append, ih (u / 10) (by omega), List.all_cons, digB_of (by omega)]; rfl
theorem dec_ne (u : Nat) : Lib.decDigits u ≠ [] := by
  intro e
  have := Lib.decDigits_length u
  have := Lib.nDigits_pos u
  rw [e] at *
  simp at *
  omega
theorem dec_val (u : Nat) : valD 0 (Lib.decDigits u) = u := by
  induction u using Nat.strongRecOn with
  | _ u ih =>
    by_cases h : u < 10
    · rw [Lib.decDigits, dif_pos h, valD_cons, dig_nat h]; simp [valD]
    · rw [Lib.decDigits, dif_neg h, valD_snoc, ih (u / 10) (by omega), dig_nat (by omega)]; omega
theorem atoi_itoa {n : Int} (h : -9223372036854775808 ≤ n ∧ n ≤ 9223372036854775807) : Lib.atoiAll (Lib.itoa n) = .ok n := by
  by_cases h0 : 0 ≤ n
  · obtain ⟨u, rfl⟩ := Int.eq_ofNat_of_zero_le h0
    rw [Lib.itoa_nonneg, atoi_digits (dec_ne u) (dec_all u), dec_val, if_pos (by omega)]
  · obtain ⟨u, rfl⟩ : ∃ u : Nat, n = -(u : Int) := ⟨n.natAbs, by omega⟩
    rw [Lib.itoa_neg u (by omega), atoi_minus (dec_ne u) (dec_all u), dec_val, if_pos (by omega)]
theorem itoa_inj {n m : Int} (h : -9223372036854775808 ≤ n ∧ n ≤ 9223372036854775807) (g : -9223372036854775808 ≤ m ∧ m ≤ 9223372036854775807) (e : Lib.itoa n = Lib.itoa m) : n = m := by
  have h1 := atoi_itoa h
  rw [e, atoi_itoa g] at h1
  exact (Lib.NumEnd.ok.inj h1).symm
theorem dec_len {u : Nat} (h : u ≤ 9223372036854775808) : (Lib.decDigits u).length ≤ 19 := by
  rw [Lib.decDigits_length]
  refine Nat.le_of_not_lt (fun hc => ?_)
  have h1 : ∀ (k u : Nat), k + 1 ≤ Lib.nDigits u → k = 0 ∨ 10 ^ k ≤ u := by
    intro k
    induction k with
    | zero => intro u _; exact .inl rfl
    | succ k ih =>
      intro u hk
      by_cases h10 : u < 10
      · rw [Lib.nDigits_small h10] at hk; omega
      · rw [Lib.nDigits_big h10] at hk
        refine .inr ?_
        rcases ih (u / 10) (by omega) with rfl | h2
        · rw [Nat.zero_add, Nat.pow_one]; omega
        · rw [Nat.pow_succ]; omega
  rcases h1 19 u (by omega) with h2 | h2
  · omega
  · have : (10 : Nat) ^ 19 = 10000000000000000000 := by decide
    omega
theorem itoa_20 {n : Int} (h : -9223372036854775808 ≤ n ∧ n ≤ 9223372036854775807) : (Lib.itoa n).length ≤ 20 ∧ Lib.itoa n ≠ [] := by
  by_cases h0 : 0 ≤ n
  · obtain ⟨u, rfl⟩ := Int.eq_ofNat_of_zero_le h0
    rw [Lib.itoa_nonneg]
    have := dec_len (u := u) (by omega)
    exact ⟨by omega, dec_ne u⟩
  · obtain ⟨u, rfl⟩ : ∃ u : Nat, n = -(u : Int) := ⟨n.natAbs, by omega⟩
    rw [Lib.itoa_neg u (by omega)]
    have := dec_len (u := u) (by omega)
    rw [List.length_cons]
    exact ⟨by omega, by simp⟩
/-- A byte that is no digit and no sign is in no decimal. -/
theorem itoa_no {c : UInt8} (h : digB c = false) (h2 : c ≠ 45) (n : Int) : c ∉ Lib.itoa n := by
  have hd : ∀ u, c ∉ Lib.decDigits u := fun u hm => by
    have := List.all_eq_true.1 (dec_all u) c hm
    rw [h] at this; cases this
  unfold Lib.itoa
  split
  · intro hm
    rcases List.mem_cons.1 hm with e | e
    · exact h2 e
    · exact hd _ e
  · exact hd _

/-! A cut at a byte. -/
theorem occ_at (s : List UInt8) (c : UInt8) (j : Nat) : Lib.occAt s [c] j = decide (s[j]? = some c) := by
  unfold Lib.occAt
  rcases Nat.lt_or_ge j s.length with h | h
  · rw [List.drop_eq_getElem_cons h, List.getElem?_eq_getElem h]
    simp only [List.isPrefixOf, Bool.and_true, Option.some.injEq]
    rw [Bool.eq_iff_iff, beq_iff_eq, decide_eq_true_eq]
    exact ⟨fun e => e.symm, fun e => e.symm⟩
  · rw [List.drop_eq_nil_of_le h, List.getElem?_eq_none h]
    simp [List.isPrefixOf]
theorem cut_at {a b : List UInt8} {c : UInt8} (h : c ∉ a) : Lib.cut (a ++ c :: b) [c] = (a, b, true) := by
  have hi : Lib.index (a ++ c :: b) [c] = (a.length : Nat) := by
    refine Lib.index_first (by simp) (by rw [occ_at]; simp) (fun j hj => ?_)
    rw [occ_at, List.getElem?_append_left hj, List.getElem?_eq_getElem hj, decide_eq_false_iff_not]
    intro e
    have := Option.some.inj e
    exact h (this ▸ List.getElem_mem hj)
  unfold Lib.cut
  rw [hi, if_pos (by omega), Int.toNat_natCast]
  simp
theorem cut_no {s : List UInt8} {c : UInt8} (h : c ∉ s) : Lib.cut s [c] = (s, [], false) := by
  have hi : Lib.index s [c] = -1 := Lib.index_none (fun j hj => by
    rw [occ_at, decide_eq_false_iff_not]
    intro e
    exact h (List.mem_of_getElem? e))
  unfold Lib.cut
  rw [hi, if_neg (by omega)]
theorem split_first (s : List UInt8) (c : UInt8) : c ∉ s ∨ ∃ a b, s = a ++ c :: b ∧ c ∉ a := by
  induction s with
  | nil => exact .inl (by simp)
  | cons x r ih =>
    by_cases hx : x = c
    · subst hx; exact .inr ⟨[], r, rfl, by simp⟩
    · rcases ih with h | ⟨a, b, rfl, h⟩
      · exact .inl (by simp [h]; exact fun e => hx e.symm)
      · exact .inr ⟨x :: a, b, rfl, by simp [h]; exact fun e => hx e.symm⟩

/-! Ratios as texts. -/
def textR (n d : Int) : List UInt8 := Lib.itoa n ++ (if d = 1 then [] else 47 :: Lib.itoa d)
theorem no47 (n : Int) : (47 : UInt8) ∉ Lib.itoa n := itoa_no (by decide) (by decide) n
theorem itoa_one : Lib.itoa 1 = [49] := by rw [show (1 : Int) = ((1 : Nat) : Int) from rfl, Lib.itoa_nonneg, Lib.decDigits_one (by omega)]; rfl
theorem textR_inj {n d n' d' : Int} (h1 : -9223372036854775808 ≤ n ∧ n ≤ 9223372036854775807) (h2 : -9223372036854775808 ≤ d ∧ d ≤ 9223372036854775807) (g1 : -9223372036854775808 ≤ n' ∧ n' ≤ 9223372036854775807) (g2 : -9223372036854775808 ≤ d' ∧ d' ≤ 9223372036854775807)
    (e : textR n d = textR n' d') : n = n' ∧ d = d' := by
  have hc := congrArg (fun s => Lib.cut s [47]) e
  unfold textR at hc
  by_cases hd : d = 1 <;> by_cases hd' : d' = 1
  · rw [if_pos hd, if_pos hd', List.append_nil, List.append_nil, cut_no (no47 n), cut_no (no47 n')] at hc
    exact ⟨itoa_inj h1 g1 (Prod.mk.inj hc).1, by rw [hd, hd']⟩
  · rw [if_pos hd, if_neg hd', List.append_nil, cut_no (no47 n), cut_at (no47 n')] at hc
    exact absurd (Prod.mk.inj (Prod.mk.inj hc).2).2 (by decide)
  · rw [if_neg hd, if_pos hd', List.append_nil, cut_at (no47 n), cut_no (no47 n')] at hc
    exact absurd (Prod.mk.inj (Prod.mk.inj hc).2).2 (by decide)
  · rw [if_neg hd, if_neg hd', cut_at (no47 n), cut_at (no47 n')] at hc
    exact ⟨itoa_inj h1 g1 (Prod.mk.inj hc).1, itoa_inj h2 g2 (Prod.mk.inj (Prod.mk.inj hc).2).1⟩
end Go.Proofs.YtckeaibamgkegaaDoor
