/- term.Below: the places of the terms below a node -/
import Derived.Test.YtkjabiabeemfhaaGreatDoorV21
import Derived.Test.YtkjabiabeemfhaaGreatDoorV19
import Derived.Test.YtkjabiabeemfhaaGreatDoorV22
import Derived.Test.YtkjabiabeemfhaaGreatDoorV14
import Derived.Test.YtkjabiabeemfhaaGreatDoorV9
import Derived.Test.YtkjabiabeemfhaaGreatDoorV20
import Derived.RangeFuncBox
import Derived.RangeFuncNested
import Derived.OwnWalkIn
set_option linter.all false
set_option linter.all false
section
namespace Go.Proofs.YtkjabiabeemfhaaGreatDoor
open Go.RowKit
set_option maxRecDepth 100000
structure HdOk (ts : List Nd) (h : Hd) : Prop where
  tm : TmAt ts h.pl h.T
  so : h.T.sorted = true
  mc : makesI h.T.root.op = 2
  d0 : 0 ≤ h.day
  d1 : h.day ≤ 73048
  va : Valid h.n h.d
structure EnvOk (env : Env) : Prop where
  get : ∀ day, GetOk (env.get day)
  cho : ∀ k d p, env.cho k d = some p → p = 1 ∨ p = 2
theorem sorted_kid {x : Nd} {l : List Tm} (h : (Tm.node x l).sorted = true) {i : Nat} (hi : i < l.length) : (l[i]).sorted = true ∧ makesI (l[i]).root.op = belI x.op i := by
  unfold Tm.sorted at h
  simp only [Bool.and_eq_true] at h
  obtain ⟨h1, h2⟩ := h
  unfold Tm.top at h1
  exact ⟨(Tm.sorteds_iff l).1 h2 _ (List.getElem_mem _), (of_decide_eq_true h1) i hi⟩
theorem kidH_at {l : List Tm} {k i : Nat} {day n d : Int} (hi : i < l.length) : kidH l k i day n d = [⟨l[i], placeN k l i, day, n, d⟩] := by
  unfold kidH; rw [List.getElem?_eq_getElem hi]
theorem kidH_ok {ts : List Nd} {x : Nd} {l : List Tm} {k i : Nat} {day n d : Int} (hT : TmAt ts k (.node x l)) (hs : (Tm.node x l).sorted = true) (hb : belI x.op i = 2) (h0 : 0 ≤ day) (h1 : day ≤ 73048) (hv : Valid n d) : ∀ g ∈ kidH l k i day n d, HdOk ts g := by
  intro g hg
  unfold kidH at hg
  split at hg
  · rename_i t ht
    obtain ⟨hi, rfl⟩ := List.getElem?_eq_some_iff.1 ht
    obtain rfl := List.mem_singleton.1 hg
    obtain ⟨h2, h3⟩ := sorted_kid hs hi
    exact ⟨placeN_at hT hi, h2, by rw [h3, hb], h0, h1, hv⟩
  · cases hg
theorem kid_num {ts : List Nd} {T : Tm} (hG : Good ts T) (hok : ∀ x ∈ ts, x.ok) {x : Nd} {l : List Tm} {k i : Nat} (hT : TmAt ts k (.node x l)) (hs : (Tm.node x l).sorted = true) (hi : i < l.length) (hb : belI x.op i = 1) :
    TmAt ts (placeN k l i) l[i] ∧ NumT l[i] ∧ wrongV ts (placeN k l i : Nat) = 0 := by
  obtain ⟨h2, h3⟩ := sorted_kid hs hi
  have h4 := placeN_at hT hi
  rw [hb] at h3
  refine ⟨h4, numT_of hG.fields hok h4 h2 h3, ?_⟩
  have hle := h4.le
  have hp := (l[i]).size_pos
  unfold wrongV
  rw [if_neg (by rw [hG.ofE]; simp), if_neg (by omega), if_pos]
  obtain ⟨y, m, hy⟩ : ∃ y m, l[i] = Tm.node y m := ⟨(l[i]).root, (l[i]).kids, by generalize l[i] = t; cases t; rfl⟩
  rw [hy] at h4 h3
  rw [Int.toNat_natCast, h4.root.1]
  exact h3
theorem firstD_range {cho : Int → Int → Option Int} {key a b q : Int} (h : firstD cho key a b = some q) : 0 ≤ q ∧ q ≤ 73048 ∧ a ≤ q ∧ q ≤ b ∧ cho key q = some 1 := by
  unfold firstD at h
  rw [Option.map_eq_some_iff] at h
  obtain ⟨i, hi, rfl⟩ := h
  have h1 := List.mem_of_find?_eq_some hi
  have h2 := List.find?_some hi
  rw [List.mem_range] at h1
  simp only [decide_eq_true_eq] at h2
  exact ⟨by omega, by omega, h2.1, h2.2.1, h2.2.2⟩
theorem contract_ops {op : Int} (h : makesI op = 2) : 9 ≤ op ∧ op ≤ 17 := by
  unfold makesI at h
  split at h
  · cases h
  · split at h
    · cases h
    · omega
theorem fields_when {x : Nd} (h : fieldsB x = true) (h2 : x.op = 14) : 0 ≤ x.a ∧ x.a ≤ 73048 := by
  unfold fieldsB at h
  rw [h2] at h
  simp [limB, withinB] at h
  omega
theorem rat_step {n d p q : Int} (h1 : Valid n d) (h2 : Valid p q) (h : ¬ rE (n * p) (d * q) ≠ 0) : Valid (rN (n * p) (d * q)) (rD (n * p) (d * q)) := by
  have h0 : rE (n * p) (d * q) = 0 := by simpa using h
  have := fitQ_valid (N := n * p) (D := d * q) (Int.mul_pos h1.d0 h2.d0) (v := (rN (n * p) (d * q), rD (n * p) (d * q))) (by unfold fitQ; simp [h0])
  exact this
theorem one_ok {ts : List Nd} {T : Tm} {env : Env} {tod : Int} (hG : Good ts T) (hok : ∀ x ∈ ts, x.ok) (hE : EnvOk env) {h : Hd} (hh : HdOk ts h) : ∀ g ∈ (oneH env tod h).2.1, HdOk ts g := by
  obtain ⟨⟨x, l⟩, pl, day, n, d⟩ := h
  obtain ⟨hT, hs, hm, h0, h1, hv⟩ := hh
  simp only at hT hs hm h0 h1 hv
  have hops := contract_ops hm
  obtain ⟨r1, -, -, r4⟩ := hT.root
  have hx : fieldsB x = true := hG.fields x (List.mem_of_getElem? r1)
  have hnil : ∀ g ∈ ([] : List Hd), HdOk ts g := fun g hg => by cases hg
  unfold oneH
  split
  · exact hnil
  show ∀ g ∈ (stepT env tod x l pl day n d).2.1, HdOk ts g
  unfold stepT
  by_cases h10 : x.op = 10
  · rw [if_pos h10]; exact hnil
  rw [if_neg h10]
  by_cases h11 : x.op = 11
  · rw [if_pos h11]; exact kidH_ok hT hs (by rw [h11]; decide) h0 h1 (valid_neg hv)
  rw [if_neg h11]
  by_cases h12 : x.op = 12
  · rw [if_pos h12]
    intro g hg
    rcases List.mem_append.1 hg with hg | hg
    · exact kidH_ok hT hs (by rw [h12]; decide) h0 h1 hv g hg
    · exact kidH_ok hT hs (by rw [h12]; decide) h0 h1 hv g hg
  rw [if_neg h12]
  by_cases h13 : x.op = 13
  · rw [if_pos h13]
    have hl : l.length = 2 := by rw [r4, h13]; decide
    obtain ⟨k1, k2, k3⟩ := kid_num hG hok hT hs (i := 0) (by omega) (by rw [h13]; decide)
    have hr := valT_res (hE.get day) k2
    have e : numT env day l 0 = valT (env.get day) l[0] := by unfold numT; rw [List.getElem?_eq_getElem (by omega)]
    unfold scaleT
    rw [e]
    split
    · exact hnil
    split
    · exact hnil
    rename_i v hv2
    split
    · exact hnil
    rename_i h3
    exact kidH_ok hT hs (by rw [h13]; decide) h0 h1 (rat_step hv (hr.val v hv2) h3)
  rw [if_neg h13]
  by_cases h14 : x.op = 14
  · rw [if_pos h14]
    obtain ⟨a0, a1⟩ := fields_when hx h14
    show ∀ g ∈ (if day ≤ x.a then kidH l pl 0 x.a n d else []), HdOk ts g
    split
    · exact kidH_ok hT hs (by rw [h14]; decide) a0 a1 hv
    · exact hnil
  rw [if_neg h14]
  by_cases h15 : x.op = 15
  · rw [if_pos h15]
    unfold condT
    split
    · exact hnil
    split
    · exact hnil
    split
    · refine kidH_ok hT hs ?_ h0 h1 hv
      split <;> (rw [h15]; decide)
    · exact hnil
  rw [if_neg h15]
  by_cases h16 : x.op = 16
  · rw [if_pos h16]
    split
    · rename_i p hp
      refine kidH_ok hT hs ?_ h0 h1 hv
      rcases hE.cho _ _ _ hp with rfl | rfl <;> (rw [h16]; decide)
    · exact hnil
  rw [if_neg h16]
  by_cases h17 : x.op = 17
  · rw [if_pos h17]
    split
    · rename_i q hq
      obtain ⟨q0, q1, -⟩ := firstD_range hq
      exact kidH_ok hT hs (by rw [h17]; decide) q0 q1 hv
    · exact hnil
  rw [if_neg h17]
  exact hnil
theorem one_code {ts : List Nd} {T : Tm} {env : Env} {tod : Int} (hG : Good ts T) (hok : ∀ x ∈ ts, x.ok) (hE : EnvOk env) {h : Hd} (hh : HdOk ts h) : (oneH env tod h).1 = 0 ∨ (oneH env tod h).1 = 11 := by
  obtain ⟨⟨x, l⟩, pl, day, n, d⟩ := h
  obtain ⟨hT, hs, hm, h0, h1, hv⟩ := hh
  simp only at hT hs hm h0 h1 hv
  obtain ⟨r1, -, -, r4⟩ := hT.root
  unfold oneH
  split
  · exact .inl rfl
  show (stepT env tod x l pl day n d).1 = 0 ∨ (stepT env tod x l pl day n d).1 = 11
  unfold stepT
  by_cases h10 : x.op = 10
  · rw [if_pos h10]; exact .inl rfl
  rw [if_neg h10]
  by_cases h11 : x.op = 11
  · rw [if_pos h11]; exact .inl rfl
  rw [if_neg h11]
  by_cases h12 : x.op = 12
  · rw [if_pos h12]; exact .inl rfl
  rw [if_neg h12]
  by_cases h13 : x.op = 13
  · rw [if_pos h13]
    have hl : l.length = 2 := by rw [r4, h13]; decide
    obtain ⟨k1, k2, k3⟩ := kid_num hG hok hT hs (i := 0) (by omega) (by rw [h13]; decide)
    have hr := valT_res (hE.get day) k2
    have e : numT env day l 0 = valT (env.get day) l[0] := by unfold numT; rw [List.getElem?_eq_getElem (by omega)]
    unfold scaleT
    rw [e]
    split
    · exact hr.code
    split
    · exact .inl rfl
    rename_i v hv2
    split
    · rename_i h3
      have hv3 := hr.val v hv2
      have := fitQ_code (N := n * v.1) (D := d * v.2) (Int.mul_pos hv.d0 hv3.d0)
      exact this
    · exact .inl rfl
  rw [if_neg h13]
  by_cases h14 : x.op = 14
  · rw [if_pos h14]; exact .inl rfl
  rw [if_neg h14]
  by_cases h15 : x.op = 15
  · rw [if_pos h15]
    have hl : l.length = 4 := by rw [r4, h15]; decide
    obtain ⟨k1, k2, k3⟩ := kid_num hG hok hT hs (i := 0) (by omega) (by rw [h15]; decide)
    obtain ⟨m1, m2, m3⟩ := kid_num hG hok hT hs (i := 1) (by omega) (by rw [h15]; decide)
    have e : numT env day l 0 = valT (env.get day) l[0] := by unfold numT; rw [List.getElem?_eq_getElem (by omega)]
    have e2 : numT env day l 1 = valT (env.get day) l[1] := by unfold numT; rw [List.getElem?_eq_getElem (by omega)]
    unfold condT
    rw [e, e2]
    split
    · exact (valT_res (hE.get day) k2).code
    split
    · exact (valT_res (hE.get day) m2).code
    split <;> exact .inl rfl
  rw [if_neg h15]
  by_cases h16 : x.op = 16
  · rw [if_pos h16]; split <;> exact .inl rfl
  rw [if_neg h16]
  by_cases h17 : x.op = 17
  · rw [if_pos h17]; split <;> exact .inl rfl
  rw [if_neg h17]
  exact .inl rfl
theorem keysI_le (op op' : Int) (l : List Nd) : (keysI op op' l).length ≤ 64 := keysU_len op op' l 64
theorem asks_le (env : Env) (day : Int) (s : Tm) : (asksT env day s).length ≤ 64 := by
  unfold asksT
  rw [List.length_map]
  exact Nat.le_trans (List.length_filter_le _ _) (keysI_le 2 2 s.flat)
theorem askI_le (env : Env) (day : Int) (l : List Tm) (i : Nat) : (askI env day l i).length ≤ 64 := by
  unfold askI
  split
  · exact asks_le _ _ _
  · exact Nat.zero_le _
theorem one_few (env : Env) (tod : Int) (h : Hd) : (oneH env tod h).2.2.1.length ≤ 1 ∧ (oneH env tod h).2.2.2.length ≤ 128 := by
  unfold oneH
  split
  · exact ⟨Nat.zero_le _, Nat.zero_le _⟩
  unfold stepT
  have a0 := fun i => askI_le env h.day h.T.kids i
  have := a0 0
  have := a0 1
  repeat' split
  all_goals first | (exact ⟨Nat.zero_le _, Nat.zero_le _⟩) | (exact ⟨Nat.le_refl _, Nat.zero_le _⟩) | (exact ⟨Nat.zero_le _, by simp⟩) | skip
  · unfold scaleT
    repeat' split
    all_goals first | (exact ⟨Nat.zero_le _, Nat.zero_le _⟩) | (exact ⟨Nat.zero_le _, by simp only; omega⟩)
  · unfold condT
    repeat' split
    all_goals first | (exact ⟨Nat.zero_le _, Nat.zero_le _⟩) | (exact ⟨Nat.zero_le _, by simp only [List.length_append]; omega⟩)
theorem find_sorted' {α : Type} {R : α → α → Prop} {p : α → Bool} : ∀ {Y : List α} {y : α}, Y.Pairwise R → Y.find? p = some y → ∀ z ∈ Y, p z = true → z = y ∨ R y z
  | a :: r, y, h, hf, z, hz, hp => by
    rw [List.find?_cons] at hf
    obtain ⟨h1, h2⟩ := List.pairwise_cons.1 h
    split at hf
    · cases hf
      rcases List.mem_cons.1 hz with rfl | hz
      · exact .inl rfl
      · exact .inr (h1 z hz)
    · rename_i h3
      rcases List.mem_cons.1 hz with rfl | hz
      · rw [h3] at hp; cases hp
      · exact find_sorted' h2 hf z hz hp
def Left (env : Env) (tod : Int) (R : Rs) (F : List Fl) (W : List Wt) (q : List Hd) : Prop := ∃ n, sizesH q ≤ n ∧ comb (0, F, W) (runQ env tod n q) = R
theorem left_nil {env : Env} {tod : Int} {R : Rs} {F : List Fl} {W : List Wt} (h : Left env tod R F W []) : R = (0, F, W) := by
  obtain ⟨n, -, h⟩ := h
  rw [← h]
  cases n <;> simp [runQ, comb]
theorem left_err {env : Env} {tod : Int} {R : Rs} {F : List Fl} {W : List Wt} {h : Hd} {r : List Hd} (hl : Left env tod R F W (h :: r)) (h1 : (oneH env tod h).1 ≠ 0) : R = ((oneH env tod h).1, [], []) := by
  obtain ⟨n, hn, hl⟩ := hl
  cases n with
  | zero => have := h.T.size_pos; simp [sizesH] at hn; omega
  | succ n =>
    rw [← hl]
    simp only [runQ, h1, ne_eq, not_false_eq_true, if_true]
    unfold comb
    simp [h1]
theorem left_step {env : Env} {tod : Int} {R : Rs} {F : List Fl} {W : List Wt} {h : Hd} {r : List Hd} (hl : Left env tod R F W (h :: r)) (h1 : (oneH env tod h).1 = 0) :
    Left env tod R (F ++ (oneH env tod h).2.2.1) (W ++ (oneH env tod h).2.2.2) (r ++ (oneH env tod h).2.1) := by
  obtain ⟨n, hn, hl⟩ := hl
  cases n with
  | zero => have := h.T.size_pos; simp [sizesH] at hn; omega
  | succ n =>
    have hlt := one_lt env tod h
    refine ⟨n, ?_, ?_⟩
    · simp only [sizesH, List.map_append, List.sum_append, List.map_cons, List.sum_cons] at hn hlt ⊢
      omega
    · rw [← hl]
      simp only [runQ, h1, ne_eq, not_true_eq_false, if_false]
      generalize runQ env tod n (r ++ (oneH env tod h).2.1) = y
      unfold comb
      by_cases hy : y.1 = 0 <;> simp [hy]
theorem left_first (env : Env) (tod : Int) (h : Hd) : Left env tod (runQ env tod h.T.size [h]) [] [] [h] := by
  refine ⟨h.T.size, by simp [sizesH], ?_⟩
  generalize hr : runQ env tod h.T.size [h] = y
  unfold comb
  by_cases hy : y.1 = 0
  · obtain ⟨a, b, c⟩ := y
    simp only at hy
    subst hy
    simp
  · have : y.2 = ([], []) := by
      have key : ∀ n q, (runQ env tod n q).1 ≠ 0 → (runQ env tod n q).2 = ([], []) := by
        intro n
        induction n with
        | zero => intro q h; exact absurd rfl h
        | succ n ih =>
          intro q h
          cases q with
          | nil => exact absurd rfl h
          | cons g r =>
            simp only [runQ] at h ⊢
            by_cases h1 : (oneH env tod g).1 = 0
            · simp only [h1, ne_eq, not_true_eq_false, if_false] at h ⊢
              unfold comb at h ⊢
              simp only [ne_eq, not_true_eq_false, if_false] at h ⊢
              split
              · rfl
              · rename_i h2; simp [h2] at h
            · simp only [h1, ne_eq, not_false_eq_true, if_true]
      rw [← hr]; exact key _ _ (by rw [hr]; exact hy)
    obtain ⟨a, b⟩ := y
    simp only at hy this
    subst this
    simp [hy]
def runT (env : Env) (tod : Int) (T : Tm) (day : Int) : Rs := runQ env tod T.size [⟨T, 0, day, 1, 1⟩]
end Go.Proofs.YtkjabiabeemfhaaGreatDoor
end
section
namespace Go.Proofs.YtkjabiabeemfhaaGreatDoor
open Go.RowKit
set_option maxRecDepth 100000
theorem tellCh_nodup {ch : ChL} {x : Td} (h : (ch.map (·.1)).Nodup) : ((tellCh ch x).map (·.1)).Nodup := by
  unfold tellCh chooseL
  split
  · split
    · exact putA_keys _ _ _ h
    · exact h
  · exact h
def ChOk (ch : ChL) : Prop := ∀ q p, getA ch q = some p → (p = 1 ∨ p = 2) ∧ 0 ≤ q.2 ∧ q.2 ≤ 73048
theorem choose_fine {k d p : Int} (h : chooseE k d p = 0) : (p = 1 ∨ p = 2) ∧ 0 ≤ d ∧ d ≤ 73048 := by
  unfold chooseE mayI at h
  split at h
  · cases h
  · rename_i h1
    split at h
    · cases h
    · rename_i h2
      simp only [Bool.not_eq_false, Bool.and_eq_true, Bool.or_eq_true, beq_iff_eq, decide_eq_true_eq] at h1 h2
      exact ⟨h1.2, h2⟩
theorem chOk_step {ch : ChL} {x : Td} (hn : (ch.map (·.1)).Nodup) (h : ChOk ch) : ChOk (tellCh ch x) := by
  intro q p hp
  unfold tellCh at hp
  split at hp
  · unfold chooseL at hp
    split at hp
    · rename_i h0
      rw [putA_get _ _ _ _ hn] at hp
      split at hp
      · rename_i e
        cases hp
        subst e
        exact choose_fine h0
      · exact h q p hp
    · exact h q p hp
  · exact h q p hp
def getC (ch : ChL) (k d : Int) : Option Int := getA ch (k, d)
theorem first_days {α : Type} {Y : List α} {p : α → Bool} {day : α → Int} {cho : Int → Int → Option Int} {key a b : Int} {R : α → α → Prop} (hs : Y.Pairwise R) (hR : ∀ x y, p x = true → p y = true → R x y → day x ≤ day y)
    (h1 : ∀ y ∈ Y, p y = true → a ≤ day y ∧ day y ≤ b ∧ 0 ≤ day y ∧ day y ≤ 73048 ∧ cho key (day y) = some 1)
    (h2 : ∀ d, a ≤ d → d ≤ b → cho key d = some 1 → ∃ y ∈ Y, p y = true ∧ day y = d) : (Y.find? p).map day = firstD cho key a b := by
  cases hf : Y.find? p with
  | none =>
    rw [Option.map_none]
    unfold firstD
    rw [List.find?_eq_none.2, Option.map_none]
    intro i hi hc
    simp only [decide_eq_true_eq] at hc
    obtain ⟨y, hy, hp, -⟩ := h2 _ hc.1 hc.2.1 hc.2.2
    have := List.find?_eq_none.1 hf y hy
    exact this hp
  | some y =>
    have hy := List.mem_of_find?_eq_some hf
    have hp := List.find?_some hf
    obtain ⟨a1, a2, a3, a4, a5⟩ := h1 y hy hp
    rw [Option.map_some]
    unfold firstD
    cases hg : (List.range 73049).find? (fun i : Nat => decide (a ≤ (i : Int) ∧ (i : Int) ≤ b ∧ cho key i = some 1)) with
    | none =>
      have := List.find?_eq_none.1 hg (day y).toNat (by rw [List.mem_range]; omega)
      have e : (((day y).toNat : Nat) : Int) = day y := by omega
      simp only [e, a1, a2, a5, and_self, decide_true, not_true_eq_false] at this
    | some i =>
      have hi := List.find?_some hg
      simp only [decide_eq_true_eq] at hi
      have hle := find_sorted' (List.pairwise_lt_range (n := 73049)) hg (day y).toNat (by rw [List.mem_range]; omega) (by
        have e : (((day y).toNat : Nat) : Int) = day y := by omega
        simp only [e, a1, a2, a5, and_self, decide_true])
      obtain ⟨z, hz, hpz, hdz⟩ := h2 _ hi.1 hi.2.1 hi.2.2
      rw [Option.map_some]
      congr 1
      have hyz : day y ≤ day z := by
        rcases find_sorted' hs hf z hz hpz with e | e
        · rw [e]; omega
        · exact hR y z hp hpz e
      rw [hdz] at hyz
      omega
def envT (fx : FxL) (ch : ChL) : Env := ⟨getF fx, getC ch⟩
theorem envT_ok {fx : FxL} {ch : ChL} (h : FxOk fx) (h2 : ChOk ch) : EnvOk (envT fx ch) := ⟨fun day => getOk_of h day, fun k d p hp => (h2 _ _ hp).1⟩
end Go.Proofs.YtkjabiabeemfhaaGreatDoor
end
section
namespace Go.Proofs.YtkjabiabeemfhaaGreatDoor
open Go.RowKit
set_option maxRecDepth 100000
structure JobAt (w0 : World) (ts : List Nd) (T : Tm) (tv : Value) (fx : FxL) (ch : ChL) (p m1 m2 : Nat) : Prop where
  good : Good ts T
  ok : ∀ x ∈ ts, x.ok
  sh : Shapes w0
  nodes : IsNodes w0 tv ts
  facts : FactsAt w0 p m1 m2 fx ch
  fo : FxOk fx
  co : ChOk ch
  cn : (ch.map (·.1)).Nodup
  cl : ch.length ≤ 100000
theorem JobAt.len {w0 : World} {ts : List Nd} {T : Tm} {tv : Value} {fx : FxL} {ch : ChL} {p m1 m2 : Nat} (h : JobAt w0 ts T tv fx ch p m1 m2) : ts.length ≤ 100000 := Nat.le_trans h.good.len (by decide)
def NumsAt (ts : List Nd) (l : List (Nat × Tm)) : Prop := ∀ x ∈ l, TmAt ts x.1 x.2 ∧ NumT x.2 ∧ wrongV ts (x.1 : Nat) = 0
theorem vat_place {ts : List Nd} {fx : FxL} {day : Int} {j : Nat} {s : Tm} (hs : TmAt ts j s) (h : wrongV ts (j : Nat) = 0) (h0 : 0 ≤ day) (h1 : day ≤ 73048) : atV ts fx (j : Nat) day = valT (getF fx day) s := by
  unfold atV
  rw [if_neg (by rw [h]; simp), if_neg (by omega), Int.toNat_natCast, subAt_eq hs]
def resL (get : Int → Option Q2) (l : List (Nat × Tm)) : List (Int × Option Q2) := l.map (fun x => valT get x.2)
def outL (rs : List (Int × Option Q2)) : List Q2 := rs.map (fun r => (outN r, outD r))
def errL (rs : List (Int × Option Q2)) : Int := match rs.find? (fun r => decide (r.1 ≠ 0)) with | some r => r.1 | none => 0
def allL (rs : List (Int × Option Q2)) : Bool := rs.all (fun r => r.2.isSome)
def askW (env : Env) (day : Int) (l : List (Nat × Tm)) : List Wt := if errL (resL (env.get day) l) = 0 ∧ allL (resL (env.get day) l) = false then l.flatMap (fun x => asksT env day x.2) else []
theorem errL_at {rs : List (Int × Option Q2)} {i : Nat} (hi : i < rs.length) (h0 : ∀ q (hq : q < rs.length), q < i → (rs[q]).1 = 0) (h1 : (rs[i]).1 ≠ 0) : errL rs = (rs[i]).1 := by unfold errL; rw [find_first hi h0 h1]
theorem errL_none {rs : List (Int × Option Q2)} (h0 : ∀ r ∈ rs, r.1 = 0) : errL rs = 0 := by unfold errL; rw [find_none h0]
theorem allL_take {rs : List (Int × Option Q2)} {i : Nat} (hi : i < rs.length) : allL (rs.take (i + 1)) = (allL (rs.take i) && (rs[i]).2.isSome) := by
  unfold allL
  rw [List.take_succ_eq_append_getElem hi, List.all_append]
  simp
theorem outL_take {rs : List (Int × Option Q2)} {i : Nat} (hi : i < rs.length) : outL (rs.take (i + 1)) = outL (rs.take i) ++ [(outN rs[i], outD rs[i])] := by
  unfold outL
  rw [List.take_succ_eq_append_getElem hi, List.map_append]
  rfl
theorem own_set3 {w : World} {b : Nat} {p q r x y z : Value} (h : Own w [(b, #[p, q, r])]) : Own (((w.setCell ⟨b, 0, none⟩ x).setCell ⟨b, 1, none⟩ y).setCell ⟨b, 2, none⟩ z) [(b, #[x, y, z])] :=
  Own.cons (by simpa using h.1.1) (fun i => set_own (k := 2) (set_own (k := 1) (set_own (k := 0) h.1.2.1 x (by simp)) y (by simp)) z (by simp) i) (fun i hi => set_frozen (n := 3) (fun i hi => set_frozen (n := 3) (fun i hi => set_frozen (n := 3) h.1.2.2 x i hi) y i hi) z i hi) trivial
theorem row_lat {α : Type} {sz : Nat} {f : α → Nat → Value} {w w' : World} {v : Value} {xs : List α} {Z : Nat → Prop} (h : IsRow sz f w v xs) (hL : S.LatB Z w w') (hZ : ∀ k, v.ownBlock = some k → ¬ Z k) : IsRow sz f w' v xs := by
  rcases h with h | ⟨b, o, cap, h1, h2, h3, h4, h5⟩
  · exact .inl h
  · refine .inr ⟨b, o, cap, h1, Nat.lt_of_lt_of_le h2 hL.size, h3, h4, fun i hi j hj => ?_⟩
    rw [hL.cell h2 (hZ b (by rw [h1]; rfl))]
    exact h5 i hi j hj
theorem ints_lat {w w' : World} {v : Value} {zs : List Int} {Z : Nat → Prop} (h : IsInts w v zs) (hL : S.LatB Z w w') (hZ : ∀ k, v.ownBlock = some k → ¬ Z k) : IsInts w' v zs := by
  rcases h with h | ⟨b, o, cap, h1, h2, h3, h4, h5⟩
  · exact .inl h
  · refine .inr ⟨b, o, cap, h1, Nat.lt_of_lt_of_le h2 hL.size, h3, h4, fun j hj => ?_⟩
    rw [hL.cell h2 (hZ b (by rw [h1]; rfl))]
    exact h5 j hj
theorem flat_mem {ts : List Nd} {j : Nat} {s : Tm} (h : TmAt ts j s) {x : Nd} (hx : x ∈ s.flat) : x ∈ ts := by
  obtain ⟨r, hr⟩ := h.2
  have : x ∈ ts.drop j := by rw [← hr]; exact List.mem_append_left _ hx
  exact List.mem_of_mem_drop this
theorem flat_keys {ts : List Nd} {T : Tm} (hG : Good ts T) {j : Nat} {s : Tm} (h : TmAt ts j s) : ∀ x ∈ s.flat, x.op = 2 → 0 ≤ x.a ∧ x.a < 64 := fun x hx h2 => key_range (hG.fields x (flat_mem h hx)) h2
def askK (env : Env) (day : Int) (ks : List Int) : List Wt := (ks.filter (fun k => (env.get day k).isNone)).map (fun k => ⟨false, k, day⟩)
theorem askK_take {env : Env} {day : Int} {ks : List Int} {k : Nat} (h : k < ks.length) : askK env day (ks.take (k + 1)) = askK env day (ks.take k) ++ if (env.get day ks[k]).isNone then [⟨false, ks[k], day⟩] else [] := by
  unfold askK
  rw [List.take_succ_eq_append_getElem h, List.filter_append, List.map_append]
  congr 1
  cases hc : (env.get day ks[k]).isNone <;> simp [hc]
theorem askK_le (env : Env) (day : Int) (ks : List Int) : (askK env day ks).length ≤ ks.length := by unfold askK; rw [List.length_map]; exact List.length_filter_le _ _
theorem flat_le (env : Env) (day : Int) (l : List (Nat × Tm)) : (l.flatMap (fun x => asksT env day x.2)).length ≤ 64 * l.length := by
  induction l with
  | nil => simp
  | cons a l ih =>
    have := asks_le env day a.2
    rw [List.flatMap_cons, List.length_append, List.length_cons]
    omega
def ValEnd (env : Env) (lo : Nat) (w : World) (b : Nat) (tv : Value) (tod : Int) (fp rv fv wv : Value) (H : List Hd) (F : List Fl) (W : List Wt) (day : Int) (l : List (Nat × Tm)) (e : Ending) (w' : World) : Prop :=
  ∃ wv', StudyAt lo w' b tv tod fp rv fv wv' H F (W ++ askW env day l) ∧ S.LatB (fun k => k = b ∨ wv.ownBlock = some k) w w' ∧ (wv'.ownBlock = wv.ownBlock ∨ ∀ k, wv'.ownBlock = some k → w.heap.size ≤ k) ∧
    ∃ v' k', e = .returned (.tuple #[v', .bool k', .int .i64 (errL (resL (env.get day) l))]) ∧ (errL (resL (env.get day) l) = 0 → k' = allL (resL (env.get day) l) ∧ IsRats w' v' (outL (resL (env.get day) l)))
theorem ints1 {w : World} {ta : TypeId} {k : Nat} (a : Int) (hk : k = w.heap.size) : IsInts (w.alloc (.cells #[.int .i64 a] ta)).drew (.slice (some ⟨k, 0, none⟩) 1 1) [a] := by
  subst hk
  obtain ⟨z, hc, -⟩ := own_get (own_alloc w #[.int .i64 a] ta)
  refine .inr ⟨w.heap.size, 0, 1, rfl, z, Nat.le_refl _, by unfold maxLen; omega, fun j hj => ?_⟩
  have hj3 : j < 1 := hj
  show (w.alloc _).cell? _ = _
  rw [Nat.zero_add, hc j]
  rcases j with _ | j
  · rfl
  · omega
theorem ints2d {w : World} {ta : TypeId} {k : Nat} (a c : Int) (hk : k = w.heap.size) : IsInts (w.alloc (.cells #[.int .i64 a, .int .i64 c] ta)).drew (.slice (some ⟨k, 0, none⟩) 2 2) [a, c] := by
  subst hk
  obtain ⟨z, hc, -⟩ := own_get (own_alloc w #[.int .i64 a, .int .i64 c] ta)
  refine .inr ⟨w.heap.size, 0, 2, rfl, z, Nat.le_refl _, by unfold maxLen; omega, fun j hj => ?_⟩
  have hj3 : j < 2 := hj
  show (w.alloc _).cell? _ = _
  rw [Nat.zero_add, hc j]
  rcases j with _ | _ | j
  · rfl
  · rfl
  · omega
theorem Later.undrew' {a b : World} (h : Later a.drew b) : Later a b := h.undrew
theorem val_one {env : Env} {lo : Nat} {w : World} {b : Nat} {tv : Value} {tod : Int} {fp rv fv wv : Value} {H : List Hd} {F : List Fl} {W : List Wt} {day : Int} {k : Nat} {s : Tm} {e : Ending} {w' : World} {R : Int × Option Q2} (hR : valT (env.get day) s = R) (h : ValEnd env lo w b tv tod fp rv fv wv H F W day [(k, s)] e w') :
    ∃ wv', StudyAt lo w' b tv tod fp rv fv wv' H F (W ++ if R.1 = 0 ∧ R.2.isSome = false then asksT env day s else []) ∧ S.LatB (fun k => k = b ∨ wv.ownBlock = some k) w w' ∧ (wv'.ownBlock = wv.ownBlock ∨ ∀ k, wv'.ownBlock = some k → w.heap.size ≤ k) ∧
      ∃ v' k', e = .returned (.tuple #[v', .bool k', .int .i64 R.1]) ∧ (R.1 = 0 → k' = R.2.isSome ∧ IsRats w' v' [(outN R, outD R)]) := by
  have hr : resL (env.get day) [(k, s)] = [R] := by simp [resL, hR]
  have he : errL [R] = R.1 := by
    unfold errL
    by_cases h0 : R.1 = 0 <;> simp [h0]
  have ha : allL [R] = R.2.isSome := by simp [allL]
  obtain ⟨wv', h1, h2, h3, v', k', h4, h5⟩ := h
  rw [hr, he] at h4 h5
  rw [ha] at h5
  refine ⟨wv', ?_, h2, h3, v', k', h4, h5⟩
  unfold askW at h1
  rw [hr, he, ha] at h1
  simpa using h1
theorem val_two {env : Env} {lo : Nat} {w : World} {b : Nat} {tv : Value} {tod : Int} {fp rv fv wv : Value} {H : List Hd} {F : List Fl} {W : List Wt} {day : Int} {k j : Nat} {s t : Tm} {e : Ending} {w' : World} {R U : Int × Option Q2} (hR : valT (env.get day) s = R) (hU : valT (env.get day) t = U) (h : ValEnd env lo w b tv tod fp rv fv wv H F W day [(k, s), (j, t)] e w') :
    ∃ wv', StudyAt lo w' b tv tod fp rv fv wv' H F (W ++ if (if R.1 = 0 then U.1 else R.1) = 0 ∧ (R.2.isSome && U.2.isSome) = false then asksT env day s ++ asksT env day t else []) ∧ S.LatB (fun k => k = b ∨ wv.ownBlock = some k) w w' ∧ (wv'.ownBlock = wv.ownBlock ∨ ∀ k, wv'.ownBlock = some k → w.heap.size ≤ k) ∧
      ∃ v' k', e = .returned (.tuple #[v', .bool k', .int .i64 (if R.1 = 0 then U.1 else R.1)]) ∧ ((if R.1 = 0 then U.1 else R.1) = 0 → k' = (R.2.isSome && U.2.isSome) ∧ IsRats w' v' [(outN R, outD R), (outN U, outD U)]) := by
  have hr : resL (env.get day) [(k, s), (j, t)] = [R, U] := by simp [resL, hR, hU]
  have he : errL [R, U] = if R.1 = 0 then U.1 else R.1 := by
    unfold errL
    by_cases h0 : R.1 = 0
    · by_cases h1 : U.1 = 0 <;> simp [h0, h1]
    · simp [h0]
  have ha : allL [R, U] = (R.2.isSome && U.2.isSome) := by simp [allL]
  obtain ⟨wv', h1, h2, h3, v', k', h4, h5⟩ := h
  rw [hr, he] at h4 h5
  rw [ha] at h5
  refine ⟨wv', ?_, h2, h3, v', k', h4, h5⟩
  unfold askW at h1
  rw [hr, he, ha] at h1
  simpa using h1
end Go.Proofs.YtkjabiabeemfhaaGreatDoor
end
section
namespace Go.Proofs.YtkjabiabeemfhaaGreatDoor
open Go.RowKit
set_option maxRecDepth 100000
def PutRest (lo : Nat) (w : World) (b : Nat) (tv : Value) (tod : Int) (fp rv fv wv : Value) (H : List Hd) (F : List Fl) (W : List Wt) (h : Hd) (w' : World) : Prop :=
  ∃ rv', StudyAt lo w' b tv tod fp rv' fv wv (H ++ [h]) F W ∧ S.LatB (fun k => k = b ∨ rv.ownBlock = some k) w w' ∧ (rv'.ownBlock = rv.ownBlock ∨ ∀ k, rv'.ownBlock = some k → w.heap.size ≤ k)
def PutEnd (lo : Nat) (w : World) (b : Nat) (tv : Value) (tod : Int) (fp rv fv wv : Value) (H : List Hd) (F : List Fl) (W : List Wt) (h : Hd) (e : Ending) (w' : World) : Prop :=
  e = .returned (.tuple #[]) ∧ PutRest lo w b tv tod fp rv fv wv H F W h w'
theorem PutRest.back {lo : Nat} {w w1 : World} {b : Nat} {tv : Value} {tod : Int} {fp rv fv wv : Value} {H : List Hd} {F : List Fl} {W : List Wt} {h : Hd} {w' : World} (hl : Later w w1) (hp : PutRest lo w1 b tv tod fp rv fv wv H F W h w') : PutRest lo w b tv tod fp rv fv wv H F W h w' := by
  obtain ⟨rv', h2, h3, h4⟩ := hp
  exact ⟨rv', h2, (S.LatB.of hl).trans h3, h4.imp id (fun f k hk => Nat.le_trans hl.size (f k hk))⟩
theorem sput_later {lo : Nat} {w : World} {b : Nat} {tv : Value} {tod : Int} {fp rv fv wv : Value} {H : List Hd} {F : List Fl} {W : List Wt} (hlo : lo ≤ w.heap.size) (hlen : H.length ≤ 1000000) (hst : StudyAt lo w b tv tod fp rv fv wv H F W) (h : Hd) (pl : Int) (hpl : (h.pl : Int) = pl) (W1 : World) (hl : Later w W1) :
    Calls Tryz.prog 92 #[.pointer (some ⟨b, 0, none⟩), .int .i64 pl, .int .i64 h.day, .agg #[.int .i64 h.n, .int .i64 h.d]] W1 (PutEnd lo W1 b tv tod fp rv fv wv H F W h) := by
  subst hpl
  exact sput_any lo W1 b tv tod fp rv fv wv H F W h (Nat.le_trans hlo hl.size) hlen (hst.later hl)
set_option maxHeartbeats 1600000 in
theorem sone1_any {lo : Nat} {w : World} {b : Nat} {tv : Value} {tod : Int} {fp rv fv wv : Value} {H : List Hd} {F : List Fl} {W : List Wt} (hlo : lo ≤ w.heap.size) (hlen : H.length ≤ 1000000) (hst : StudyAt lo w b tv tod fp rv fv wv H F W) (h : Hd) (A B D : Nat) (pls : List Int) (i : Nat) (hi : i < pls.length) (hp : (h.pl : Int) = pls[i]) (dv : Value) (cA : w.cell? ⟨A, 0, none⟩ = some (.pointer (some ⟨b, 0, none⟩))) (cD : w.cell? ⟨D, 0, none⟩ = some dv) (hI : IsInts w dv pls)
    (k1 : w.cell? ⟨B, 1, none⟩ = some (.int .i64 h.day)) (k2 : w.cell? ⟨B, 2, none⟩ = some (.int .i64 h.n)) (k3 : w.cell? ⟨B, 3, none⟩ = some (.int .i64 h.d)) :
    Calls Tryz.prog 132 #[.int .i64 (i : Int), .pointer (some ⟨A, 0, none⟩), .pointer (some ⟨D, 0, none⟩), .pointer (some ⟨B, 0, none⟩)] w (PutEnd lo w b tv tod fp rv fv wv H F W h) := by
  obtain ⟨db, do', dc, rfl, hdb, g⟩ := hI.full hi
  obtain ⟨N, hN⟩ : ∃ N, pls.length = N := ⟨_, rfl⟩
  rw [hN] at hi cD
  obtain ⟨P, hP⟩ : ∃ P, PutRest lo w b tv tod fp rv fv wv H F W h = P := ⟨_, rfl⟩
  have HPUT := Lib.hid (fun W1 (hl : Later w W1) => (sput_later hlo hlen hst h pls[i] hp W1 hl).mono (fun e w' he => show e = .returned (.tuple #[]) ∧ P w' from ⟨he.1, by rw [← hP]; exact he.2.back hl⟩))
  refine Calls.mono (R := fun e w' => e = .returned (.tuple #[]) ∧ P w') ?_ (fun e w' he => ⟨he.1, by rw [hP]; exact he.2⟩)
  obtain ⟨T, pl, day, n, d⟩ := h
  simp only at k1 k2 k3 HPUT
  obtain ⟨q, hq⟩ : ∃ q, pls[i] = q := ⟨_, rfl⟩
  rw [hq] at g HPUT
  have hiI : (i : Int) < N := by omega
  clear hst hI hP hp hq hlen hlo
  go_enter Tryz.func132, Tryz.ntmps132
  refine V.wp_region_plan 9 (.one [0, 1, 2, 3, 4, 5, 6, 7, 8] 9 (.done [])) (by kernel_rfl) (by kernel_rfl) (fun _ _ d _ _ h => by cases d <;> exact h) ?_
  repeat' (first
    | (refine plan_done (fun K hK => ?_); (first | (simp only [pick_cons, pick_nil, toList_some_append, List.getElem?_toArray, List.getElem?_cons_zero, List.getElem?_cons_succ]; repeat (go_big_quiet_step (fail))) | simp only [pick_nil]); refine wpQuiet_nil (hK _ ?_); clear hK K)
    | (refine plan_one (by rfl) (fun K hK => ?_); (first | (simp only [pick_cons, pick_nil, toList_some_append, List.getElem?_toArray, List.getElem?_cons_zero, List.getElem?_cons_succ]; repeat (go_big_quiet_step (fail))) | simp only [pick_nil]); refine wpQuiet_nil (hK _ ?_); clear hK K)
    | ((with_reducible refine at_list ?_); go_wp2_with ((go_at_call 92; go_must (refine (HPUT.out _ (by repeat (first | with_reducible exact Later.refl _ | with_reducible assumption | with_reducible refine Later.ofdrew ?_ | with_reducible refine Later.ofdrewN ?_ | with_reducible refine Later.setCell ?_ ?_ _ | with_reducible refine Later.alloc ?_ _ | with_reducible refine Later.drewN ?_ _ | with_reducible refine Later.drew ?_ | (with_reducible refine Later.trans ?_ (by assumption)) | (simp only [World.size_setCell, World.size_alloc, World.heap_drewN]; omega) | (simp; done) | (simp; omega)))).mono ?_; rintro e w9 ⟨rfl, hP9⟩))); first | refine behind_store (t := 9) (by decide) ?_ | refine behind (by repeat (first | with_reducible exact Later.refl _ | with_reducible assumption | with_reducible refine Later.ofdrew ?_ | with_reducible refine Later.ofdrewN ?_ | with_reducible refine Later.alloc ?_ _ | with_reducible refine Later.drewN ?_ _ | with_reducible refine Later.drew ?_ | (with_reducible refine Later.trans ?_ (by assumption)))) ?_))
  go_wp2
  go_end0
  exact ⟨rfl, hP9⟩
end Go.Proofs.YtkjabiabeemfhaaGreatDoor
end
section
namespace Go.Proofs.YtkjabiabeemfhaaGreatDoor
open Go.RowKit
set_option maxRecDepth 100000
attribute [local go_sem] Oper.semAt_some
theorem wpListIn_push {F : Fence} {m : Nat} {P : Program} {w : World} {base : Nat} {e sz : Nat} {v : Value} {n : Nat} {xs : List Value} {ops : Array Oper} {rest : List Oper} {o : Oper} {a : Act} {Q : Exit → Act → World → Prop} {t bytes : Nat} {ta : TypeId} {news : Array Value}
    (T : SliceOf P t e sz bytes) (hM : w.ownsRow base e sz v n xs) (hbase : base ≤ w.heap.size) (hgd : o.guard = none) (s x : Operand)
    (ho : o.op = .call { callee := .builtin .append, args := #[s, x], argTypes := #[t, t] }) (hs : a.eval s = v) (c b : Nat) (hx : a.eval x = .slice (some ⟨b, 0, none⟩) 1 c) (hb : b = w.heap.size) (hl : news.size = sz) (h1 : ∀ u ∈ news.toList, u.oneCell' = true)
    (h63 : (n + 1) * bytes ≤ 140737488355328) (h64 : n + 1 ≤ maxLen)
    (h : ∀ v' w', w'.ownsRow base e sz v' (n + 1) (xs ++ news.toList) → (w.alloc (.cells news ta)).grownBy w' v.ownBlock → wpListIn F m P ops Q rest (a.put o.dst v') w') : wpListIn F m P ops Q (o :: rest) a (w.alloc (.cells news ta)) := by
  subst hb
  obtain ⟨i, z, t1, t2, t3, t4, t5, t6, t7⟩ := T
  have hc := (own_get (own_alloc w news ta)).2.1
  refine wpListIn_append_own _ hgd s x t ho base e i z sz bytes t1 t2 t3 t4 t5 t6 t7 v n xs hs (hM.alloc _) ⟨w.heap.size, 0, none⟩ 1 c news.toList hx (by rw [Nat.one_mul, Array.length_toList, hl]) ?_ h1 h64 h63 (by simp; omega) (fun v' w' a b _ => h v' w' a b)
  intro j u hj
  rw [add_plain, Nat.zero_add, hc j, ← Array.getElem?_toList, hj]
def placesF (k : Nat) (l : List Tm) (pre : List (Fin l.length)) : List Value := pre.map (fun x => Value.int .i64 (placeN k l x.1 : Int))
theorem placesF_all (k : Nat) (l : List Tm) : placesF k l (List.finRange l.length) = (placesI k l l.length).map (Value.int .i64) := by
  unfold placesF placesI
  rw [List.map_map]
  apply List.ext_getElem
  · simp
  · intro i h1 h2; simp
def BelowI (k : Nat) (l : List Tm) (n B Bt : Nat) (u : Value) (w : World) (pre : List (Fin l.length)) (W : World) : Prop :=
  (∃ v, Boxed W B 94 v ∧ W.ownsRow n 3 1 v pre.length (placesF k l pre) ∧ pre.length ≤ l.length) ∧ Boxed W Bt 22 u ∧ Below n w W
theorem belowI_own (k : Nat) (l : List Tm) {n B Bt : Nat} (u : Value) {w : World} {C : Nat} (hn : n ≤ w.heap.size) (hC : n ≤ C) : OwnFrom C (BelowI k l n B Bt u w) :=
  OwnFrom.and (Own.from (holdsRow_own n B 94 3 1 (fun pre : List (Fin l.length) => pre.length) (placesF k l) (fun pre _ => pre.length ≤ l.length)) C)
    (OwnFrom.and (Own.from (boxed_own Bt 22 (fun _ : List (Fin l.length) => u)) C) (ownFrom_below hn hC))
set_option maxHeartbeats 2000000 in
theorem tbelow_any (ts : List Nd) (hlen : ts.length ≤ 100000) (k : Nat) (x : Nd) (l : List Tm) (v : Value) (w : World) (hT : TmAt ts k (.node x l)) (hS : Shapes w) (hN : IsNodes w v ts) :
    Calls Tryz.prog 125 #[v, .int .i64 k] w fun e w' => ∃ v', e = .returned (.tuple #[v', .int .i64 0]) ∧ w'.ownsRow w.heap.size 3 1 v' l.length ((placesI k l l.length).map (Value.int .i64)) ∧ Later w w' := by
  obtain ⟨p, cp, rfl⟩ := hN.form
  have HK := Lib.hid (fun W => kids_make p ts.length cp (k : Int) W)
  have HZ := Lib.hid (tsize_any ts k (.node x l) _ w hlen hT hS hN)
  have hST := Lib.hid hS
  have hNT := Lib.hid hN
  have HT := Lib.hid hT
  obtain ⟨hr1, hr2, hr3, hr4⟩ := hT.root
  have hml := many_le x.op
  rw [← hr4] at hml
  clear hS hN hT hr1 hr2 hr3 hr4
  obtain ⟨Z, hZ⟩ : ∃ Z, ((Tm.node x l).size : Int) = Z := ⟨_, rfl⟩
  rw [hZ] at HZ
  clear hZ
  refine callsIn_wide.1 (callsIn_of_wp_marks (n := 9) Tryz.func125 rfl trivial ?_ rfl)
  simp only [Tryz.ntmps125, List.size_toArray, List.length_cons, List.length_nil, Nat.reduceAdd, Nat.reduceSub, Array.replicate_succ, Array.replicate_zero, List.push_toArray, List.append_toArray, List.nil_append, List.cons_append]
  gi_wp2_with (first | ((first | (refine ⟨trivial, ?_⟩; gi_at_call 167) | (refine ⟨trivial, fun hh => (by cases hh), ?_⟩; gi_at_call 167)); go_must (refine (callsIn_wide.2 HZ.out).mono ?_; rintro e w1 ⟨rfl, hb1⟩)) | ((first | (refine ⟨trivial, ?_⟩; gi_at_call 120) | (refine ⟨trivial, fun hh => (by cases hh), ?_⟩; gi_at_call 120)); go_must (refine (callsIn_wide.2 (HK.out _)).mono ?_; rintro e w2 ⟨rfl, rfl⟩)))
  have hO := Own.three (Later.refl (((w1.alloc (.cells #[.slice none 0 0] 94)).alloc (.cells #[.slice p ts.length cp] 22)).alloc (.cells #[.int .i64 k] 3)))
  have hbx : Boxed (((w1.alloc (.cells #[.slice none 0 0] 94)).alloc (.cells #[.slice p ts.length cp] 22)).alloc (.cells #[.int .i64 k] 3)) w1.heap.size 94 (.slice none 0 0) := ((Boxed.new w1 94 (.slice none 0 0)).alloc _).alloc _
  have hbt : Boxed (((w1.alloc (.cells #[.slice none 0 0] 94)).alloc (.cells #[.slice p ts.length cp] 22)).alloc (.cells #[.int .i64 k] 3)) (w1.heap.size + 1) 22 (.slice p ts.length cp) := by have := (Boxed.new (w1.alloc (.cells #[.slice none 0 0] 94)) 22 (.slice p ts.length cp)).alloc (.cells #[.int .i64 k] 3); rwa [World.size_alloc] at this
  have hLL : Later w (((w1.alloc (.cells #[.slice none 0 0] 94)).alloc (.cells #[.slice p ts.length cp] 22)).alloc (.cells #[.int .i64 k] 3)) := ((hb1.alloc _).alloc _).alloc _
  obtain ⟨W0, hW0⟩ : ∃ W0, (((w1.alloc (.cells #[.slice none 0 0] 94)).alloc (.cells #[.slice p ts.length cp] 22)).alloc (.cells #[.int .i64 k] 3)) = W0 := ⟨_, rfl⟩
  rw [hW0] at hO hbx hbt hLL ⊢
  have hzw : w1.heap.size + 1 + 1 < W0.heap.size := hO.2.2.1.1
  have hz1 := hb1.size
  have d1 := hO.2.1.2.1 0
  have d2 := hO.2.2.1.2.1 0
  have HLL := Lib.hid hLL
  have hzW := hLL.size
  have HI0 : Hid (BelowI k l w.heap.size w1.heap.size (w1.heap.size + 1) (.slice p ts.length cp) W0 [] W0) := Lib.hid ⟨⟨_, hbx, World.ownsRow_nil _ _ _ _, Nat.zero_le _⟩, hbt, Below.refl _ _⟩
  clear hW0 hO hbx hbt hLL
  refine wpIn_rangeFunc_ownF rfl (by omega) (gf := 166) (lb := #[.pointer (some ⟨w1.heap.size + 1 + 1, 0, none⟩), .pointer (some ⟨w1.heap.size + 1, 0, none⟩)]) rfl trivial (enters_of Tryz.func166 (by kernel_rfl) rfl)
    (kids_stops ts hlen k x l HT.out 8 (w1.heap.size + 1) (w1.heap.size + 1 + 1) (.slice p ts.length cp) w W0 hST.out hNT.out HLL.out d1 d2) kb_t (kb_b hzW (by simp; omega)) (Below.refl _ _) (fun _ => rfl)
    (BelowI k l w.heap.size w1.heap.size (w1.heap.size + 1) (.slice p ts.length cp) W0) (fun _ _ _ => False) (belowI_own k l _ hzW hzW) (fun _ _ _ _ _ hs _ _ => hs) HI0.out
    (fun i => { tmps := #[.slice p ts.length cp, .int .i64 k, undef, undef, .slice none 0 0, .int .i64 0, .int .i64 Z, .int .i64 0, .pointer (some ⟨w1.heap.size, 0, none⟩), undef, .int .i64 (placeN k l i.1 : Int), .tuple #[.int .i64 Z, .int .i64 0], .slice p ts.length cp, .int .i64 k, .tuple #[.int .i64 Z, .int .i64 0], .int .i64 Z, .int .i64 0, .int .i64 0, .bool false, undef, .slice p ts.length cp, .int .i64 k, .func (.func 166) #[] #[.pointer (some ⟨w1.heap.size + 1 + 1, 0, none⟩), .pointer (some ⟨w1.heap.size + 1, 0, none⟩)], .int .i64 (i.1 : Int), .int .i64 (placeN k l i.1 : Int), undef, undef, undef, undef, undef], defers := [] }) ?assign ?body ?done ?stop
  case assign =>
    intro ll i W K hK
    gi_wp2
    exact hK
  case body =>
    rintro ll pre i W ⟨⟨u, hbx, hrow, hpl⟩, hc, hB⟩ hlt
    have hcB := hbx.cell
    have hfB := hbx.frozen
    have hzB := hB.size
    obtain ⟨pu, cu, rfl⟩ := B.owns_form hrow
    have HROW := Lib.hid hrow
    have HBX := Lib.hid hbx
    have HS : Hid (placesF k l (pre ++ [i]) = placesF k l pre ++ [.int .i64 (placeN k l i.1 : Int)]) := Lib.hid (by simp [placesF])
    have HB := Lib.hid hB
    have HC := Lib.hid hc
    obtain ⟨m, hm⟩ : ∃ m, pre.length = m := ⟨_, rfl⟩
    have HM := Lib.hid hm
    rw [hm] at HROW HBX hcB hlt
    generalize (placeN k l i.1 : Int) = X at *
    clear hrow hbx hm hpl hB hc HI0 hST hNT HK HZ
    gi_wp2_with (gi_at_builtin; go_must (refine wpListIn_push (base := w.heap.size) sliceInt HROW.out (by omega) rfl _ _ rfl rfl 1 _ rfl (by simp) rfl (by simp [Value.oneCell']) (by omega) (by unfold maxLen; omega) ?_; intro v9 w9 k1 k2; obtain ⟨hx1, hx2, hx3, hx4, hx5⟩ := Boxed.appended HBX.out (by decide) HROW.out (by omega) (by omega) k1 k2; have hcx := hx1.cell; have hfx := hx1.frozen; obtain ⟨p9, c9, rfl⟩ := B.owns_form k1))
    have hcn := HC.out.not_row (by decide) HROW.out
    have hbt9 : Boxed w9 (w1.heap.size + 1) 22 (.slice p ts.length cp) := (HC.out.alloc _).kept k2 hcn
    have hbt10 : Boxed (w9.setCell ⟨w1.heap.size, 0, none⟩ (.slice p9 (m + 1) c9)) (w1.heap.size + 1) 22 (.slice p ts.length cp) := Boxed.other hbt9 (by omega) _
    refine ⟨hx4, ⟨hx5, fun b hb j => ?_⟩, ⟨_, hx2, ?_, ?_⟩, hbt10, HB.out.trans hx5⟩
    · obtain rfl : b = w1.heap.size + 1 := by simpa using hb
      have h1 : (w9.setCell ⟨w1.heap.size, 0, none⟩ (.slice p9 (m + 1) c9)).heap[w1.heap.size + 1]? = W.heap[w1.heap.size + 1]? := by
        rw [show W.heap[w1.heap.size + 1]? = _ from HC.out, show (w9.setCell ⟨w1.heap.size, 0, none⟩ (.slice p9 (m + 1) c9)).heap[w1.heap.size + 1]? = _ from hbt10]
      exact World.cell?_of_block (w := W) (a := ⟨w1.heap.size + 1, j, none⟩) h1
    · rw [List.length_append, HM.out, HS.out]; exact hx3
    · rw [List.length_append, HM.out]; simp; omega
  case done =>
    rintro D ys W hD rfl ⟨⟨u, hbx, hrow, hpl⟩, hc, hB⟩ hK
    rw [List.length_finRange, placesF_all] at hrow
    obtain ⟨pu, cu, rfl⟩ := B.owns_form hrow
    have hcB := hbx.cell
    have HROW := Lib.hid hrow
    have HB := Lib.hid hB
    clear hbx hrow hpl hc hB HI0 hST hNT HK HZ
    gi_wp2
    refine ⟨by simp, .inl ⟨_, _, rfl, run_takeDeferred hK, ?_⟩⟩
    refine ⟨.tuple #[.slice pu l.length cu, .int .i64 0], by simp [results, Tryz.results125, go_sem], _, rfl, ownsRow_putObj HROW.out _ hK rfl, ?_⟩
    exact Below.trans (Below.trans HLL.out HB.out) (Below.grown (Below.refl _ _) (grownBy_putObj' W D (.deferred none)) (by have := HB.out.size; omega) (fun k e => by cases e; omega))
  case stop =>
    rintro D c pre W _ _ h _
    exact h.elim
end Go.Proofs.YtkjabiabeemfhaaGreatDoor
end
