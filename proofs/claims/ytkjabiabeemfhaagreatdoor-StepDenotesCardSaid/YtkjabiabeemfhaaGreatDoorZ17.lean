/- step: what is held on, and what is held in something's stead -/
import Derived.Test.YtkjabiabeemfhaaGreatDoorZ15
import Derived.Test.YtkjabiabeemfhaaGreatDoorZ13
import Derived.Test.YtkjabiabeemfhaaGreatDoorZ16
set_option linter.all false
set_option linter.all false
section
namespace Go.Proofs.YtkjabiabeemfhaaGreatDoor
open Go.RowKit
set_option maxRecDepth 100000
structure HdOk (ts : List Nd) (h : Hd) : Prop where
 tm : TmAt ts h.pl h.T
 so : h.T.sorted = true
 mc : makesI h.T.root.op = 2
 d0 : 0 ≤ h.day
 d1 : h.day ≤ 73048
 va : Valid h.n h.d
structure EnvOk (env : Env) : Prop where
 get : ∀ day, GetOk (env.get day)
 cho : ∀ k d p, env.cho k d = some p → p = 1 ∨ p = 2
theorem sorted_kid {x : Nd} {l : List Tm} (h : (Tm.node x l).sorted = true) {i : Nat} (hi : i < l.length) : (l[i]).sorted = true ∧ makesI (l[i]).root.op = belI x.op i := by
 unfold Tm.sorted at h
 simp only [Bool.and_eq_true] at h
 obtain ⟨h1, h2⟩ := h
 unfold Tm.top at h1
 exact ⟨(Tm.sorteds_iff l).1 h2 _ (List.getElem_mem _), (of_decide_eq_true h1) i hi⟩
theorem kidH_at {l : List Tm} {k i : Nat} {day n d : Int} (hi : i < l.length) : kidH l k i day n d = [⟨l[i], placeN k l i, day, n, d⟩] := by
 unfold kidH; rw [List.getElem?_eq_getElem hi]
theorem kidH_ok {ts : List Nd} {x : Nd} {l : List Tm} {k i : Nat} {day n d : Int} (hT : TmAt ts k (.node x l)) (hs : (Tm.node x l).sorted = true) (hb : belI x.op i = 2) (h0 : 0 ≤ day) (h1 : day ≤ 73048) (hv : Valid n d) : ∀ g ∈ kidH l k i day n d, HdOk ts g := by
 intro g hg
 unfold kidH at hg
 split at hg
 ·rename_i t ht
  obtain ⟨hi, rfl⟩ := List.getElem?_eq_some_iff.1 ht
  obtain rfl := List.mem_singleton.1 hg
  obtain ⟨h2, h3⟩ := sorted_kid hs hi
  exact ⟨placeN_at hT hi, h2, by rw [h3, hb], h0, h1, hv⟩
 ·cases hg
theorem kid_num {ts : List Nd} {T : Tm} (hG : Good ts T) (hok : ∀ x ∈ ts, x.ok) {x : Nd} {l : List Tm} {k i : Nat} (hT : TmAt ts k (.node x l)) (hs : (Tm.node x l).sorted = true) (hi : i < l.length) (hb : belI x.op i = 1) :
  TmAt ts (placeN k l i) l[i] ∧ NumT l[i] ∧ wrongV ts (placeN k l i : Nat) = 0 := by
 obtain ⟨h2, h3⟩ := sorted_kid hs hi
 have h4 := placeN_at hT hi
 rw [hb] at h3
 refine ⟨h4, numT_of hG.fields hok h4 h2 h3, ?_⟩
 have hle := h4.le
 have hp := (l[i]).size_pos
 unfold wrongV
 rw [if_neg (by rw [hG.ofE]; simp), if_neg (by omega), if_pos]
 obtain ⟨y, m, hy⟩ : ∃ y m, l[i] = Tm.node y m := ⟨(l[i]).root, (l[i]).kids, by generalize l[i] = t; cases t; rfl⟩
 rw [hy] at h4 h3
 rw [Int.toNat_natCast, h4.root.1]
 exact h3
theorem firstD_range {cho : Int → Int → Option Int} {key a b q : Int} (h : firstD cho key a b = some q) : 0 ≤ q ∧ q ≤ 73048 ∧ a ≤ q ∧ q ≤ b ∧ cho key q = some 1 := by
 unfold firstD at h
 rw [Option.map_eq_some_iff] at h
 obtain ⟨i, hi, rfl⟩ := h
 have h1 := List.mem_of_find?_eq_some hi
 have h2 := List.find?_some hi
 rw [List.mem_range] at h1
 simp only [decide_eq_true_eq] at h2
 exact ⟨by omega, by omega, h2.1, h2.2.1, h2.2.2⟩
theorem contract_ops {op : Int} (h : makesI op = 2) : 9 ≤ op ∧ op ≤ 17 := by
 unfold makesI at h
 split at h
 ·cases h
 ·split at h
  ·cases h
  ·omega
theorem fields_when {x : Nd} (h : fieldsB x = true) (h2 : x.op = 14) : 0 ≤ x.a ∧ x.a ≤ 73048 := by
 unfold fieldsB at h
 rw [h2] at h
 simp [limB, withinB] at h
 omega
theorem rat_step {n d p q : Int} (h1 : Valid n d) (h2 : Valid p q) (h : ¬ rE (n * p) (d * q) ≠ 0) : Valid (rN (n * p) (d * q)) (rD (n * p) (d * q)) := by
 have h0 : rE (n * p) (d * q) = 0 := by simpa using h
 have := fitQ_valid (N := n * p) (D := d * q) (Int.mul_pos h1.d0 h2.d0) (v := (rN (n * p) (d * q), rD (n * p) (d * q))) (by unfold fitQ; simp [h0])
 exact this
theorem one_ok {ts : List Nd} {T : Tm} {env : Env} {tod : Int} (hG : Good ts T) (hok : ∀ x ∈ ts, x.ok) (hE : EnvOk env) {h : Hd} (hh : HdOk ts h) : ∀ g ∈ (oneH env tod h).2.1, HdOk ts g := by
 obtain ⟨⟨x, l⟩, pl, day, n, d⟩ := h
 obtain ⟨hT, hs, hm, h0, h1, hv⟩ := hh
 simp only at hT hs hm h0 h1 hv
 have hops := contract_ops hm
 obtain ⟨r1, -, -, r4⟩ := hT.root
 have hx : fieldsB x = true := hG.fields x (List.mem_of_getElem? r1)
 have hnil : ∀ g ∈ ([] : List Hd), HdOk ts g := fun g hg => by cases hg
 unfold oneH
 split
 ·exact hnil
 show ∀ g ∈ (stepT env tod x l pl day n d).2.1, HdOk ts g
 unfold stepT
 by_cases h10 : x.op = 10
 ·rw [if_pos h10]; exact hnil
 rw [if_neg h10]
 by_cases h11 : x.op = 11
 ·rw [if_pos h11]; exact kidH_ok hT hs (by rw [h11]; decide) h0 h1 (valid_neg hv)
 rw [if_neg h11]
 by_cases h12 : x.op = 12
 ·rw [if_pos h12]
  intro g hg
  rcases List.mem_append.1 hg with hg | hg
  ·exact kidH_ok hT hs (by rw [h12]; decide) h0 h1 hv g hg
  ·exact kidH_ok hT hs (by rw [h12]; decide) h0 h1 hv g hg
 rw [if_neg h12]
 by_cases h13 : x.op = 13
 ·rw [if_pos h13]
  have hl : l.length = 2 := by rw [r4, h13]; decide
  obtain ⟨k1, k2, k3⟩ := kid_num hG hok hT hs (i := 0) (by omega) (by rw [h13]; decide)
  have hr := valT_res (hE.get day) k2
  have e : numT env day l 0 = valT (env.get day) l[0] := by unfold numT; rw [List.getElem?_eq_getElem (by omega)]
  unfold scaleT
  rw [e]
  split
  ·exact hnil
  split
  ·exact hnil
  rename_i v hv2
  split
  ·exact hnil
  rename_i h3
  exact kidH_ok hT hs (by rw [h13]; decide) h0 h1 (rat_step hv (hr.val v hv2) h3)
 rw [if_neg h13]
 by_cases h14 : x.op = 14
 ·rw [if_pos h14]
  obtain ⟨a0, a1⟩ := fields_when hx h14
  show ∀ g ∈ (if day ≤ x.a then kidH l pl 0 x.a n d else []), HdOk ts g
  split
  ·exact kidH_ok hT hs (by rw [h14]; decide) a0 a1 hv
  ·exact hnil
 rw [if_neg h14]
 by_cases h15 : x.op = 15
 ·rw [if_pos h15]
  unfold condT
  split
  ·exact hnil
  split
  ·exact hnil
  split
  ·refine kidH_ok hT hs ?_ h0 h1 hv
   split <;> (rw [h15]; decide)
  ·exact hnil
 rw [if_neg h15]
 by_cases h16 : x.op = 16
 ·rw [if_pos h16]
  split
  ·rename_i p hp
   refine kidH_ok hT hs ?_ h0 h1 hv
   rcases hE.cho _ _ _ hp with rfl | rfl <;> (rw [h16]; decide)
  ·exact hnil
 rw [if_neg h16]
 by_cases h17 : x.op = 17
 ·rw [if_pos h17]
  split
  ·rename_i q hq
   obtain ⟨q0, q1, -⟩ := firstD_range hq
   exact kidH_ok hT hs (by rw [h17]; decide) q0 q1 hv
  ·exact hnil
 rw [if_neg h17]
 exact hnil
theorem one_code {ts : List Nd} {T : Tm} {env : Env} {tod : Int} (hG : Good ts T) (hok : ∀ x ∈ ts, x.ok) (hE : EnvOk env) {h : Hd} (hh : HdOk ts h) : (oneH env tod h).1 = 0 ∨ (oneH env tod h).1 = 11 := by
 obtain ⟨⟨x, l⟩, pl, day, n, d⟩ := h
 obtain ⟨hT, hs, hm, h0, h1, hv⟩ := hh
 simp only at hT hs hm h0 h1 hv
 obtain ⟨r1, -, -, r4⟩ := hT.root
 unfold oneH
 split
 ·exact .inl rfl
 show (stepT env tod x l pl day n d).1 = 0 ∨ (stepT env tod x l pl day n d).1 = 11
 unfold stepT
 by_cases h10 : x.op = 10
 ·rw [if_pos h10]; exact .inl rfl
 rw [if_neg h10]
 by_cases h11 : x.op = 11
 ·rw [if_pos h11]; exact .inl rfl
 rw [if_neg h11]
 by_cases h12 : x.op = 12
 ·rw [if_pos h12]; exact .inl rfl
 rw [if_neg h12]
 by_cases h13 : x.op = 13
 ·rw [if_pos h13]
  have hl : l.length = 2 := by rw [r4, h13]; decide
  obtain ⟨k1, k2, k3⟩ := kid_num hG hok hT hs (i := 0) (by omega) (by rw [h13]; decide)
  have hr := valT_res (hE.get day) k2
  have e : numT env day l 0 = valT (env.get day) l[0] := by unfold numT; rw [List.getElem?_eq_getElem (by omega)]
  unfold scaleT
  rw [e]
  split
  ·exact hr.code
  split
  ·exact .inl rfl
  rename_i v hv2
  split
  ·rename_i h3
   have hv3 := hr.val v hv2
   have := fitQ_code (N := n * v.1) (D := d * v.2) (Int.mul_pos hv.d0 hv3.d0)
   exact this
  ·exact .inl rfl
 rw [if_neg h13]
 by_cases h14 : x.op = 14
 ·rw [if_pos h14]; exact .inl rfl
 rw [if_neg h14]
 by_cases h15 : x.op = 15
 ·rw [if_pos h15]
  have hl : l.length = 4 := by rw [r4, h15]; decide
  obtain ⟨k1, k2, k3⟩ := kid_num hG hok hT hs (i := 0) (by omega) (by rw [h15]; decide)
  obtain ⟨m1, m2, m3⟩ := kid_num hG hok hT hs (i := 1) (by omega) (by rw [h15]; decide)
  have e : numT env day l 0 = valT (env.get day) l[0] := by unfold numT; rw [List.getElem?_eq_getElem (by omega)]
  have e2 : numT env day l 1 = valT (env.get day) l[1] := by unfold numT; rw [List.getElem?_eq_getElem (by omega)]
  unfold condT
  rw [e, e2]
  split
  ·exact (valT_res (hE.get day) k2).code
  split
  ·exact (valT_res (hE.get day) m2).code
  split <;> exact .inl rfl
 rw [if_neg h15]
 by_cases h16 : x.op = 16
 ·rw [if_pos h16]; split <;> exact .inl rfl
 rw [if_neg h16]
 by_cases h17 : x.op = 17
 ·rw [if_pos h17]; split <;> exact .inl rfl
 rw [if_neg h17]
 exact .inl rfl
theorem keysI_le (op op' : Int) (l : List Nd) : (keysI op op' l).length ≤ 64 := keysU_len op op' l 64
theorem asks_le (env : Env) (day : Int) (s : Tm) : (asksT env day s).length ≤ 64 := by
 unfold asksT
 rw [List.length_map]
 exact Nat.le_trans (List.length_filter_le _ _) (keysI_le 2 2 s.flat)
theorem askI_le (env : Env) (day : Int) (l : List Tm) (i : Nat) : (askI env day l i).length ≤ 64 := by
 unfold askI
 split
 ·exact asks_le _ _ _
 ·exact Nat.zero_le _
theorem one_few (env : Env) (tod : Int) (h : Hd) : (oneH env tod h).2.2.1.length ≤ 1 ∧ (oneH env tod h).2.2.2.length ≤ 128 := by
 unfold oneH
 split
 ·exact ⟨Nat.zero_le _, Nat.zero_le _⟩
 unfold stepT
 have a0 := fun i => askI_le env h.day h.T.kids i
 have := a0 0
 have := a0 1
 repeat' split
 all_goals first | (exact ⟨Nat.zero_le _, Nat.zero_le _⟩) | (exact ⟨Nat.le_refl _, Nat.zero_le _⟩) | (exact ⟨Nat.zero_le _, by simp⟩) | skip
 ·unfold scaleT
  repeat' split
  all_goals first | (exact ⟨Nat.zero_le _, Nat.zero_le _⟩) | (exact ⟨Nat.zero_le _, by simp only; omega⟩)
 ·unfold condT
  repeat' split
  all_goals first | (exact ⟨Nat.zero_le _, Nat.zero_le _⟩) | (exact ⟨Nat.zero_le _, by simp only [List.length_append]; omega⟩)
theorem find_sorted' {α : Type} {R : α → α → Prop} {p : α → Bool} : ∀ {Y : List α} {y : α}, Y.Pairwise R → Y.find? p = some y → ∀ z ∈ Y, p z = true → z = y ∨ R y z
 | a :: r, y, h, hf, z, hz, hp => by
  rw [List.find?_cons] at hf
  obtain ⟨h1, h2⟩ := List.pairwise_cons.1 h
  split at hf
  ·cases hf
   rcases List.mem_cons.1 hz with rfl | hz
   ·exact .inl rfl
   ·exact .inr (h1 z hz)
  ·rename_i h3
   rcases List.mem_cons.1 hz with rfl | hz
   ·rw [h3] at hp; cases hp
   ·exact find_sorted' h2 hf z hz hp
def Left (env : Env) (tod : Int) (R : Rs) (F : List Fl) (W : List Wt) (q : List Hd) : Prop := ∃ n, sizesH q ≤ n ∧ comb (0, F, W) (runQ env tod n q) = R
theorem left_nil {env : Env} {tod : Int} {R : Rs} {F : List Fl} {W : List Wt} (h : Left env tod R F W []) : R = (0, F, W) := by
 obtain ⟨n, -, h⟩ := h
 rw [← h]
 cases n <;> simp [runQ, comb]
theorem left_err {env : Env} {tod : Int} {R : Rs} {F : List Fl} {W : List Wt} {h : Hd} {r : List Hd} (hl : Left env tod R F W (h :: r)) (h1 : (oneH env tod h).1 ≠ 0) : R = ((oneH env tod h).1, [], []) := by
 obtain ⟨n, hn, hl⟩ := hl
 cases n with
 | zero => have := h.T.size_pos; simp [sizesH] at hn; omega
 | succ n =>
  rw [← hl]
  simp only [runQ, h1, ne_eq, not_false_eq_true, if_true]
  unfold comb
  simp [h1]
theorem left_step {env : Env} {tod : Int} {R : Rs} {F : List Fl} {W : List Wt} {h : Hd} {r : List Hd} (hl : Left env tod R F W (h :: r)) (h1 : (oneH env tod h).1 = 0) :
  Left env tod R (F ++ (oneH env tod h).2.2.1) (W ++ (oneH env tod h).2.2.2) (r ++ (oneH env tod h).2.1) := by
 obtain ⟨n, hn, hl⟩ := hl
 cases n with
 | zero => have := h.T.size_pos; simp [sizesH] at hn; omega
 | succ n =>
  have hlt := one_lt env tod h
  refine ⟨n, ?_, ?_⟩
  ·simp only [sizesH, List.map_append, List.sum_append, List.map_cons, List.sum_cons] at hn hlt ⊢
   omega
  ·rw [← hl]
   simp only [runQ, h1, ne_eq, not_true_eq_false, if_false]
   generalize runQ env tod n (r ++ (oneH env tod h).2.1) = y
   unfold comb
   by_cases hy : y.1 = 0 <;> simp [hy]
theorem left_first (env : Env) (tod : Int) (h : Hd) : Left env tod (runQ env tod h.T.size [h]) [] [] [h] := by
 refine ⟨h.T.size, by simp [sizesH], ?_⟩
 generalize hr : runQ env tod h.T.size [h] = y
 unfold comb
 by_cases hy : y.1 = 0
 ·obtain ⟨a, b, c⟩ := y
  simp only at hy
  subst hy
  simp
 ·have : y.2 = ([], []) := by
   have key : ∀ n q, (runQ env tod n q).1 ≠ 0 → (runQ env tod n q).2 = ([], []) := by
    intro n
    induction n with
    | zero => intro q h; exact absurd rfl h
    | succ n ih =>
     intro q h
     cases q with
     | nil => exact absurd rfl h
     | cons g r =>
      simp only [runQ] at h ⊢
      by_cases h1 : (oneH env tod g).1 = 0
      ·simp only [h1, ne_eq, not_true_eq_false, if_false] at h ⊢
       unfold comb at h ⊢
       simp only [ne_eq, not_true_eq_false, if_false] at h ⊢
       split
       ·rfl
       ·rename_i h2; simp [h2] at h
      ·simp only [h1, ne_eq, not_false_eq_true, if_true]
   rw [← hr]; exact key _ _ (by rw [hr]; exact hy)
  obtain ⟨a, b⟩ := y
  simp only at hy this
  subst this
  simp [hy]
def runT (env : Env) (tod : Int) (T : Tm) (day : Int) : Rs := runQ env tod T.size [⟨T, 0, day, 1, 1⟩]
theorem tellCh_nodup {ch : ChL} {x : Td} (h : (ch.map (·.1)).Nodup) : ((tellCh ch x).map (·.1)).Nodup := by
 unfold tellCh chooseL
 split
 ·split
  ·exact putA_keys _ _ _ h
  ·exact h
 ·exact h
def ChOk (ch : ChL) : Prop := ∀ q p, getA ch q = some p → (p = 1 ∨ p = 2) ∧ 0 ≤ q.2 ∧ q.2 ≤ 73048
theorem choose_fine {k d p : Int} (h : chooseE k d p = 0) : (p = 1 ∨ p = 2) ∧ 0 ≤ d ∧ d ≤ 73048 := by
 unfold chooseE mayI at h
 split at h
 ·cases h
 ·rename_i h1
  split at h
  ·cases h
  ·rename_i h2
   simp only [Bool.not_eq_false, Bool.and_eq_true, Bool.or_eq_true, beq_iff_eq, decide_eq_true_eq] at h1 h2
   exact ⟨h1.2, h2⟩
theorem chOk_step {ch : ChL} {x : Td} (hn : (ch.map (·.1)).Nodup) (h : ChOk ch) : ChOk (tellCh ch x) := by
 intro q p hp
 unfold tellCh at hp
 split at hp
 ·unfold chooseL at hp
  split at hp
  ·rename_i h0
   rw [putA_get _ _ _ _ hn] at hp
   split at hp
   ·rename_i e
    cases hp
    subst e
    exact choose_fine h0
   ·exact h q p hp
  ·exact h q p hp
 ·exact h q p hp
def getC (ch : ChL) (k d : Int) : Option Int := getA ch (k, d)
theorem first_days {α : Type} {Y : List α} {p : α → Bool} {day : α → Int} {cho : Int → Int → Option Int} {key a b : Int} {R : α → α → Prop} (hs : Y.Pairwise R) (hR : ∀ x y, p x = true → p y = true → R x y → day x ≤ day y)
  (h1 : ∀ y ∈ Y, p y = true → a ≤ day y ∧ day y ≤ b ∧ 0 ≤ day y ∧ day y ≤ 73048 ∧ cho key (day y) = some 1)
  (h2 : ∀ d, a ≤ d → d ≤ b → cho key d = some 1 → ∃ y ∈ Y, p y = true ∧ day y = d) : (Y.find? p).map day = firstD cho key a b := by
 cases hf : Y.find? p with
 | none =>
  rw [Option.map_none]
  unfold firstD
  rw [List.find?_eq_none.2, Option.map_none]
  intro i hi hc
  simp only [decide_eq_true_eq] at hc
  obtain ⟨y, hy, hp, -⟩ := h2 _ hc.1 hc.2.1 hc.2.2
  have := List.find?_eq_none.1 hf y hy
  exact this hp
 | some y =>
  have hy := List.mem_of_find?_eq_some hf
  have hp := List.find?_some hf
  obtain ⟨a1, a2, a3, a4, a5⟩ := h1 y hy hp
  rw [Option.map_some]
  unfold firstD
  cases hg : (List.range 73049).find? (fun i : Nat => decide (a ≤ (i : Int) ∧ (i : Int) ≤ b ∧ cho key i = some 1)) with
  | none =>
   have := List.find?_eq_none.1 hg (day y).toNat (by rw [List.mem_range]; omega)
   have e : (((day y).toNat : Nat) : Int) = day y := by omega
   simp only [e, a1, a2, a5, and_self, decide_true, not_true_eq_false] at this
  | some i =>
   have hi := List.find?_some hg
   simp only [decide_eq_true_eq] at hi
   have hle := find_sorted' (List.pairwise_lt_range (n := 73049)) hg (day y).toNat (by rw [List.mem_range]; omega) (by
    have e : (((day y).toNat : Nat) : Int) = day y := by omega
    simp only [e, a1, a2, a5, and_self, decide_true])
   obtain ⟨z, hz, hpz, hdz⟩ := h2 _ hi.1 hi.2.1 hi.2.2
   rw [Option.map_some]
   congr 1
   have hyz : day y ≤ day z := by
    rcases find_sorted' hs hf z hz hpz with e | e
    ·rw [e]; omega
    ·exact hR y z hp hpz e
   rw [hdz] at hyz
   omega
def envT (fx : FxL) (ch : ChL) : Env := ⟨getF fx, getC ch⟩
theorem envT_ok {fx : FxL} {ch : ChL} (h : FxOk fx) (h2 : ChOk ch) : EnvOk (envT fx ch) := ⟨fun day => getOk_of h day, fun k d p hp => (h2 _ _ hp).1⟩
structure JobAt (w0 : World) (ts : List Nd) (T : Tm) (tv : Value) (fx : FxL) (ch : ChL) (p m1 m2 : Nat) : Prop where
 good : Good ts T
 ok : ∀ x ∈ ts, x.ok
 sh : Shapes w0
 nodes : IsNodes w0 tv ts
 facts : FactsAt w0 p m1 m2 fx ch
 fo : FxOk fx
 co : ChOk ch
 cn : (ch.map (·.1)).Nodup
 cl : ch.length ≤ 100000
theorem JobAt.len {w0 : World} {ts : List Nd} {T : Tm} {tv : Value} {fx : FxL} {ch : ChL} {p m1 m2 : Nat} (h : JobAt w0 ts T tv fx ch p m1 m2) : ts.length ≤ 100000 := Nat.le_trans h.good.len (by decide)
def NumsAt (ts : List Nd) (l : List (Nat × Tm)) : Prop := ∀ x ∈ l, TmAt ts x.1 x.2 ∧ NumT x.2 ∧ wrongV ts (x.1 : Nat) = 0
theorem vat_place {ts : List Nd} {fx : FxL} {day : Int} {j : Nat} {s : Tm} (hs : TmAt ts j s) (h : wrongV ts (j : Nat) = 0) (h0 : 0 ≤ day) (h1 : day ≤ 73048) : atV ts fx (j : Nat) day = valT (getF fx day) s := by
 unfold atV
 rw [if_neg (by rw [h]; simp), if_neg (by omega), Int.toNat_natCast, subAt_eq hs]
def resL (get : Int → Option Q2) (l : List (Nat × Tm)) : List (Int × Option Q2) := l.map (fun x => valT get x.2)
def outL (rs : List (Int × Option Q2)) : List Q2 := rs.map (fun r => (outN r, outD r))
def errL (rs : List (Int × Option Q2)) : Int := match rs.find? (fun r => decide (r.1 ≠ 0)) with | some r => r.1 | none => 0
def allL (rs : List (Int × Option Q2)) : Bool := rs.all (fun r => r.2.isSome)
def askW (env : Env) (day : Int) (l : List (Nat × Tm)) : List Wt := if errL (resL (env.get day) l) = 0 ∧ allL (resL (env.get day) l) = false then l.flatMap (fun x => asksT env day x.2) else []
theorem errL_at {rs : List (Int × Option Q2)} {i : Nat} (hi : i < rs.length) (h0 : ∀ q (hq : q < rs.length), q < i → (rs[q]).1 = 0) (h1 : (rs[i]).1 ≠ 0) : errL rs = (rs[i]).1 := by unfold errL; rw [find_first hi h0 h1]
theorem errL_none {rs : List (Int × Option Q2)} (h0 : ∀ r ∈ rs, r.1 = 0) : errL rs = 0 := by unfold errL; rw [find_none h0]
theorem allL_take {rs : List (Int × Option Q2)} {i : Nat} (hi : i < rs.length) : allL (rs.take (i + 1)) = (allL (rs.take i) && (rs[i]).2.isSome) := by
 unfold allL
 rw [List.take_succ_eq_append_getElem hi, List.all_append]
 simp
theorem outL_take {rs : List (Int × Option Q2)} {i : Nat} (hi : i < rs.length) : outL (rs.take (i + 1)) = outL (rs.take i) ++ [(outN rs[i], outD rs[i])] := by
 unfold outL
 rw [List.take_succ_eq_append_getElem hi, List.map_append]
 rfl
theorem own_set3 {w : World} {b : Nat} {p q r x y z : Value} (h : Own w [(b, #[p, q, r])]) : Own (((w.setCell ⟨b, 0, none⟩ x).setCell ⟨b, 1, none⟩ y).setCell ⟨b, 2, none⟩ z) [(b, #[x, y, z])] :=
 Own.cons (by simpa using h.1.1) (fun i => set_own (k := 2) (set_own (k := 1) (set_own (k := 0) h.1.2.1 x (by simp)) y (by simp)) z (by simp) i) (fun i hi => set_frozen (n := 3) (fun i hi => set_frozen (n := 3) (fun i hi => set_frozen (n := 3) h.1.2.2 x i hi) y i hi) z i hi) trivial
theorem row_lat {α : Type} {sz : Nat} {f : α → Nat → Value} {w w' : World} {v : Value} {xs : List α} {Z : Nat → Prop} (h : IsRow sz f w v xs) (hL : S.LatB Z w w') (hZ : ∀ k, v.ownBlock = some k → ¬ Z k) : IsRow sz f w' v xs := by
 rcases h with h | ⟨b, o, cap, h1, h2, h3, h4, h5⟩
 ·exact .inl h
 ·refine .inr ⟨b, o, cap, h1, Nat.lt_of_lt_of_le h2 hL.size, h3, h4, fun i hi j hj => ?_⟩
  rw [hL.cell h2 (hZ b (by rw [h1]; rfl))]
  exact h5 i hi j hj
theorem ints_lat {w w' : World} {v : Value} {zs : List Int} {Z : Nat → Prop} (h : IsInts w v zs) (hL : S.LatB Z w w') (hZ : ∀ k, v.ownBlock = some k → ¬ Z k) : IsInts w' v zs := by
 rcases h with h | ⟨b, o, cap, h1, h2, h3, h4, h5⟩
 ·exact .inl h
 ·refine .inr ⟨b, o, cap, h1, Nat.lt_of_lt_of_le h2 hL.size, h3, h4, fun j hj => ?_⟩
  rw [hL.cell h2 (hZ b (by rw [h1]; rfl))]
  exact h5 j hj
theorem flat_mem {ts : List Nd} {j : Nat} {s : Tm} (h : TmAt ts j s) {x : Nd} (hx : x ∈ s.flat) : x ∈ ts := by
 obtain ⟨r, hr⟩ := h.2
 have : x ∈ ts.drop j := by rw [← hr]; exact List.mem_append_left _ hx
 exact List.mem_of_mem_drop this
theorem flat_keys {ts : List Nd} {T : Tm} (hG : Good ts T) {j : Nat} {s : Tm} (h : TmAt ts j s) : ∀ x ∈ s.flat, x.op = 2 → 0 ≤ x.a ∧ x.a < 64 := fun x hx h2 => key_range (hG.fields x (flat_mem h hx)) h2
def askK (env : Env) (day : Int) (ks : List Int) : List Wt := (ks.filter (fun k => (env.get day k).isNone)).map (fun k => ⟨false, k, day⟩)
theorem askK_take {env : Env} {day : Int} {ks : List Int} {k : Nat} (h : k < ks.length) : askK env day (ks.take (k + 1)) = askK env day (ks.take k) ++ if (env.get day ks[k]).isNone then [⟨false, ks[k], day⟩] else [] := by
 unfold askK
 rw [List.take_succ_eq_append_getElem h, List.filter_append, List.map_append]
 congr 1
 cases hc : (env.get day ks[k]).isNone <;> simp [hc]
theorem askK_le (env : Env) (day : Int) (ks : List Int) : (askK env day ks).length ≤ ks.length := by unfold askK; rw [List.length_map]; exact List.length_filter_le _ _
theorem flat_le (env : Env) (day : Int) (l : List (Nat × Tm)) : (l.flatMap (fun x => asksT env day x.2)).length ≤ 64 * l.length := by
 induction l with
 | nil => simp
 | cons a l ih =>
  have := asks_le env day a.2
  rw [List.flatMap_cons, List.length_append, List.length_cons]
  omega
def ValEnd (env : Env) (lo : Nat) (w : World) (b : Nat) (tv : Value) (tod : Int) (fp rv fv wv : Value) (H : List Hd) (F : List Fl) (W : List Wt) (day : Int) (l : List (Nat × Tm)) (e : Ending) (w' : World) : Prop :=
 ∃ wv', StudyAt lo w' b tv tod fp rv fv wv' H F (W ++ askW env day l) ∧ S.LatB (fun k => k = b ∨ wv.ownBlock = some k) w w' ∧ (wv'.ownBlock = wv.ownBlock ∨ ∀ k, wv'.ownBlock = some k → w.heap.size ≤ k) ∧
  ∃ v' k', e = .returned (.tuple #[v', .bool k', .int .i64 (errL (resL (env.get day) l))]) ∧ (errL (resL (env.get day) l) = 0 → k' = allL (resL (env.get day) l) ∧ IsRats w' v' (outL (resL (env.get day) l)))
theorem ints1 {w : World} {ta : TypeId} {k : Nat} (a : Int) (hk : k = w.heap.size) : IsInts (w.alloc (.cells #[.int .i64 a] ta)).drew (.slice (some ⟨k, 0, none⟩) 1 1) [a] := by
 subst hk
 obtain ⟨z, hc, -⟩ := own_get (own_alloc w #[.int .i64 a] ta)
 refine .inr ⟨w.heap.size, 0, 1, rfl, z, Nat.le_refl _, by unfold maxLen; omega, fun j hj => ?_⟩
 have hj3 : j < 1 := hj
 show (w.alloc _).cell? _ = _
 rw [Nat.zero_add, hc j]
 rcases j with _ | j
 ·rfl
 ·omega
theorem ints2d {w : World} {ta : TypeId} {k : Nat} (a c : Int) (hk : k = w.heap.size) : IsInts (w.alloc (.cells #[.int .i64 a, .int .i64 c] ta)).drew (.slice (some ⟨k, 0, none⟩) 2 2) [a, c] := by
 subst hk
 obtain ⟨z, hc, -⟩ := own_get (own_alloc w #[.int .i64 a, .int .i64 c] ta)
 refine .inr ⟨w.heap.size, 0, 2, rfl, z, Nat.le_refl _, by unfold maxLen; omega, fun j hj => ?_⟩
 have hj3 : j < 2 := hj
 show (w.alloc _).cell? _ = _
 rw [Nat.zero_add, hc j]
 rcases j with _ | _ | j
 ·rfl
 ·rfl
 ·omega
theorem Later.undrew' {a b : World} (h : Later a.drew b) : Later a b := h.undrew
theorem val_one {env : Env} {lo : Nat} {w : World} {b : Nat} {tv : Value} {tod : Int} {fp rv fv wv : Value} {H : List Hd} {F : List Fl} {W : List Wt} {day : Int} {k : Nat} {s : Tm} {e : Ending} {w' : World} {R : Int × Option Q2} (hR : valT (env.get day) s = R) (h : ValEnd env lo w b tv tod fp rv fv wv H F W day [(k, s)] e w') :
  ∃ wv', StudyAt lo w' b tv tod fp rv fv wv' H F (W ++ if R.1 = 0 ∧ R.2.isSome = false then asksT env day s else []) ∧ S.LatB (fun k => k = b ∨ wv.ownBlock = some k) w w' ∧ (wv'.ownBlock = wv.ownBlock ∨ ∀ k, wv'.ownBlock = some k → w.heap.size ≤ k) ∧
   ∃ v' k', e = .returned (.tuple #[v', .bool k', .int .i64 R.1]) ∧ (R.1 = 0 → k' = R.2.isSome ∧ IsRats w' v' [(outN R, outD R)]) := by
 have hr : resL (env.get day) [(k, s)] = [R] := by simp [resL, hR]
 have he : errL [R] = R.1 := by
  unfold errL
  by_cases h0 : R.1 = 0 <;> simp [h0]
 have ha : allL [R] = R.2.isSome := by simp [allL]
 obtain ⟨wv', h1, h2, h3, v', k', h4, h5⟩ := h
 rw [hr, he] at h4 h5
 rw [ha] at h5
 refine ⟨wv', ?_, h2, h3, v', k', h4, h5⟩
 unfold askW at h1
 rw [hr, he, ha] at h1
 simpa using h1
theorem val_two {env : Env} {lo : Nat} {w : World} {b : Nat} {tv : Value} {tod : Int} {fp rv fv wv : Value} {H : List Hd} {F : List Fl} {W : List Wt} {day : Int} {k j : Nat} {s t : Tm} {e : Ending} {w' : World} {R U : Int × Option Q2} (hR : valT (env.get day) s = R) (hU : valT (env.get day) t = U) (h : ValEnd env lo w b tv tod fp rv fv wv H F W day [(k, s), (j, t)] e w') :
  ∃ wv', StudyAt lo w' b tv tod fp rv fv wv' H F (W ++ if (if R.1 = 0 then U.1 else R.1) = 0 ∧ (R.2.isSome && U.2.isSome) = false then asksT env day s ++ asksT env day t else []) ∧ S.LatB (fun k => k = b ∨ wv.ownBlock = some k) w w' ∧ (wv'.ownBlock = wv.ownBlock ∨ ∀ k, wv'.ownBlock = some k → w.heap.size ≤ k) ∧
   ∃ v' k', e = .returned (.tuple #[v', .bool k', .int .i64 (if R.1 = 0 then U.1 else R.1)]) ∧ ((if R.1 = 0 then U.1 else R.1) = 0 → k' = (R.2.isSome && U.2.isSome) ∧ IsRats w' v' [(outN R, outD R), (outN U, outD U)]) := by
 have hr : resL (env.get day) [(k, s), (j, t)] = [R, U] := by simp [resL, hR, hU]
 have he : errL [R, U] = if R.1 = 0 then U.1 else R.1 := by
  unfold errL
  by_cases h0 : R.1 = 0
  ·by_cases h1 : U.1 = 0 <;> simp [h0, h1]
  ·simp [h0]
 have ha : allL [R, U] = (R.2.isSome && U.2.isSome) := by simp [allL]
 obtain ⟨wv', h1, h2, h3, v', k', h4, h5⟩ := h
 rw [hr, he] at h4 h5
 rw [ha] at h5
 refine ⟨wv', ?_, h2, h3, v', k', h4, h5⟩
 unfold askW at h1
 rw [hr, he, ha] at h1
 simpa using h1
namespace B
theorem wpList_queRows {α : Type} {sz : Nat} {f : α → Nat → Value} {w : World} {v : Value} {xs : List α} {P : Program} {base : Nat} {e t bytes : Nat} {V : Value} {n : Nat} {L : List Value} {ops : Array Oper} {rest : List Oper} {o : Oper} {a : Act} {Q : Exit → Act → World → Prop} (cs : α → List Value) (hcs : ∀ x, (cs x).length = sz) (hf : ∀ x j, j < sz → (cs x)[j]? = some (f x j)) (h1 : ∀ x, ∀ u ∈ cs x, u.oneCell' = true)
  (T : SliceOf P t e sz bytes) (hM : Que base sz w V n L) (hbase : base ≤ w.heap.size) (hN : IsRow sz f w v xs) (hgd : o.guard = none) (s x : Operand)
  (ho : o.op = .call { callee := .builtin .append, args := #[s, x], argTypes := #[t, t] }) (hs : a.eval s = V) (hx : a.eval x = v) (h64 : n + xs.length ≤ 1000000) (hb : bytes ≤ 1000)
  (h : ∀ v' w', Que base sz w' v' (n + xs.length) (L ++ xs.flatMap cs) → w.grownBy w' V.ownBlock → (v'.ownBlock = V.ownBlock ∨ ∀ k, v'.ownBlock = some k → w.heap.size ≤ k) → wpList P ops Q rest (a.put o.dst v') w') : wpList P ops Q (o :: rest) a w := by
 have hsz : 0 < sz := by obtain ⟨_, _, _, _, _, _, _, _, h⟩ := T; exact h
 by_cases h0 : v = .slice Option.none 0 0
 ·have hx0 : xs = [] := by
   rcases hN with ⟨_, h2⟩ | ⟨b', o', c', h1, _⟩
   ·exact h2
   ·rw [h0] at h1; cases h1
  subst hx0
  subst h0
  obtain ⟨i, z, t1, t2, t3, t4, t5, t6, t7⟩ := T
  refine wpList_plain hgd fun K hK => ?_
  have hrun : (Builtin.append_ #[t, t] o.type #[V, .slice Option.none 0 0]).run P w = .ok V w := by
   rcases hM.2 with ⟨rfl, rfl⟩ | ⟨g, q, cap, rfl, _, _, hnc, _⟩
   ·simp [Builtin.append_, run_underlying t1, sizeOf, typeInfo, t2, Builtin.lenOf, Builtin.firstCells]
   ·simp [Builtin.append_, run_underlying t1, sizeOf, typeInfo, t2, Builtin.lenOf, Builtin.firstCells, hnc, storeCells]
  have hq := h V w (by simpa using hM) ⟨rfl, rfl, rfl, Nat.le_refl _, fun _ _ _ => rfl⟩ (.inl rfl)
  unfold Oper.wp
  simp [execOp, ho, resolve, invoke, builtin, hs, hx, hrun, Result.andThen]
  exact hK _ _ hq
 ·obtain ⟨ad, c, rfl, _, hc⟩ := cellsAt hN cs hcs hf hsz h0
  refine wpList_que T hM hbase hgd s x ho hs ad xs.length c (xs.flatMap cs) hx (flat_len (sz := sz) cs hcs xs) hc (fun u hu => ?_) ?_ (by unfold maxLen; omega) h
  ·obtain ⟨y, _, hy⟩ := List.mem_flatMap.1 hu
   exact h1 y u hy
  ·have := Nat.mul_le_mul h64 hb
   omega
end B
theorem heldInfo : (Tryz.prog.info? 167).map (fun i => (i.zero, i.size, i.bytes)) = some (some (.agg #[.int .i64 0, .int .i64 0, .int .i64 0, .int .i64 0]), 4, 32) := by kernel_rfl
theorem sliceHeld : SliceOf Tryz.prog 168 167 4 32 := sliceOf_mk Tryz.underlying168 heldInfo rfl (by decide)
def FreshV (w : World) (v v' : Value) : Prop := v'.ownBlock = v.ownBlock ∨ ∀ k, v'.ownBlock = some k → w.heap.size ≤ k
def heldV (h : Hd) : Value := .agg #[.int .i64 h.pl, .int .i64 h.day, .int .i64 h.n, .int .i64 h.d]
set_option maxHeartbeats 3200000 in
theorem tkeep_any (lo : Nat) (w : World) (b : Nat) (tv : Value) (tod : Int) (fp nv kv fv wv : Value) (H K : List Hd) (F : List Fl) (W : List Wt) (h : Hd) (asks : List Wt) (av : Value) (hlo : lo ≤ w.heap.size) (hlen : K.length ≤ 100000) (hlenW : W.length + asks.length ≤ 100000) (hst : TurnAt lo w b tv tod fp nv kv fv wv H K F W)
  (hA : IsWaits w av asks) (hAb : ∀ k, av.ownBlock = some k → k ≠ b ∧ kv.ownBlock ≠ some k ∧ wv.ownBlock ≠ some k) :
  Calls Tryz.prog 124 #[.pointer (some ⟨b, 0, none⟩), heldV h, av] w fun e w' =>
   e = .returned (.tuple #[]) ∧ ∃ kv' wv', TurnAt lo w' b tv tod fp nv kv' fv wv' H (K ++ [h]) F (W ++ asks) ∧ S.LatB (fun k => k = b ∨ kv.ownBlock = some k ∨ wv.ownBlock = some k) w w' ∧ FreshV w kv kv' ∧ FreshV w wv wv' := by
 obtain ⟨T, pl, day, n, d⟩ := h
 unfold heldV
 simp only
 obtain ⟨M, hM⟩ : ∃ M, K.length = M := ⟨_, rfl⟩
 obtain ⟨rp, rc, hr⟩ := hst.kept.form
 obtain ⟨ap, ac, har⟩ := hA.form
 have HST := Lib.hid hst
 rw [hM] at hr hlen
 have HK := Lib.hid hM
 have hrb := hst.kvb
 obtain ⟨⟨z, c, f⟩, -⟩ := id hst.own
 clear hst hM
 subst hr
 subst har
 have c1 : w.cell? ⟨b, 1, none⟩ = some (.slice rp M rc) := c 1
 have f1 : w.frozen? ⟨b, 1, none⟩ = false := f 1 (by simp)
 clear c f
 obtain ⟨NA, hNA⟩ : ∃ n, asks.length = n := ⟨_, rfl⟩
 rw [hNA] at hA hAb hlenW ⊢
 have HNA := Lib.hid hNA
 have HAW := Lib.hid hA
 have HAB := Lib.hid hAb
 clear hNA hA hAb
 go_enter Tryz.func124, Tryz.ntmps124
 go_upto_region 1 with (fail)
 refine wp_opaque (fun W1 hb1 => ?_)
 have hO1 := Own.one hb1
 have hw1 := hb1.un1
 clear hb1
 obtain ⟨⟨z7, c7, f7⟩, -⟩ := id hO1
 have hz1 := hw1.size
 replace c1 := ((bcell hw1).1 _ 1 z).trans c1
 replace f1 := ((bcell hw1).2 _ 1 z).trans f1
 have HS1 := Lib.hid (HST.out.later hw1)
 have hne : ¬ (Value.slice rp M rc).ownBlock = some w.heap.size := fun e => by have := HST.out.kept.lo _ e; omega
 have hzb : b < W1.heap.size := Nat.lt_of_lt_of_le z hz1
 have HL : Hid (K.length = M ∧ M ≤ 100000) := Lib.hid ⟨HK.out, hlen⟩
 have HF : Hid (∀ z ∈ [(b, (#[nv, .slice rp M rc, fv, wv, tv, .int .i64 tod, fp] : Array Value))], (Value.slice rp M rc).ownBlock ≠ some z.1) := Lib.hid (fun z hz => by
  simp only [List.mem_cons, List.not_mem_nil, or_false] at hz
  subst hz
  exact hrb)
 have HX := HST
 clear HST HK hO1
 go_cut [] (fun wx => ∃ kv', Hid (TurnAt lo wx b tv tod fp nv kv' fv wv H (K ++ [⟨T, pl, day, n, d⟩]) F W ∧ S.LatB (fun k => k = b ∨ (Value.slice rp M rc).ownBlock = some k) w wx ∧ FreshV w (.slice rp M rc) kv'))
 case first =>
  refine S.wp_region_plan (S := (fun k => (Value.slice rp M rc).ownBlock = some k)) 10 (.two [0, 1, 5] 2 (.one [3, 4] 6 (.one [] 7 (.one [] 8 (.one [9] 10 (.done []))))) 6 (.one [] 2 (.one [3, 4] 7 (.one [] 8 (.one [9] 10 (.done [])))))) (by kernel_rfl) (by kernel_rfl) (fun _ _ d _ _ h => by cases d <;> exact h) ?_
  repeat' (first
   | ((first | refine S.plan_done (fun K hK => ?_) | refine S.plan_one (by rfl) (fun K hK => ?_)); (first | (simp only [zq9]; repeat (go_big_quiet_step (fail))) | simp only [pick_nil]); refine wpQuiet_nil (hK _ ?_); clear hK K)
   | (refine S.plan_two (by rfl) (by rfl) (fun K hK => ?_); (first | (simp only [zq9]; repeat (go_big_quiet_step (fail))) | simp only [pick_nil]); refine wpQuiet_nil (hK _ ?_); clear hK K; refine ⟨?_, ?_⟩)
   | ((with_reducible refine at_list ?_); (try simp only [List.getElem_toArray, List.getElem_cons_succ, List.getElem_cons_zero]); go_wp2_with ((at_builtin; go_must (refine B.wpList_quePushD (base := lo) (n := M) (xs := K.flatMap hdCs) #[.int .i64 pl, .int .i64 day, .int .i64 n, .int .i64 d] sliceHeld (HL.out.1 ▸ HS1.out.kept) (Nat.le_trans hlo hz1) rfl _ _ rfl rfl 1 W1.heap.size rfl rfl rfl (by simp [Value.oneCell']) (by have := HL.out; omega) (by have := HL.out; unfold maxLen; omega) ?_; intro v9 w9 h1 h2 h3; obtain ⟨p8, c8, rfl⟩ := B.Que.form h1; have hS9 := S.LatB.grown (S := fun k => (Value.slice rp M rc).ownBlock = some k) (S.LatB.refl _) h2 (fun k hk => hk); have hO9 := B.own_grown (HS1.out.own.later (((Later.refl _).alloc _).drew)) h2 HF.out; have hc9 : w9.cell? ⟨b, 1, none⟩ = some (.slice rp M rc) := hO9.1.2.1 1; have hf9 : w9.frozen? ⟨b, 1, none⟩ = false := hO9.1.2.2 1 (by simp); have HO9 := Lib.hid hO9; clear hO9))); first | refine S.behind_store (t := 10) (by decide) ?_ | refine S.behind (by repeat (first | with_reducible exact S.LatB.refl _ | with_reducible assumption | with_reducible refine S.LatB.ofdrew ?_ | with_reducible refine S.LatB.drew ?_ | with_reducible refine S.LatB.alloc ?_ _ | (with_reducible refine S.LatB.of ?_))) ?_))
  all_goals
   go_wp2_with fail
   go_meet
   have hx := HX.out.put_kept ((hw1.alloc _).drew) h2 (L' := K ++ [⟨T, pl, day, n, d⟩]) (h3.imp id (fun h k hk => Nat.le_trans hz1 (h k hk))) (by rw [List.flatMap_append, List.length_append, HL.out.1]; exact h1)
   exact ⟨_, Lib.hid ⟨hx.1, hx.2, h3.imp id (fun h k hk => Nat.le_trans hz1 (h k hk))⟩⟩
 case rest =>
  obtain ⟨kv', HT⟩ := hcut
  obtain ⟨N, hN⟩ : ∃ n, W.length = n := ⟨_, rfl⟩
  obtain ⟨wp, wk, hwv⟩ := HT.out.1.waits.form
  rw [hN] at hwv hlenW
  have HN := Lib.hid hN
  subst hwv
  obtain ⟨⟨zc, cc, fc⟩, -⟩ := id HT.out.1.own
  have c3 : wc.cell? ⟨b, 3, none⟩ = some (.slice wp N wk) := cc 3
  have f3 : wc.frozen? ⟨b, 3, none⟩ = false := fc 3 (by simp)
  have hzc := HT.out.2.1.size
  have HAc : Hid (IsWaits wc (.slice ap NA ac) asks) := Lib.hid (row_lat HAW.out HT.out.2.1 (fun k hk h => by
   have := HAB.out k hk
   rcases h with h | h
   ·exact this.1 h
   ·exact this.2.1 h))
  have HF3 : Hid (∀ z ∈ [(b, (#[nv, kv', fv, .slice wp N wk, tv, .int .i64 tod, fp] : Array Value))], (Value.slice wp N wk).ownBlock ≠ some z.1) := Lib.hid (fun z hz => by
   simp only [List.mem_cons, List.not_mem_nil, or_false] at hz
   subst hz
   exact HT.out.1.wvb)
  clear cc fc hN HX HS1 HF HL hne c1 f1 c7 f7 z7 hz1 hw1
  go_wp2_with (at_builtin; go_must (refine B.wpList_queRows (base := lo) wtCs wtCs_len wtCs_get wtCs_one sliceWait (HN.out ▸ HT.out.1.waits) (Nat.le_trans hlo hzc) HAc.out rfl _ _ rfl rfl rfl (by rw [HNA.out]; omega) (by decide) ?_; intro v9 w9 h1 h2 h3; rw [HNA.out] at h1; obtain ⟨p9, c9, rfl⟩ := B.Que.form h1; have hO9 := B.own_grown HT.out.1.own h2 HF3.out; have hc9 : w9.cell? ⟨b, 3, none⟩ = some (.slice wp N wk) := hO9.1.2.1 3; have hf9 : w9.frozen? ⟨b, 3, none⟩ = false := hO9.1.2.2 3 (by simp); have hz9 : b < w9.heap.size := hO9.1.1; have HO9 := Lib.hid hO9; clear hO9))
  go_end0
  have hx := HT.out.1.put_waits (Later.refl _) h2 (L' := W ++ asks) h3 (by rw [List.flatMap_append, List.length_append, HN.out, HNA.out]; exact h1)
  refine ⟨rfl, kv', _, hx.1, ?_, HT.out.2.2, h3.imp id (fun h k hk => Nat.le_trans hzc (h k hk))⟩
  exact (HT.out.2.1.mono (fun k hk => hk.imp id .inl)).trans (hx.2.mono (fun k hk => hk.imp id .inr))
set_option maxHeartbeats 3200000 in
theorem tthen_any (lo : Nat) (w : World) (b : Nat) (tv : Value) (tod : Int) (fp nv kv fv wv : Value) (H K : List Hd) (F : List Fl) (W : List Wt) (h : Hd) (at0 : Int) (hlo : lo ≤ w.heap.size) (hlen : H.length ≤ 100000) (hst : TurnAt lo w b tv tod fp nv kv fv wv H K F W) :
  Calls Tryz.prog 168 #[.pointer (some ⟨b, 0, none⟩), .agg #[.int .i64 at0, .int .i64 h.day, .int .i64 h.n, .int .i64 h.d], .int .i64 h.pl] w fun e w' =>
   e = .returned (.tuple #[]) ∧ ∃ nv', TurnAt lo w' b tv tod fp nv' kv fv wv (H ++ [h]) K F W ∧ S.LatB (fun k => k = b ∨ nv.ownBlock = some k) w w' ∧ FreshV w nv nv' := by
 obtain ⟨T, pl, day, n, d⟩ := h
 simp only
 obtain ⟨M, hM⟩ : ∃ M, H.length = M := ⟨_, rfl⟩
 obtain ⟨rp, rc, hr⟩ := hst.next.form
 have HST := Lib.hid hst
 rw [hM] at hr hlen
 have HK := Lib.hid hM
 have hrb := hst.nvb
 obtain ⟨⟨z, c, f⟩, -⟩ := id hst.own
 clear hst hM
 subst hr
 have c0 : w.cell? ⟨b, 0, none⟩ = some (.slice rp M rc) := c 0
 have f0 : w.frozen? ⟨b, 0, none⟩ = false := f 0 (by simp)
 clear c f
 go_enter Tryz.func168, Tryz.ntmps168
 go_upto_region 1 with (fail)
 refine wp_opaque (fun W0 hb1 => ?_)
 have hO0 := Own.one hb1
 have hw0 := hb1.un1
 clear hb1
 obtain ⟨D, hD⟩ : ∃ D, w.heap.size = D := ⟨_, rfl⟩
 rw [hD] at hO0 ⊢
 obtain ⟨⟨z7, c7, f7⟩, -⟩ := id hO0
 have d0 : W0.cell? ⟨D, 0, none⟩ = some (.int .i64 at0) := c7 0
 have g0 : W0.frozen? ⟨D, 0, none⟩ = false := f7 0 (by simp)
 clear c7 f7
 go_upto_region 2 with (fail)
 have hO1 := B.own_at hO0 (k := 0) (by simp) (.int .i64 pl)
 have hw1 : Later w (W0.setCell ⟨D, 0, none⟩ (.int .i64 pl)) := hw0.putCell (by rw [hD]; exact Nat.le_refl _) _
 obtain ⟨W1, hW1⟩ : ∃ x, W0.setCell ⟨D, 0, none⟩ (.int .i64 pl) = x := ⟨_, rfl⟩
 rw [hW1] at hO1 hw1 ⊢
 clear hW1 hO0 hw0 d0 g0 z7
 obtain ⟨⟨z7, c7, f7⟩, -⟩ := id hO1
 have hz1 := hw1.size
 replace c0 := ((bcell hw1).1 _ 0 z).trans c0
 replace f0 := ((bcell hw1).2 _ 0 z).trans f0
 have HS1 := Lib.hid (HST.out.later hw1)
 have hne : ¬ (Value.slice rp M rc).ownBlock = some D := fun e => by have := HST.out.next.lo _ e; omega
 have hzb : b < W1.heap.size := Nat.lt_of_lt_of_le z hz1
 have HL : Hid (H.length = M ∧ M ≤ 100000) := Lib.hid ⟨HK.out, hlen⟩
 have HF : Hid (∀ z ∈ [(b, (#[.slice rp M rc, kv, fv, wv, tv, .int .i64 tod, fp] : Array Value))], (Value.slice rp M rc).ownBlock ≠ some z.1) := Lib.hid (fun z hz => by
  simp only [List.mem_cons, List.not_mem_nil, or_false] at hz
  subst hz
  exact hrb)
 have HX := HST
 clear HST HK hO1
 refine S.wp_region_plan (S := (fun k => (Value.slice rp M rc).ownBlock = some k)) 10 (.two [0, 1, 5] 2 (.one [3, 4] 6 (.one [] 7 (.one [] 8 (.one [9] 10 (.done []))))) 6 (.one [] 2 (.one [3, 4] 7 (.one [] 8 (.one [9] 10 (.done [])))))) (by kernel_rfl) (by kernel_rfl) (fun _ _ d _ _ h => by cases d <;> exact h) ?_
 repeat' (first
  | ((first | refine S.plan_done (fun K hK => ?_) | refine S.plan_one (by rfl) (fun K hK => ?_)); (first | (simp only [zq9]; repeat (go_big_quiet_step (fail))) | simp only [pick_nil]); refine wpQuiet_nil (hK _ ?_); clear hK K)
  | (refine S.plan_two (by rfl) (by rfl) (fun K hK => ?_); (first | (simp only [zq9]; repeat (go_big_quiet_step (fail))) | simp only [pick_nil]); refine wpQuiet_nil (hK _ ?_); clear hK K; refine ⟨?_, ?_⟩)
  | ((with_reducible refine at_list ?_); (try simp only [List.getElem_toArray, List.getElem_cons_succ, List.getElem_cons_zero]); go_wp2_with ((at_builtin; go_must (refine B.wpList_quePushD (base := lo) (n := M) (xs := H.flatMap hdCs) #[.int .i64 pl, .int .i64 day, .int .i64 n, .int .i64 d] sliceHeld (HL.out.1 ▸ HS1.out.next) (Nat.le_trans hlo (hD ▸ hz1)) rfl _ _ rfl rfl 1 W1.heap.size rfl rfl rfl (by simp [Value.oneCell']) (by have := HL.out; omega) (by have := HL.out; unfold maxLen; omega) ?_; intro v9 w9 h1 h2 h3; obtain ⟨p8, c8, rfl⟩ := B.Que.form h1; have hS9 := S.LatB.grown (S := fun k => (Value.slice rp M rc).ownBlock = some k) (S.LatB.refl _) h2 (fun k hk => hk); have hO9 := B.own_grown (HS1.out.own.later (((Later.refl _).alloc _).drew)) h2 HF.out; have hc9 : w9.cell? ⟨b, 0, none⟩ = some (.slice rp M rc) := hO9.1.2.1 0; have hf9 : w9.frozen? ⟨b, 0, none⟩ = false := hO9.1.2.2 0 (by simp); have HO9 := Lib.hid hO9; clear hO9))); first | refine S.behind_store (t := 10) (by decide) ?_ | refine S.behind (by repeat (first | with_reducible exact S.LatB.refl _ | with_reducible assumption | with_reducible refine S.LatB.ofdrew ?_ | with_reducible refine S.LatB.drew ?_ | with_reducible refine S.LatB.alloc ?_ _ | (with_reducible refine S.LatB.of ?_))) ?_))
 all_goals
  go_wp2
  go_end0
  have hx := HX.out.put_next ((hw1.alloc _).drew) h2 (L' := H ++ [⟨T, pl, day, n, d⟩]) (h3.imp id (fun h k hk => Nat.le_trans hz1 (h k hk))) (by rw [List.flatMap_append, List.length_append, HL.out.1]; exact h1)
  exact ⟨rfl, _, hx.1, hx.2, h3.imp id (fun h k hk => Nat.le_trans hz1 (h k hk))⟩
end Go.Proofs.YtkjabiabeemfhaaGreatDoor
end
