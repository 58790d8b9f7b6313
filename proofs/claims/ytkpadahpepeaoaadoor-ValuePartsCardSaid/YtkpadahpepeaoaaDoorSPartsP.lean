/- a sum of two numbers: the plain laws -/
import Derived.Test.YtkpadahpepeaoaaDoorSStaysP
set_option linter.all false
namespace Go.Proofs.YtkpadahpepeaoaaDoor
open Go.RowKit
set_option maxRecDepth 100000

def joinN (op : Int) (a b : List Nd) : List Nd := ⟨op, 0, 0, 0, 0⟩ :: (a ++ b)
def joinT (op : Int) (s t : Tm) : Tm := .node ⟨op, 0, 0, 0, 0⟩ [s, t]
theorem join_ok {op : Int} (h4 : 4 ≤ op) (h8 : op ≤ 8) {s t : Tm} (hs : s.ok) (ht : t.ok) : (joinT op s t).ok := by
  have : op = 4 ∨ op = 5 ∨ op = 6 ∨ op = 7 ∨ op = 8 := by omega
  rcases this with rfl | rfl | rfl | rfl | rfl <;> exact ⟨by decide, rfl, hs, ht, trivial⟩
theorem join_flat (op : Int) (s t : Tm) : (joinT op s t).flat = joinN op s.flat t.flat := by
  simp [joinT, joinN, Tm.flat, Tm.flat.flats]
theorem join_depth (op : Int) (s t : Tm) : (joinT op s t).depth = max s.depth t.depth + 1 := by
  simp [joinT, Tm.depth, Tm.depth.depths]
theorem join_tree {op : Int} (h4 : 4 ≤ op) (h8 : op ≤ 8) {a b : List Nd} {s t : Tm} (hs : treeOf a = some s) (ht : treeOf b = some t) : treeOf (joinN op a b) = some (joinT op s t) := by
  obtain ⟨o1, rfl⟩ := treeOf_iff.1 hs
  obtain ⟨o2, rfl⟩ := treeOf_iff.1 ht
  exact treeOf_iff.2 ⟨join_ok h4 h8 o1 o2, join_flat op s t⟩
theorem join_fields {op : Int} (h4 : 4 ≤ op) (h8 : op ≤ 8) : fieldsB ⟨op, 0, 0, 0, 0⟩ = true := by
  have : op = 4 ∨ op = 5 ∨ op = 6 ∨ op = 7 ∨ op = 8 := by omega
  rcases this with rfl | rfl | rfl | rfl | rfl <;> decide
theorem join_sorted {op : Int} (h4 : 4 ≤ op) (h8 : op ≤ 8) {s t : Tm} (hs : s.sorted = true) (ht : t.sorted = true) (ms : makesI s.root.op = 1) (mt : makesI t.root.op = 1) : (joinT op s t).sorted = true := by
  unfold joinT Tm.sorted Tm.sorted.sorteds Tm.sorted.sorteds Tm.sorted.sorteds
  rw [hs, ht]
  simp only [Bool.and_true]
  unfold Tm.top
  refine decide_eq_true (fun j hj => ?_)
  have hb : ∀ q : Nat, q < 2 → belI op q = 1 := by
    intro q hq
    have : op = 4 ∨ op = 5 ∨ op = 6 ∨ op = 7 ∨ op = 8 := by omega
    have hq2 : q = 0 ∨ q = 1 := by omega
    rcases this with rfl | rfl | rfl | rfl | rfl <;> rcases hq2 with rfl | rfl <;> decide
  simp only [List.length_cons, List.length_nil] at hj
  have hj2 : j = 0 ∨ j = 1 := by omega
  rcases hj2 with rfl | rfl
  · exact ms.trans (hb 0 (by omega)).symm
  · exact mt.trans (hb 1 (by omega)).symm
theorem ofE_good {ts : List Nd} {T : Tm} (h : Good ts T) : ofE ts = 0 := by
  unfold ofE
  rw [if_neg (by have := h.len; omega), h.tree]
  simp only
  rw [if_pos (List.all_eq_true.2 h.fields), if_pos h.sorted, if_pos h.depth]
theorem first_fine {a : List Nd} (hok : ∀ x ∈ a, x.ok) (h : wrongV a 0 = 0) : ∃ T, Good a T ∧ makesI T.root.op = 1 ∧ NumT T := by
  obtain ⟨T, j, s, hj, hT, _, hs, hm, hso⟩ := wrongV_zero h
  have : j = 0 := by omega
  subst this
  have e : T = s := TmAt.unique (treeOf_at hT.tree).1 hs
  subst e
  exact ⟨T, hT, hm, numT_of hT.fields hok hs hso hm⟩
theorem good_wrong {a : List Nd} {T : Tm} (h : Good a T) (hm : makesI T.root.op = 1) : wrongV a 0 = 0 := by
  have hat := (treeOf_at h.tree).1
  unfold wrongV
  rw [if_neg (by rw [ofE_good h]; simp)]
  obtain ⟨x, l⟩ := T
  have h1 := hat.root.1
  have hlt : 0 < a.length := (List.getElem?_eq_some_iff.1 h1).1
  rw [if_neg (by omega)]
  have h2 : (0 : Int).toNat = 0 := rfl
  rw [h2, h1]
  exact if_pos hm
theorem join_good {op : Int} (h4 : 4 ≤ op) (h8 : op ≤ 8) {a b : List Nd} {s t : Tm} (ha : Good a s) (hb : Good b t) (la : a.length ≤ 30) (lb : b.length ≤ 30) (ms : makesI s.root.op = 1) (mt : makesI t.root.op = 1) (hd : max s.depth t.depth + 1 ≤ 12) : Good (joinN op a b) (joinT op s t) :=
  ⟨join_tree h4 h8 ha.tree hb.tree, by unfold joinN; simp only [List.length_cons, List.length_append]; omega, by
    intro x hx
    unfold joinN at hx
    rcases List.mem_cons.1 hx with rfl | hx
    · exact join_fields h4 h8
    · rcases List.mem_append.1 hx with h | h
      · exact ha.fields x h
      · exact hb.fields x h, join_sorted h4 h8 ha.sorted hb.sorted ms mt, by rw [join_depth]; exact hd⟩
/-- What an op of two makes of what both are. -/
def twoV (op : Int) (ra rb : Int × Option Q2) : Int × Option Q2 := nodeV (fun _ => none) ⟨op, 0, 0, 0, 0⟩ [ra, rb]
theorem join_val {op : Int} (h4 : 4 ≤ op) (get : Int → Option Q2) (s t : Tm) : valT get (joinT op s t) = twoV op (valT get s) (valT get t) := by
  unfold joinT twoV
  rw [valT_node]
  unfold nodeV
  have h1 : ¬ (op = 1) := by omega
  have h2 : ¬ (op = 2) := by omega
  simp only [if_neg h1, if_neg h2]
  rfl
theorem joinT_makes {op : Int} (h4 : 4 ≤ op) (h8 : op ≤ 8) (s t : Tm) : makesI (joinT op s t).root.op = 1 := by
  show makesI op = 1
  have : op = 4 ∨ op = 5 ∨ op = 6 ∨ op = 7 ∨ op = 8 := by omega
  rcases this with rfl | rfl | rfl | rfl | rfl <;> decide
theorem atV_good {ts : List Nd} {T : Tm} (fx : FxL) (day : Int) (h : Good ts T) (hm : makesI T.root.op = 1) : atV ts fx 0 day = if day < 0 ∨ 73048 < day then (18, none) else valT (getF fx day) T := by
  have h0 := good_wrong h hm
  by_cases hd : day < 0 ∨ 73048 < day
  · rw [if_pos hd, atV_day h0 hd]
  · rw [if_neg hd]
    unfold atV
    rw [if_neg (by rw [h0]; simp), if_neg hd]
    have h2 : (0 : Int).toNat = 0 := rfl
    rw [h2, subAt_eq (treeOf_at h.tree).1]
/-- A result that may be: no error but 11, none known with one, and what is known in lowest terms. -/
structure ResOk (r : Int × Option Q2) : Prop where
  code : r.1 = 0 ∨ r.1 = 11
  err : r.1 ≠ 0 → r.2 = none
  val : ∀ q, r.2 = some q → Valid q.1 q.2
theorem valT_res {get : Int → Option Q2} (hg : GetOk get) {T : Tm} (h : NumT T) : ResOk (valT get T) := ⟨valT_code hg h, fun e => valT_err T e, fun q hq => valT_valid hg h q hq⟩
theorem ResOk.cases {r : Int × Option Q2} (h : ResOk r) : r = (11, none) ∨ r = (0, none) ∨ ∃ n d, r = (0, some (n, d)) ∧ Valid n d := by
  obtain ⟨e, v⟩ := r
  rcases h.code with h1 | h1
  · simp only at h1
    subst h1
    cases v with
    | none => exact .inr (.inl rfl)
    | some q => exact .inr (.inr ⟨q.1, q.2, rfl, h.val q rfl⟩)
  · simp only at h1
    subst h1
    have := h.err (by simp)
    simp only at this
    subst this
    exact .inl rfl
theorem two_err {op : Int} (h4 : 4 ≤ op) {ra rb : Int × Option Q2} (ha : ResOk ra) (hb : ResOk rb) (h : ra.1 ≠ 0 ∨ rb.1 ≠ 0) : twoV op ra rb = (11, none) := by
  unfold twoV nodeV
  have h1 : ¬ (op = 1) := by omega
  have h2 : ¬ (op = 2) := by omega
  simp only [if_neg h1, if_neg h2]
  rcases ha.cases with rfl | rfl | ⟨n, d, rfl, _⟩ <;> rcases hb.cases with rfl | rfl | ⟨n', d', rfl, _⟩
  all_goals first | rfl | simp at h
theorem two_unknown {op : Int} (h4 : 4 ≤ op) {ra rb : Int × Option Q2} (ha : ra.1 = 0) (hb : rb.1 = 0) (h : ra.2 = none ∨ rb.2 = none) : twoV op ra rb = (0, none) := by
  unfold twoV nodeV
  have h1 : ¬ (op = 1) := by omega
  have h2 : ¬ (op = 2) := by omega
  simp only [if_neg h1, if_neg h2]
  obtain ⟨e, v⟩ := ra
  obtain ⟨e', v'⟩ := rb
  simp only at ha hb h
  subst ha hb
  rcases h with rfl | rfl
  · cases v' <;> rfl
  · cases v <;> rfl
theorem two_known {op : Int} (h4 : 4 ≤ op) (p q : Q2) : twoV op (0, some p) (0, some q) = applyV op [p, q] := by
  unfold twoV nodeV
  have h1 : ¬ (op = 1) := by omega
  have h2 : ¬ (op = 2) := by omega
  simp only [if_neg h1, if_neg h2]
  rfl
theorem sum_turned {p q : Q2} : applyV 4 [p, q] = applyV 4 [q, p] := by
  unfold applyV
  simp only [if_true]
  rw [Int.add_comm (p.1 * q.2), Int.mul_comm p.2]
theorem less_self {p : Q2} (h : Valid p.1 p.2) : applyV 5 [p, p] = (0, some (0, 1)) := by
  unfold applyV
  simp only
  rw [if_neg (by decide)]
  simp only [if_true]
  have hd := h.d0
  have e : p.1 * p.2 + -p.1 * p.2 = 0 := by rw [Int.neg_mul]; omega
  rw [e]
  have hk : 0 < p.2 * p.2 := Int.mul_pos hd hd
  obtain ⟨e1, e2⟩ := red_of (n := 0) (d := p.2 * p.2) (k := p.2 * p.2) (n' := 0) (d' := 1) hk (by omega) (by simp) (by simp) (by decide)
  have e3 : rE 0 (p.2 * p.2) = 0 := by unfold rE; rw [if_neg (by omega), e1, e2]; decide
  unfold fitQ rN rD
  simp only [e3, e1, e2, if_true]
theorem valid_eq {p q : Q2} (hp : Valid p.1 p.2) (hq : Valid q.1 q.2) (h : p.1 * q.2 = q.1 * p.2) : p = q := by
  obtain ⟨h1, h2⟩ := valid_unique hp hq h
  exact Prod.ext h1 h2
/-- How the results of ValueParts stand to one another: x, y the two, z what is left, p the least, q the most. -/
def PartsR (x y z p q : Int × Option Q2) : Prop :=
  (x.1 ≠ 0 ∧ x.2 = none ∧ p = q ∧ p.1 ≠ 0 ∧ p.2 = none) ∨ (x = (0, none) ∧ y.1 ≠ 0 ∧ y.2 = none ∧ p = q ∧ p.1 ≠ 0 ∧ p.2 = none) ∨
  ((∃ u, x = (0, some u)) ∧ z = (0, some (0, 1)) ∧ y.1 ≠ 0 ∧ y.2 = none ∧ p = q ∧ p.1 ≠ 0 ∧ p.2 = none) ∨ (x = (0, none) ∧ y.1 = 0 ∧ p = (0, none) ∧ q = (0, none)) ∨
  ((∃ u, x = (0, some u)) ∧ z = (0, some (0, 1)) ∧ y = (0, none) ∧ p = (0, none) ∧ q = (0, none)) ∨
  (∃ u v, x = (0, some u) ∧ y = (0, some v) ∧ z = (0, some (0, 1)) ∧ p = x ∧ q = y) ∨ (∃ u v, x = (0, some u) ∧ y = (0, some v) ∧ z = (0, some (0, 1)) ∧ p = y ∧ q = x ∧ u ≠ v)
theorem applyV_least (p q : Q2) : applyV 7 [p, q] = (0, some (if q.1 * p.2 < p.1 * q.2 then q else p)) := by
  unfold applyV
  simp only
  rw [if_neg (by decide), if_neg (by decide), if_neg (by decide), if_pos (by decide)]
theorem applyV_most (p q : Q2) : applyV 8 [p, q] = (0, some (if p.1 * q.2 < q.1 * p.2 then q else p)) := by
  unfold applyV
  simp only
  rw [if_neg (by decide), if_neg (by decide), if_neg (by decide), if_neg (by decide)]
theorem parts_of {x y : Int × Option Q2} (hx : ResOk x) (hy : ResOk y) : PartsR x y (twoV 5 x x) (twoV 7 x y) (twoV 8 x y) := by
  have he : (11 : Int) ≠ 0 := by decide
  rcases hx.cases with rfl | rfl | ⟨n, d, rfl, h1⟩
  · rw [two_err (by decide) hx hy (.inl he), two_err (by decide) hx hy (.inl he)]
    exact .inl ⟨he, rfl, rfl, he, rfl⟩
  · rcases hy.cases with rfl | rfl | ⟨n', d', rfl, h2⟩
    · rw [two_err (by decide) hx hy (.inr he), two_err (by decide) hx hy (.inr he)]
      exact .inr (.inl ⟨rfl, he, rfl, rfl, he, rfl⟩)
    all_goals
      rw [two_unknown (op := 7) (by decide) rfl rfl (.inl rfl), two_unknown (op := 8) (by decide) rfl rfl (.inl rfl)]
      exact .inr (.inr (.inr (.inl ⟨rfl, rfl, rfl, rfl⟩)))
  · have hz : twoV 5 (0, some (n, d)) (0, some (n, d)) = (0, some (0, 1)) := by rw [two_known (by decide)]; exact less_self h1
    rw [hz]
    rcases hy.cases with rfl | rfl | ⟨n', d', rfl, h2⟩
    · rw [two_err (by decide) hx hy (.inr he), two_err (by decide) hx hy (.inr he)]
      exact .inr (.inr (.inl ⟨⟨_, rfl⟩, rfl, he, rfl, rfl, he, rfl⟩))
    · rw [two_unknown (op := 7) (by decide) rfl rfl (.inr rfl), two_unknown (op := 8) (by decide) rfl rfl (.inr rfl)]
      exact .inr (.inr (.inr (.inr (.inl ⟨⟨_, rfl⟩, rfl, rfl, rfl, rfl⟩))))
    · rw [two_known (op := 7) (by decide), two_known (op := 8) (by decide), applyV_least, applyV_most]
      simp only
      by_cases h3 : n * d' = n' * d
      · obtain ⟨rfl, rfl⟩ := Prod.mk.inj (valid_eq (p := (n, d)) (q := (n', d')) h1 h2 h3)
        simp only [Int.lt_irrefl, if_false]
        exact .inr (.inr (.inr (.inr (.inr (.inl ⟨_, _, rfl, rfl, rfl, rfl, rfl⟩)))))
      · by_cases h4 : n' * d < n * d'
        · have h5 : ¬ (n * d' < n' * d) := by omega
          rw [if_pos h4, if_neg h5]
          refine .inr (.inr (.inr (.inr (.inr (.inr ⟨_, _, rfl, rfl, rfl, rfl, rfl, ?_⟩)))))
          intro e
          obtain ⟨rfl, rfl⟩ := Prod.mk.inj e
          exact h3 rfl
        · have h5 : n * d' < n' * d := by omega
          rw [if_neg h4, if_pos h5]
          exact .inr (.inr (.inr (.inr (.inr (.inl ⟨_, _, rfl, rfl, rfl, rfl, rfl⟩)))))
theorem two_turned {x y : Int × Option Q2} (hx : ResOk x) (hy : ResOk y) : twoV 4 y x = twoV 4 x y := by
  have he : (11 : Int) ≠ 0 := by decide
  rcases hx.cases with e1 | e1 | ⟨n, d, e1, h1⟩
  · rw [two_err (by decide) hy hx (.inr (by rw [e1]; exact he)), two_err (by decide) hx hy (.inl (by rw [e1]; exact he))]
  · rcases hy.cases with e2 | e2 | ⟨n', d', e2, h2⟩
    · rw [two_err (by decide) hy hx (.inl (by rw [e2]; exact he)), two_err (by decide) hx hy (.inr (by rw [e2]; exact he))]
    · subst e1 e2; rfl
    · subst e1 e2
      rw [two_unknown (by decide) rfl rfl (.inr rfl), two_unknown (by decide) rfl rfl (.inl rfl)]
  · rcases hy.cases with e2 | e2 | ⟨n', d', e2, h2⟩
    · rw [two_err (by decide) hy hx (.inl (by rw [e2]; exact he)), two_err (by decide) hx hy (.inr (by rw [e2]; exact he))]
    · subst e1 e2
      rw [two_unknown (by decide) rfl rfl (.inl rfl), two_unknown (by decide) rfl rfl (.inr rfl)]
    · subst e1 e2
      rw [two_known (by decide), two_known (by decide)]
      exact sum_turned
theorem join_deep {op : Int} (h4 : 4 ≤ op) (h8 : op ≤ 8) {a b : List Nd} {s t : Tm} (ha : Good a s) (hb : Good b t) (h : ofE (joinN op a b) = 0) : max s.depth t.depth + 1 ≤ 12 := by
  obtain ⟨T, hT⟩ := good_of h
  have h1 := join_tree h4 h8 ha.tree hb.tree
  rw [hT.tree] at h1
  have h2 := hT.depth
  rw [Option.some.inj h1, join_depth] at h2
  exact h2
theorem parts_all {a b : List Nd} (oa : ∀ x ∈ a, x.ok) (ob : ∀ x ∈ b, x.ok) (wa : wrongV a 0 = 0) (wb : wrongV b 0 = 0) (la : a.length ≤ 30) (lb : b.length ≤ 30) (hd : ofE (joinN 4 a b) = 0) (hn : ofE (joinN 5 a a) = 0) {fx : FxL} {day : Int} (hg : GetOk (getF fx day)) :
    atV (joinN 4 b a) fx 0 day = atV (joinN 4 a b) fx 0 day ∧ PartsR (atV a fx 0 day) (atV b fx 0 day) (atV (joinN 5 a a) fx 0 day) (atV (joinN 7 a b) fx 0 day) (atV (joinN 8 a b) fx 0 day) := by
  obtain ⟨S, hS, mS, nS⟩ := first_fine oa wa
  obtain ⟨T, hT, mT, nT⟩ := first_fine ob wb
  have d1 := join_deep (by decide) (by decide) hS hT hd
  have d2 := join_deep (by decide) (by decide) hS hS hn
  have d3 : max T.depth S.depth + 1 ≤ 12 := by omega
  rw [atV_good fx day (join_good (op := 4) (by decide) (by decide) hT hS lb la mT mS d3) (joinT_makes (by decide) (by decide) _ _),
    atV_good fx day (join_good (op := 4) (by decide) (by decide) hS hT la lb mS mT d1) (joinT_makes (by decide) (by decide) _ _),
    atV_good fx day (join_good (op := 5) (by decide) (by decide) hS hS la la mS mS d2) (joinT_makes (by decide) (by decide) _ _),
    atV_good fx day (join_good (op := 7) (by decide) (by decide) hS hT la lb mS mT d1) (joinT_makes (by decide) (by decide) _ _),
    atV_good fx day (join_good (op := 8) (by decide) (by decide) hS hT la lb mS mT d1) (joinT_makes (by decide) (by decide) _ _), atV_good fx day hS mS, atV_good fx day hT mT]
  by_cases hday : day < 0 ∨ 73048 < day
  · simp only [if_pos hday]
    exact ⟨trivial, .inl ⟨by decide, rfl, rfl, by decide, rfl⟩⟩
  · simp only [if_neg hday]
    rw [join_val (by decide), join_val (by decide), join_val (by decide), join_val (by decide), join_val (by decide)]
    have r1 := valT_res hg nS
    have r2 := valT_res hg nT
    exact ⟨two_turned r1 r2, parts_of r1 r2⟩
end Go.Proofs.YtkpadahpepeaoaaDoor
