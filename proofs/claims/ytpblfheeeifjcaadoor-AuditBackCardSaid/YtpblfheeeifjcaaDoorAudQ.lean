/- audit, plain: the rows of first entries, of a reverse behind, of one that is not as it was -/
import Derived.Test.YtpblfheeeifjcaaDoorAudP
set_option linter.all false
namespace Go.Proofs.YtpblfheeeifjcaaDoor
open Go.RowKit
set_option maxRecDepth 100000

/-- How many rows the first entries have. -/
def preL (es : List En) (n : Nat) : Nat := (rowsL (es.take n)).length
theorem blocksE_snoc (es : List En) (x : En) : blocksE (es ++ [x]) = blocksE es ++ [rowsE es.length x] := by
  unfold blocksE
  rw [List.zipIdx_append, List.map_append]
  simp
theorem rowsL_snoc (es : List En) (x : En) : rowsL (es ++ [x]) = rowsL es ++ rowsE es.length x := by
  rw [rowsL_flat, rowsL_flat, blocksE_snoc, List.flatten_append]; simp
theorem rowsL_nil : rowsL [] = [] := rfl
theorem rowsE_len (no : Nat) (x : En) : (rowsE no x).length = x.ls.length := by unfold rowsE; simp
theorem preL_zero (es : List En) : preL es 0 = 0 := by unfold preL; rw [List.take_zero]; rfl
theorem take_snoc (es : List En) {n : Nat} (h : n < es.length) : es.take (n + 1) = es.take n ++ [es[n]] := by
  rw [List.take_add_one, List.getElem?_eq_getElem h]; rfl
theorem rowsL_step (es : List En) {n : Nat} (h : n < es.length) : rowsL (es.take (n + 1)) = rowsL (es.take n) ++ rowsE n es[n] := by
  rw [take_snoc es h, rowsL_snoc, List.length_take, Nat.min_eq_left (by omega)]
theorem preL_succ (es : List En) {n : Nat} (h : n < es.length) : preL es (n + 1) = preL es n + es[n].ls.length := by
  unfold preL
  rw [rowsL_step es h, List.length_append, rowsE_len]
theorem preL_all (es : List En) : preL es es.length = (rowsL es).length := by unfold preL; rw [List.take_length]
/-- The rows of the first entries are the first ones. -/
theorem rowsL_take (es : List En) : ∀ n, n ≤ es.length → rowsL (es.take n) <+: rowsL es := by
  intro n hn
  have : ∀ m, n + m ≤ es.length → rowsL (es.take n) <+: rowsL (es.take (n + m)) := by
    intro m
    induction m with
    | zero => intro _; exact List.prefix_refl _
    | succ m ih =>
      intro h
      refine (ih (by omega)).trans ?_
      rw [show n + (m + 1) = n + m + 1 by omega, rowsL_step es (by omega)]
      exact List.prefix_append _ _
  have h := this (es.length - n) (by omega)
  rwa [show n + (es.length - n) = es.length by omega, List.take_length] at h
theorem rowsL_take_eq (es : List En) {n : Nat} (hn : n ≤ es.length) : rowsL (es.take n) = (rowsL es).take (preL es n) := by
  have := rowsL_take es n hn
  exact List.prefix_iff_eq_take.1 this
/-- The row of a line. -/
theorem rowsL_get (es : List En) {n k : Nat} (h : n < es.length) (hk : k < es[n].ls.length) :
    (rowsL es)[preL es n + k]? = some ⟨n, es[n].seq, es[n].per, es[n].con, es[n].day, es[n].ref, (es[n].ls[k]).p, (es[n].ls[k]).c, (es[n].ls[k]).a⟩ := by
  have h1 := rowsL_take es (n + 1) (by omega)
  obtain ⟨t, ht⟩ := h1
  rw [← ht, List.getElem?_append_left (by rw [rowsL_step es h, List.length_append, rowsE_len]; unfold preL; omega), rowsL_step es h]
  rw [List.getElem?_append_right (by unfold preL; omega), show preL es n + k - (rowsL (es.take n)).length = k by unfold preL; omega]
  unfold rowsE
  rw [List.getElem?_map, List.getElem?_eq_getElem hk]
  rfl
theorem preL_mono (es : List En) {a b : Nat} (h : a ≤ b) (hb : b ≤ es.length) : preL es a ≤ preL es b := by
  have := rowsL_take (es.take b) a (by rw [List.length_take]; omega)
  rw [List.take_take, Nat.min_eq_left h] at this
  exact this.length_le
/-- A row ahead of the rows from the n-th entry on has a number below n. -/
theorem row_no_lt (es : List En) : ∀ (n : Nat), n ≤ es.length → ∀ j r, j < preL es n → (rowsL es)[j]? = some r → r.no < n := by
  intro n hn j r hj hr
  have h1 := rowsL_take_eq es hn
  have h2 : (rowsL (es.take n))[j]? = some r := by rw [h1, List.getElem?_take_of_lt hj]; exact hr
  have hm := List.mem_of_getElem? h2
  rw [rowsL_flat, List.mem_flatten] at hm
  obtain ⟨b, hb, hrb⟩ := hm
  obtain ⟨i, hi, rfl⟩ := List.getElem_of_mem hb
  rw [blocksE_at] at hrb
  rw [blocksE_len, List.length_take] at hi
  rw [rowsE_no hrb]
  omega
theorem row_no_ge (es : List En) (r : Rw) (h : r ∈ rowsL es) : 0 ≤ r.no := by
  rw [rowsL_flat, List.mem_flatten] at h
  obtain ⟨b, hb, hrb⟩ := h
  obtain ⟨i, hi, rfl⟩ := List.getElem_of_mem hb
  rw [blocksE_at] at hrb
  rw [rowsE_no hrb]
  omega
/-- The first rows with numbers below n are those of the first entries. -/
theorem first_rows {es : List En} (hok : ∀ x ∈ es, 1 ≤ x.ls.length) (n : Int) {k : Nat} (hk : k ≤ (rowsL es).length) (h1 : ∀ j r, j < k → (rowsL es)[j]? = some r → r.no < n) (h2 : ∀ r, (rowsL es)[k]? = some r → n ≤ r.no) :
    ∃ m, m ≤ es.length ∧ (rowsL es).take k = rowsL (es.take m) := by
  obtain ⟨m, hm⟩ : ∃ m, m = min n.toNat es.length := ⟨_, rfl⟩
  have hml : m ≤ es.length := by omega
  refine ⟨m, hml, ?_⟩
  have e : k = preL es m := by
    have a1 : k ≤ preL es m := by
      by_cases hlt : m < es.length
      · have h0 := hok _ (List.getElem_mem hlt)
        have g := rowsL_get es hlt (k := 0) (by omega)
        rw [Nat.add_zero] at g
        by_cases hk' : preL es m < k
        · have := h1 _ _ hk' g
          simp only at this
          omega
        · omega
      · have : m = es.length := by omega
        rw [this, preL_all]; exact hk
    have a2 : preL es m ≤ k := by
      by_cases hk' : k < preL es m
      · have hb := preL_mono es hml (Nat.le_refl _)
        rw [preL_all] at hb
        have g : (rowsL es)[k]? = some ((rowsL es)[k]'(by omega)) := List.getElem?_eq_getElem _
        have c1 := row_no_lt es m hml k _ hk' g
        have c2 := h2 _ g
        have c3 := row_no_ge es _ (List.getElem_mem (l := rowsL es) (n := k) (by omega))
        omega
      · omega
    omega
  rw [e, rowsL_take_eq es hml]
theorem first_right {es : List En} (h : Inv es) (n : Int) {k : Nat} (hk : k ≤ (rowsL es).length) (h1 : ∀ j r, j < k → (rowsL es)[j]? = some r → r.no < n) (h2 : ∀ r, (rowsL es)[k]? = some r → n ≤ r.no) :
    checkG (groups ((rowsL es).take k)) = 0 := by
  obtain ⟨m, hm, e⟩ := first_rows (fun x hx => by have := two_of_ok (h.ok x hx); omega) n hk h1 h2
  rw [e]
  exact rows_right (h.take m)
/-- The first group begins with the first row. -/
theorem groups_head (r : Rw) : ∀ (t : List Rw) (gs : List (List Rw)), (∃ g gs', gs = g :: gs' ∧ g ≠ [] ∧ hd g = r) → ∃ g gs', t.foldl addG gs = g :: gs' ∧ g ≠ [] ∧ hd g = r
  | [], gs, h => h
  | x :: t, gs, h => by
    rw [List.foldl_cons]
    refine groups_head r t _ ?_
    obtain ⟨g, gs', rfl, hg, hr⟩ := h
    unfold addG
    cases hl : (g :: gs').getLast? with
    | none => simp at hl
    | some c =>
      simp only
      split
      · cases gs' with
        | nil => 
          simp at hl
          subst hl
          exact ⟨g ++ [x], [], by simp, by simp, by rw [hd_app hg]; exact hr⟩
        | cons y ys => exact ⟨g, (y :: ys).dropLast ++ [c ++ [x]], by simp, hg, hr⟩
      · exact ⟨g, gs' ++ [[x]], rfl, hg, hr⟩
theorem not_first {r : Rw} {t : List Rw} (h : r.no ≠ 0) : checkG (groups (r :: t)) = 13 := by
  have : ∃ g gs', groups (r :: t) = g :: gs' ∧ g ≠ [] ∧ hd g = r := by
    unfold groups
    rw [List.foldl_cons]
    exact groups_head r t _ ⟨[r], [], rfl, by simp, rfl⟩
  obtain ⟨g, gs', e, hg, hr⟩ := this
  have ho : ownG (groups (r :: t)) 0 = 13 := by
    unfold ownG
    rw [e, if_pos]
    refine .inl ?_
    show (hd g).no ≠ 0
    rw [hr]; exact h
  have hrule : ruleG (groups (r :: t)) 0 = 13 := by
    unfold ruleG; rw [ho]; rfl
  rw [checkG_first (k := 0) (by rw [e]; simp) (fun j hj => by omega) (by rw [hrule]; decide), hrule]
/-- One amount is another one: the rows are not right any more. -/
theorem other_wrong {a b : List Rw} {r : Rw} {n : Int} (h : checkG (groups (a ++ r :: b)) = 0) (hn : n ≠ r.amt) : checkG (groups (a ++ { r with amt := n } :: b)) ≠ 0 := by
  intro h2
  have e1 := check_sum h
  have e2 := check_sum h2
  simp only [List.map_append, List.map_cons, sumI_append] at e1 e2
  have c : ∀ (x : Int) (l : List Int), sumI (x :: l) = x + sumI l := fun x l => by unfold sumI; simp
  rw [c] at e1 e2
  omega

/-! A reverse behind. -/
def revE (es : List En) (k : Nat) (x : En) : En := { x with seq := lastSeq es, ref := k, ls := x.ls.map fun y => { y with a := IntKind.i64.wrap (0 - y.a) } }
theorem wrap_neg (a : Int) : IntKind.i64.wrap (0 - a) = ng a := by unfold ng; rw [Int.zero_sub]
theorem sum_neg : ∀ (l : List Int), sumI (l.map (fun a => -a)) = - sumI l
  | [] => rfl
  | x :: r => by
    have c : ∀ (x : Int) (l : List Int), sumI (x :: l) = x + sumI l := fun x l => by unfold sumI; simp
    rw [List.map_cons, c, c, sum_neg r]; omega
theorem lastSeq_nn {es : List En} (h : Inv es) : 0 ≤ lastSeq es := by
  unfold lastSeq
  cases hl : es.getLast? with
  | none => exact Int.le_refl _
  | some x =>
    have hm : x ∈ es := List.mem_of_getLast? hl
    have := (entryE_ok.1 (h.ok x hm)).1
    unfold rangesB at this
    simp only [Bool.and_eq_true, decide_eq_true_eq] at this
    simp only
    omega
theorem lastSeq_word {es : List En} (h : Inv es) : I64 (lastSeq es) := by
  unfold lastSeq
  cases hl : es.getLast? with
  | none => simp only; unfold I64; omega
  | some x => exact (h.word x (List.mem_of_getLast? hl)).2.2.2.1
theorem rev_entry {es : List En} (h : Inv es) {k : Nat} (hk : k < es.length) (hl : es.length ≤ 100000) : entryE (revE es k es[k]) = 0 ∧ (revE es k es[k]).ok ∧ mirE es[k] (revE es k es[k]) = true := by
  have hx := h.ok _ (List.getElem_mem hk)
  have hw := h.word _ (List.getElem_mem hk)
  have hs := lastSeq_nn h
  have hsw := lastSeq_word h
  have hm := amt_of_ok hx hw
  generalize es[k] = x at *
  have eL : (revE es k x).ls = turnL x.ls := by unfold revE turnL; simp only [wrap_neg]
  have eL2 : ∀ (p : Ln → Bool) (q : Ln → Bool), (∀ y ∈ x.ls, p { y with a := ng y.a } = q y) → (turnL x.ls).any p = x.ls.any q := by
    intro p q hpq
    unfold turnL
    rw [List.any_map]
    refine Bool.eq_iff_iff.2 ?_
    simp only [List.any_eq_true, Function.comp]
    exact ⟨fun ⟨y, hy, e⟩ => ⟨y, hy, by rw [← hpq y hy]; exact e⟩, fun ⟨y, hy, e⟩ => ⟨y, hy, by rw [hpq y hy]; exact e⟩⟩
  have hx' := entryE_ok.1 hx
  obtain ⟨r1, r2, r3, r4, r5⟩ := hx'
  refine ⟨?_, ?_, ?_⟩
  · rw [entryE_ok]
    refine ⟨?_, ?_, ?_, ?_, ?_⟩
    · unfold rangesB at r1 ⊢
      rw [eL, eL2 _ _ (fun y _ => rfl)]
      simp only [Bool.and_eq_true] at r1 ⊢
      exact ⟨⟨⟨r1.1.1.1, decide_eq_true hs⟩, r1.1.2⟩, decide_eq_true (by show -1 ≤ (k : Int); omega)⟩
    · unfold linesB at r2 ⊢
      rw [eL, eL2 _ _ (fun y _ => rfl)]
      simp only [revE, turnL, List.length_map]
      exact r2
    · unfold someB at r3 ⊢
      rw [eL, eL2 _ (fun y => decide (y.a = 0)) (fun y hy => by
        have := (hm y hy).1
        simp only [this]
        exact decide_eq_decide.2 (by omega))]
      exact r3
    · unfold fitsB at r4 ⊢
      rw [eL]
      simp only [Bool.not_eq_true', List.any_eq_false, decide_eq_true_eq] at r4 ⊢
      intro y hy
      unfold turnL at hy
      obtain ⟨u, hu, rfl⟩ := List.mem_map.1 hy
      have h1 := (hm u hu).1
      have h2 := (hw.2.2.2.2.2.2.1 u hu).2.2
      unfold I64 at h2
      simp only
      omega
    · unfold evenB at r5 ⊢
      rw [eL]
      have : (turnL x.ls).map (·.a) = (x.ls.map (·.a)).map (fun a => -a) := by
        unfold turnL
        rw [List.map_map, List.map_map]
        refine List.map_congr_left (fun y hy => ?_)
        simp only [Function.comp]
        exact (hm y hy).1
      rw [this, sum_neg]
      simp only [decide_eq_true_eq] at r5 ⊢
      omega
  · obtain ⟨a1, a2, a3, a4, a5, a6, a7, a8⟩ := hw
    refine ⟨a1, a2, a3, hsw, a5, ?_, ?_, ?_⟩
    · unfold revE I64; simp only; omega
    · rw [eL]
      intro y hy
      unfold turnL at hy
      obtain ⟨u, hu, rfl⟩ := List.mem_map.1 hy
      obtain ⟨b1, b2, b3⟩ := a7 u hu
      refine ⟨b1, b2, ?_⟩
      have h1 := (hm u hu).1
      have h2 := (entryE_ok.1 hx).2.2.2.1
      unfold fitsB at h2
      simp only [Bool.not_eq_true', List.any_eq_false, decide_eq_true_eq] at h2
      have := h2 u hu
      unfold I64 at b3 ⊢
      simp only
      omega
    · rw [eL]; unfold turnL; rw [List.length_map]; exact a8
  · unfold mirE
    rw [eL]
    simp [revE]
theorem own_prefix (gs more : List (List Rw)) {i : Nat} (hi : i < gs.length) : ownG (gs ++ more) i = ownG gs i := by
  have e : ∀ j, j < gs.length → (gs ++ more).getD j [] = gs.getD j [] := fun j hj => by simp [List.getD, List.getElem?_append_left hj]
  unfold ownG
  rw [e i hi]
  by_cases h0 : 0 < i
  · rw [e (i - 1) (by omega)]
  · have : i = 0 := by omega
    subst this
    simp
theorem back_prefix (gs more : List (List Rw)) {i : Nat} (hi : i < gs.length) : backG (gs ++ more) i = backG gs i := by
  have e : ∀ j, j < gs.length → (gs ++ more).getD j [] = gs.getD j [] := fun j hj => by simp [List.getD, List.getElem?_append_left hj]
  unfold backG
  rw [e i hi, List.take_append_of_le_length (by omega)]
  by_cases h0 : (hd (gs.getD i [])).ref = -1
  · rw [if_pos h0, if_pos h0]
  · rw [if_neg h0, if_neg h0]
    by_cases h1 : (hd (gs.getD i [])).ref < 0 ∨ (i : Int) ≤ (hd (gs.getD i [])).ref
    · rw [if_pos h1, if_pos h1]
    · rw [if_neg h1, if_neg h1, e _ (by omega)]
theorem rule_prefix (gs more : List (List Rw)) {i : Nat} (hi : i < gs.length) : ruleG (gs ++ more) i = ruleG gs i := by
  unfold ruleG; rw [own_prefix gs more hi, back_prefix gs more hi]
/-- The reverse of a live entry behind: once it is right, twice it is there already. -/
theorem rev_right {es : List En} (h : Inv es) {k : Nat} (hk : k < es.length) (hl : es.length ≤ 100000) (h1 : es[k].ref = -1) (h2 : ∀ j (hj : j < es.length), es[j].ref ≠ k) : Inv (es ++ [revE es k es[k]]) := by
  obtain ⟨a, b, c⟩ := rev_entry h hk hl
  exact h.snoc a (Int.le_refl _) b (fun _ => ⟨k, hk, rfl, h1, c, h2⟩)
theorem rev_twice {es : List En} (h : Inv es) {k : Nat} (hk : k < es.length) (hl : es.length ≤ 100000) (h1 : es[k].ref = -1) (h2 : ∀ j (hj : j < es.length), es[j].ref ≠ k) :
    checkG (groups (rowsL (es ++ [revE es k es[k]] ++ [revE es k es[k]]))) = 17 := by
  have hI := rev_right h hk hl h1 h2
  obtain ⟨a, b, c⟩ := rev_entry h hk hl
  have hd2 := two_of_ok a
  obtain ⟨x, hx⟩ : ∃ x, revE es k es[k] = x := ⟨_, rfl⟩
  have hxr : x.ref = k := by rw [← hx]; rfl
  rw [hx] at hI a b c hd2 ⊢
  have hall : ∀ y ∈ es ++ [x] ++ [x], entryE y = 0 := by
    intro y hy
    rcases List.mem_append.1 hy with hy | hy
    · exact hI.ok y hy
    · simp only [List.mem_singleton] at hy; subst hy; exact a
  rw [groups_rows hall, blocksE_snoc]
  have hlen : (blocksE (es ++ [x])).length = es.length + 1 := by rw [blocksE_len]; simp
  have hrule : ∀ j, j < es.length + 1 → ruleG (blocksE (es ++ [x]) ++ [rowsE (es ++ [x]).length x]) j = 0 := by
    intro j hj
    rw [rule_prefix _ _ (by rw [hlen]; exact hj)]
    unfold ruleG
    rw [own_ok hI (by simp; omega), back_ok hI (by simp; omega)]
    rfl
  have e1 : (blocksE (es ++ [x]) ++ [rowsE (es ++ [x]).length x]).getD (es.length + 1) [] = rowsE (es.length + 1) x := by
    simp [List.getD, List.getElem?_append_right, hlen]
  have e2 : (blocksE (es ++ [x]) ++ [rowsE (es ++ [x]).length x]).getD es.length [] = rowsE es.length x := by
    have : es.length < (blocksE (es ++ [x])).length := by omega
    rw [List.getD, List.getElem?_append_left this, List.getElem?_eq_getElem this, blocksE_at]
    simp
  obtain ⟨y, f1, hy⟩ := hd_rowsE (no := es.length + 1) hd2
  obtain ⟨z, f2, hz⟩ := hd_rowsE (no := es.length) hd2
  have ho : ownG (blocksE (es ++ [x]) ++ [rowsE (es ++ [x]).length x]) (es.length + 1) = 0 := by
    unfold ownG
    rw [e1, f1, if_neg, if_neg, if_neg]
    · have := (entryE_ok.1 a).2.2.2.2
      unfold evenB at this
      rw [amts_rowsE]
      exact fun h => h (of_decide_eq_true this)
    · rintro ⟨_, g⟩
      rw [Nat.add_sub_cancel, e2, f2] at g
      simp only at g
      omega
    · rintro (h0 | h0)
      · exact h0 rfl
      · rw [List.any_eq_true] at h0
        obtain ⟨r, hr, h1⟩ := h0
        unfold rowsE at hr
        obtain ⟨u, hu, rfl⟩ := List.mem_map.1 hr
        refine of_decide_eq_true h1 ?_
        unfold Rw.head
        simp only [cur_of_ok a u hu, cur_of_ok a y hy]
  have hb : backG (blocksE (es ++ [x]) ++ [rowsE (es ++ [x]).length x]) (es.length + 1) = 17 := by
    unfold backG
    rw [e1, f1]
    simp only
    rw [hxr, if_neg (by omega), if_neg (by omega), if_pos]
    rw [List.any_eq_true]
    refine ⟨rowsE es.length x, ?_, ?_⟩
    · rw [List.take_append_of_le_length (by omega)]
      rw [← hlen, List.take_length]
      rw [blocksE_snoc]
      simp
    · rw [f2]; simp [hxr]
  have hr : ruleG (blocksE (es ++ [x]) ++ [rowsE (es ++ [x]).length x]) (es.length + 1) = 17 := by
    unfold ruleG; rw [ho, hb]; rfl
  rw [checkG_first (k := es.length + 1) (by simp [hlen]) (fun j hj => hrule j hj) (by rw [hr]; decide), hr]
/-- Which rows an entry's are. -/
theorem filter_no (es : List En) {k : Nat} (hk : k < es.length) : (rowsL es).filter (fun r => decide (r.no = (k : Int))) = rowsE k es[k] := by
  have gen : ∀ n, n ≤ es.length → (rowsL (es.take n)).filter (fun r => decide (r.no = (k : Int))) = if k < n then rowsE k es[k] else [] := by
    intro n
    induction n with
    | zero => intro _; simp [rowsL_nil]
    | succ n ih =>
      intro hn
      rw [rowsL_step es (by omega), List.filter_append, ih (by omega)]
      by_cases h : k = n
      · subst h
        rw [if_neg (by omega), if_pos (by omega), List.nil_append, List.filter_eq_self.2]
        intro r hr
        rw [rowsE_no hr]; simp
      · have : (rowsE n es[n]).filter (fun r => decide (r.no = (k : Int))) = [] := by
          rw [List.filter_eq_nil_iff]
          intro r hr
          rw [rowsE_no hr]
          simp
          omega
        rw [this, List.append_nil]
        by_cases h2 : k < n
        · rw [if_pos h2, if_pos (by omega)]
        · rw [if_neg h2, if_neg (by omega)]
  have := gen es.length (Nat.le_refl _)
  rw [List.take_length, if_pos hk] at this
  exact this
def turnR (es : List En) (no : Nat) (ref : Int) (r : Rw) : Rw := { r with no := no, seq := lastSeq es, ref := ref, amt := IntKind.i64.wrap (0 - r.amt) }
theorem rev_rows (es : List En) {k : Nat} (hk : k < es.length) (no : Nat) : (rowsE k es[k]).map (turnR es no k) = rowsE no (revE es k es[k]) := by
  unfold rowsE revE turnR
  simp [List.map_map, Function.comp]
end Go.Proofs.YtpblfheeeifjcaaDoor
