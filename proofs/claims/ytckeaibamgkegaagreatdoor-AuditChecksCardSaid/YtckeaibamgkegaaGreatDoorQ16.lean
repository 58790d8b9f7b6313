/- audit.Rows -/
import Derived.Test.YtckeaibamgkegaaGreatDoorQ4
import Derived.Test.YtckeaibamgkegaaGreatDoorQ15
set_option linter.all false
set_option linter.all false
section
/- audit, plain: the rows of first entries, of a reverse behind, of one that is not as it was -/
namespace Go.Proofs.YtckeaibamgkegaaGreatDoor
open Go.RowKit
set_option maxRecDepth 100000

/-- How many rows the first entries have. -/
def preL (es : List En) (n : Nat) : Nat := (rowsL (es.take n)).length
theorem blocksE_snoc (es : List En) (x : En) : blocksE (es ++ [x]) = blocksE es ++ [rowsE es.length x] := by
  unfold blocksE
  rw [List.zipIdx_append, List.map_append]
  simp
theorem rowsL_snoc (es : List En) (x : En) : rowsL (es ++ [x]) = rowsL es ++ rowsE es.length x := by
  rw [rowsL_flat, rowsL_flat, blocksE_snoc, List.flatten_append]; simp
theorem rowsL_nil : rowsL [] = [] := rfl
theorem rowsE_len (no : Nat) (x : En) : (rowsE no x).length = x.ls.length := by unfold rowsE; simp
theorem preL_zero (es : List En) : preL es 0 = 0 := by unfold preL; rw [List.take_zero]; rfl
theorem take_snoc (es : List En) {n : Nat} (h : n < es.length) : es.take (n + 1) = es.take n ++ [es[n]] := by
  rw [List.take_add_one, List.getElem?_eq_getElem h]; rfl
theorem rowsL_step (es : List En) {n : Nat} (h : n < es.length) : rowsL (es.take (n + 1)) = rowsL (es.take n) ++ rowsE n es[n] := by
  rw [take_snoc es h, rowsL_snoc, List.length_take, Nat.min_eq_left (by omega)]
theorem preL_succ (es : List En) {n : Nat} (h : n < es.length) : preL es (n + 1) = preL es n + es[n].ls.length := by
  unfold preL
  rw [rowsL_step es h, List.length_append, rowsE_len]
theorem preL_all (es : List En) : preL es es.length = (rowsL es).length := by unfold preL; rw [List.take_length]
/-- The rows of the first entries are the first ones. -/
theorem rowsL_take (es : List En) : ∀ n, n ≤ es.length → rowsL (es.take n) <+: rowsL es := by
  intro n hn
  have : ∀ m, n + m ≤ es.length → rowsL (es.take n) <+: rowsL (es.take (n + m)) := by
    intro m
    induction m with
    | zero => intro _; exact List.prefix_refl _
    | succ m ih =>
      intro h
      refine (ih (by omega)).trans ?_
      rw [show n + (m + 1) = n + m + 1 by omega, rowsL_step es (by omega)]
      exact List.prefix_append _ _
  have h := this (es.length - n) (by omega)
  rwa [show n + (es.length - n) = es.length by omega, List.take_length] at h
theorem rowsL_take_eq (es : List En) {n : Nat} (hn : n ≤ es.length) : rowsL (es.take n) = (rowsL es).take (preL es n) := by
  have := rowsL_take es n hn
  exact List.prefix_iff_eq_take.1 this
/-- The row of a line. -/
theorem rowsL_get (es : List En) {n k : Nat} (h : n < es.length) (hk : k < es[n].ls.length) :
    (rowsL es)[preL es n + k]? = some ⟨n, es[n].seq, es[n].per, es[n].con, es[n].day, es[n].ref, (es[n].ls[k]).p, (es[n].ls[k]).c, (es[n].ls[k]).a⟩ := by
  have h1 := rowsL_take es (n + 1) (by omega)
  obtain ⟨t, ht⟩ := h1
  rw [← ht, List.getElem?_append_left (by rw [rowsL_step es h, List.length_append, rowsE_len]; unfold preL; omega), rowsL_step es h]
  rw [List.getElem?_append_right (by unfold preL; omega), show preL es n + k - (rowsL (es.take n)).length = k by unfold preL; omega]
  unfold rowsE
  rw [List.getElem?_map, List.getElem?_eq_getElem hk]
  rfl
theorem preL_mono (es : List En) {a b : Nat} (h : a ≤ b) (hb : b ≤ es.length) : preL es a ≤ preL es b := by
  have := rowsL_take (es.take b) a (by rw [List.length_take]; omega)
  rw [List.take_take, Nat.min_eq_left h] at this
  exact this.length_le
/-- A row ahead of the rows from the n-th entry on has a number below n. -/
theorem row_no_lt (es : List En) : ∀ (n : Nat), n ≤ es.length → ∀ j r, j < preL es n → (rowsL es)[j]? = some r → r.no < n := by
  intro n hn j r hj hr
  have h1 := rowsL_take_eq es hn
  have h2 : (rowsL (es.take n))[j]? = some r := by rw [h1, List.getElem?_take_of_lt hj]; exact hr
  have hm := List.mem_of_getElem? h2
  rw [rowsL_flat, List.mem_flatten] at hm
  obtain ⟨b, hb, hrb⟩ := hm
  obtain ⟨i, hi, rfl⟩ := List.getElem_of_mem hb
  rw [blocksE_at] at hrb
  rw [blocksE_len, List.length_take] at hi
  rw [rowsE_no hrb]
  omega
theorem row_no_ge (es : List En) (r : Rw) (h : r ∈ rowsL es) : 0 ≤ r.no := by
  rw [rowsL_flat, List.mem_flatten] at h
  obtain ⟨b, hb, hrb⟩ := h
  obtain ⟨i, hi, rfl⟩ := List.getElem_of_mem hb
  rw [blocksE_at] at hrb
  rw [rowsE_no hrb]
  omega
/-- The first rows with numbers below n are those of the first entries. -/
theorem first_rows {es : List En} (hok : ∀ x ∈ es, 1 ≤ x.ls.length) (n : Int) {k : Nat} (hk : k ≤ (rowsL es).length) (h1 : ∀ j r, j < k → (rowsL es)[j]? = some r → r.no < n) (h2 : ∀ r, (rowsL es)[k]? = some r → n ≤ r.no) :
    ∃ m, m ≤ es.length ∧ (rowsL es).take k = rowsL (es.take m) := by
  obtain ⟨m, hm⟩ : ∃ m, m = min n.toNat es.length := ⟨_, rfl⟩
  have hml : m ≤ es.length := by omega
  refine ⟨m, hml, ?_⟩
  have e : k = preL es m := by
    have a1 : k ≤ preL es m := by
      by_cases hlt : m < es.length
      · have h0 := hok _ (List.getElem_mem hlt)
        have g := rowsL_get es hlt (k := 0) (by omega)
        rw [Nat.add_zero] at g
        by_cases hk' : preL es m < k
        · have := h1 _ _ hk' g
          simp only at this
          omega
        · omega
      · have : m = es.length := by omega
        rw [this, preL_all]; exact hk
    have a2 : preL es m ≤ k := by
      by_cases hk' : k < preL es m
      · have hb := preL_mono es hml (Nat.le_refl _)
        rw [preL_all] at hb
        have g : (rowsL es)[k]? = some ((rowsL es)[k]'(by omega)) := List.getElem?_eq_getElem _
        have c1 := row_no_lt es m hml k _ hk' g
        have c2 := h2 _ g
        have c3 := row_no_ge es _ (List.getElem_mem (l := rowsL es) (n := k) (by omega))
        omega
      · omega
    omega
  rw [e, rowsL_take_eq es hml]
theorem first_right {es : List En} (h : Inv es) (n : Int) {k : Nat} (hk : k ≤ (rowsL es).length) (h1 : ∀ j r, j < k → (rowsL es)[j]? = some r → r.no < n) (h2 : ∀ r, (rowsL es)[k]? = some r → n ≤ r.no) :
    checkG (groups ((rowsL es).take k)) = 0 := by
  obtain ⟨m, hm, e⟩ := first_rows (fun x hx => by have := two_of_ok (h.ok x hx); omega) n hk h1 h2
  rw [e]
  exact rows_right (h.take m)
/-- The first group begins with the first row. -/
theorem groups_head (r : Rw) : ∀ (t : List Rw) (gs : List (List Rw)), (∃ g gs', gs = g :: gs' ∧ g ≠ [] ∧ hd g = r) → ∃ g gs', t.foldl addG gs = g :: gs' ∧ g ≠ [] ∧ hd g = r
  | [], gs, h => h
  | x :: t, gs, h => by
    rw [List.foldl_cons]
    refine groups_head r t _ ?_
    obtain ⟨g, gs', rfl, hg, hr⟩ := h
    unfold addG
    cases hl : (g :: gs').getLast? with
    | none => simp at hl
    | some c =>
      simp only
      split
      · cases gs' with
        | nil => 
          simp at hl
          subst hl
          exact ⟨g ++ [x], [], by simp, by simp, by rw [hd_app hg]; exact hr⟩
        | cons y ys => exact ⟨g, (y :: ys).dropLast ++ [c ++ [x]], by simp, hg, hr⟩
      · exact ⟨g, gs' ++ [[x]], rfl, hg, hr⟩
theorem not_first {r : Rw} {t : List Rw} (h : r.no ≠ 0) : checkG (groups (r :: t)) = 13 := by
  have : ∃ g gs', groups (r :: t) = g :: gs' ∧ g ≠ [] ∧ hd g = r := by
    unfold groups
    rw [List.foldl_cons]
    exact groups_head r t _ ⟨[r], [], rfl, by simp, rfl⟩
  obtain ⟨g, gs', e, hg, hr⟩ := this
  have ho : ownG (groups (r :: t)) 0 = 13 := by
    unfold ownG
    rw [e, if_pos]
    refine .inl ?_
    show (hd g).no ≠ 0
    rw [hr]; exact h
  have hrule : ruleG (groups (r :: t)) 0 = 13 := by
    unfold ruleG; rw [ho]; rfl
  rw [checkG_first (k := 0) (by rw [e]; simp) (fun j hj => by omega) (by rw [hrule]; decide), hrule]
/-- One amount is another one: the rows are not right any more. -/
theorem other_wrong {a b : List Rw} {r : Rw} {n : Int} (h : checkG (groups (a ++ r :: b)) = 0) (hn : n ≠ r.amt) : checkG (groups (a ++ { r with amt := n } :: b)) ≠ 0 := by
  intro h2
  have e1 := check_sum h
  have e2 := check_sum h2
  simp only [List.map_append, List.map_cons, sumI_append] at e1 e2
  have c : ∀ (x : Int) (l : List Int), sumI (x :: l) = x + sumI l := fun x l => by unfold sumI; simp
  rw [c] at e1 e2
  omega

/-! A reverse behind. -/
def revE (es : List En) (k : Nat) (x : En) : En := { x with seq := lastSeq es, ref := k, ls := x.ls.map fun y => { y with a := IntKind.i64.wrap (0 - y.a) } }
theorem wrap_neg (a : Int) : IntKind.i64.wrap (0 - a) = ng a := by unfold ng; rw [Int.zero_sub]
theorem sum_neg : ∀ (l : List Int), sumI (l.map (fun a => -a)) = - sumI l
  | [] => rfl
  | x :: r => by
    have c : ∀ (x : Int) (l : List Int), sumI (x :: l) = x + sumI l := fun x l => by unfold sumI; simp
    rw [List.map_cons, c, c, sum_neg r]; omega
theorem lastSeq_nn {es : List En} (h : Inv es) : 0 ≤ lastSeq es := by
  unfold lastSeq
  cases hl : es.getLast? with
  | none => exact Int.le_refl _
  | some x =>
    have hm : x ∈ es := List.mem_of_getLast? hl
    have := (entryE_ok.1 (h.ok x hm)).1
    unfold rangesB at this
    simp only [Bool.and_eq_true, decide_eq_true_eq] at this
    simp only
    omega
theorem lastSeq_word {es : List En} (h : Inv es) : I64 (lastSeq es) := by
  unfold lastSeq
  cases hl : es.getLast? with
  | none => simp only; unfold I64; omega
  | some x => exact (h.word x (List.mem_of_getLast? hl)).2.2.2.1
theorem rev_entry {es : List En} (h : Inv es) {k : Nat} (hk : k < es.length) (hl : es.length ≤ 100000) : entryE (revE es k es[k]) = 0 ∧ (revE es k es[k]).ok ∧ mirE es[k] (revE es k es[k]) = true := by
  have hx := h.ok _ (List.getElem_mem hk)
  have hw := h.word _ (List.getElem_mem hk)
  have hs := lastSeq_nn h
  have hsw := lastSeq_word h
  have hm := amt_of_ok hx hw
  generalize es[k] = x at *
  have eL : (revE es k x).ls = turnL x.ls := by unfold revE turnL; simp only [wrap_neg]
  have eL2 : ∀ (p : Ln → Bool) (q : Ln → Bool), (∀ y ∈ x.ls, p { y with a := ng y.a } = q y) → (turnL x.ls).any p = x.ls.any q := by
    intro p q hpq
    unfold turnL
    rw [List.any_map]
    refine Bool.eq_iff_iff.2 ?_
    simp only [List.any_eq_true, Function.comp]
    exact ⟨fun ⟨y, hy, e⟩ => ⟨y, hy, by rw [← hpq y hy]; exact e⟩, fun ⟨y, hy, e⟩ => ⟨y, hy, by rw [hpq y hy]; exact e⟩⟩
  have hx' := entryE_ok.1 hx
  obtain ⟨r1, r2, r3, r4, r5⟩ := hx'
  refine ⟨?_, ?_, ?_⟩
  · rw [entryE_ok]
    refine ⟨?_, ?_, ?_, ?_, ?_⟩
    · unfold rangesB at r1 ⊢
      rw [eL, eL2 _ _ (fun y _ => rfl)]
      simp only [Bool.and_eq_true] at r1 ⊢
      exact ⟨⟨⟨r1.1.1.1, decide_eq_true hs⟩, r1.1.2⟩, decide_eq_true (by show -1 ≤ (k : Int); omega)⟩
    · unfold linesB at r2 ⊢
      rw [eL, eL2 _ _ (fun y _ => rfl)]
      simp only [revE, turnL, List.length_map]
      exact r2
    · unfold someB at r3 ⊢
      rw [eL, eL2 _ (fun y => decide (y.a = 0)) (fun y hy => by
        have := (hm y hy).1
        simp only [this]
        exact decide_eq_decide.2 (by omega))]
      exact r3
    · unfold amtB at r4 ⊢
      rw [eL]
      simp only [Bool.not_eq_true', List.any_eq_false, decide_eq_true_eq] at r4 ⊢
      intro y hy
      unfold turnL at hy
      obtain ⟨u, hu, rfl⟩ := List.mem_map.1 hy
      have h1 := (hm u hu).1
      have h2 := (hw.2.2.2.2.2.2.1 u hu).2.2
      unfold I64 at h2
      simp only
      omega
    · unfold evenB at r5 ⊢
      rw [eL]
      have : (turnL x.ls).map (·.a) = (x.ls.map (·.a)).map (fun a => -a) := by
        unfold turnL
        rw [List.map_map, List.map_map]
        refine List.map_congr_left (fun y hy => ?_)
        simp only [Function.comp]
        exact (hm y hy).1
      rw [this, sum_neg]
      simp only [decide_eq_true_eq] at r5 ⊢
      omega
  · obtain ⟨a1, a2, a3, a4, a5, a6, a7, a8⟩ := hw
    refine ⟨a1, a2, a3, hsw, a5, ?_, ?_, ?_⟩
    · unfold revE I64; simp only; omega
    · rw [eL]
      intro y hy
      unfold turnL at hy
      obtain ⟨u, hu, rfl⟩ := List.mem_map.1 hy
      obtain ⟨b1, b2, b3⟩ := a7 u hu
      refine ⟨b1, b2, ?_⟩
      have h1 := (hm u hu).1
      have h2 := (entryE_ok.1 hx).2.2.2.1
      unfold amtB at h2
      simp only [Bool.not_eq_true', List.any_eq_false, decide_eq_true_eq] at h2
      have := h2 u hu
      unfold I64 at b3 ⊢
      simp only
      omega
    · rw [eL]; unfold turnL; rw [List.length_map]; exact a8
  · unfold mirE
    rw [eL]
    simp [revE]
theorem own_prefix (gs more : List (List Rw)) {i : Nat} (hi : i < gs.length) : ownG (gs ++ more) i = ownG gs i := by
  have e : ∀ j, j < gs.length → (gs ++ more).getD j [] = gs.getD j [] := fun j hj => by simp [List.getD, List.getElem?_append_left hj]
  unfold ownG
  rw [e i hi]
  by_cases h0 : 0 < i
  · rw [e (i - 1) (by omega)]
  · have : i = 0 := by omega
    subst this
    simp
theorem back_prefix (gs more : List (List Rw)) {i : Nat} (hi : i < gs.length) : backG (gs ++ more) i = backG gs i := by
  have e : ∀ j, j < gs.length → (gs ++ more).getD j [] = gs.getD j [] := fun j hj => by simp [List.getD, List.getElem?_append_left hj]
  unfold backG
  rw [e i hi, List.take_append_of_le_length (by omega)]
  by_cases h0 : (hd (gs.getD i [])).ref = -1
  · rw [if_pos h0, if_pos h0]
  · rw [if_neg h0, if_neg h0]
    by_cases h1 : (hd (gs.getD i [])).ref < 0 ∨ (i : Int) ≤ (hd (gs.getD i [])).ref
    · rw [if_pos h1, if_pos h1]
    · rw [if_neg h1, if_neg h1, e _ (by omega)]
theorem rule_prefix (gs more : List (List Rw)) {i : Nat} (hi : i < gs.length) : ruleG (gs ++ more) i = ruleG gs i := by
  unfold ruleG; rw [own_prefix gs more hi, back_prefix gs more hi]
/-- The reverse of a live entry behind: once it is right, twice it is there already. -/
theorem rev_right {es : List En} (h : Inv es) {k : Nat} (hk : k < es.length) (hl : es.length ≤ 100000) (h1 : es[k].ref = -1) (h2 : ∀ j (hj : j < es.length), es[j].ref ≠ k) : Inv (es ++ [revE es k es[k]]) := by
  obtain ⟨a, b, c⟩ := rev_entry h hk hl
  exact h.snoc a (Int.le_refl _) b (fun _ => ⟨k, hk, rfl, h1, c, h2⟩)
theorem rev_twice {es : List En} (h : Inv es) {k : Nat} (hk : k < es.length) (hl : es.length ≤ 100000) (h1 : es[k].ref = -1) (h2 : ∀ j (hj : j < es.length), es[j].ref ≠ k) :
    checkG (groups (rowsL (es ++ [revE es k es[k]] ++ [revE es k es[k]]))) = 17 := by
  have hI := rev_right h hk hl h1 h2
  obtain ⟨a, b, c⟩ := rev_entry h hk hl
  have hd2 := two_of_ok a
  obtain ⟨x, hx⟩ : ∃ x, revE es k es[k] = x := ⟨_, rfl⟩
  have hxr : x.ref = k := by rw [← hx]; rfl
  rw [hx] at hI a b c hd2 ⊢
  have hall : ∀ y ∈ es ++ [x] ++ [x], entryE y = 0 := by
    intro y hy
    rcases List.mem_append.1 hy with hy | hy
    · exact hI.ok y hy
    · simp only [List.mem_singleton] at hy; subst hy; exact a
  rw [groups_rows hall, blocksE_snoc]
  have hlen : (blocksE (es ++ [x])).length = es.length + 1 := by rw [blocksE_len]; simp
  have hrule : ∀ j, j < es.length + 1 → ruleG (blocksE (es ++ [x]) ++ [rowsE (es ++ [x]).length x]) j = 0 := by
    intro j hj
    rw [rule_prefix _ _ (by rw [hlen]; exact hj)]
    unfold ruleG
    rw [own_ok hI (by simp; omega), back_ok hI (by simp; omega)]
    rfl
  have e1 : (blocksE (es ++ [x]) ++ [rowsE (es ++ [x]).length x]).getD (es.length + 1) [] = rowsE (es.length + 1) x := by
    simp [List.getD, List.getElem?_append_right, hlen]
  have e2 : (blocksE (es ++ [x]) ++ [rowsE (es ++ [x]).length x]).getD es.length [] = rowsE es.length x := by
    have : es.length < (blocksE (es ++ [x])).length := by omega
    rw [List.getD, List.getElem?_append_left this, List.getElem?_eq_getElem this, blocksE_at]
    simp
  obtain ⟨y, f1, hy⟩ := hd_rowsE (no := es.length + 1) hd2
  obtain ⟨z, f2, hz⟩ := hd_rowsE (no := es.length) hd2
  have ho : ownG (blocksE (es ++ [x]) ++ [rowsE (es ++ [x]).length x]) (es.length + 1) = 0 := by
    unfold ownG
    rw [e1, f1, if_neg, if_neg, if_neg]
    · have := (entryE_ok.1 a).2.2.2.2
      unfold evenB at this
      rw [amts_rowsE]
      exact fun h => h (of_decide_eq_true this)
    · rintro ⟨_, g⟩
      rw [Nat.add_sub_cancel, e2, f2] at g
      simp only at g
      omega
    · rintro (h0 | h0)
      · exact h0 rfl
      · rw [List.any_eq_true] at h0
        obtain ⟨r, hr, h1⟩ := h0
        unfold rowsE at hr
        obtain ⟨u, hu, rfl⟩ := List.mem_map.1 hr
        refine of_decide_eq_true h1 ?_
        unfold Rw.head
        simp only [cur_of_ok a u hu, cur_of_ok a y hy]
  have hb : backG (blocksE (es ++ [x]) ++ [rowsE (es ++ [x]).length x]) (es.length + 1) = 17 := by
    unfold backG
    rw [e1, f1]
    simp only
    rw [hxr, if_neg (by omega), if_neg (by omega), if_pos]
    rw [List.any_eq_true]
    refine ⟨rowsE es.length x, ?_, ?_⟩
    · rw [List.take_append_of_le_length (by omega)]
      rw [← hlen, List.take_length]
      rw [blocksE_snoc]
      simp
    · rw [f2]; simp [hxr]
  have hr : ruleG (blocksE (es ++ [x]) ++ [rowsE (es ++ [x]).length x]) (es.length + 1) = 17 := by
    unfold ruleG; rw [ho, hb]; rfl
  rw [checkG_first (k := es.length + 1) (by simp [hlen]) (fun j hj => hrule j hj) (by rw [hr]; decide), hr]
/-- Which rows an entry's are. -/
theorem filter_no (es : List En) {k : Nat} (hk : k < es.length) : (rowsL es).filter (fun r => decide (r.no = (k : Int))) = rowsE k es[k] := by
  have gen : ∀ n, n ≤ es.length → (rowsL (es.take n)).filter (fun r => decide (r.no = (k : Int))) = if k < n then rowsE k es[k] else [] := by
    intro n
    induction n with
    | zero => intro _; simp [rowsL_nil]
    | succ n ih =>
      intro hn
      rw [rowsL_step es (by omega), List.filter_append, ih (by omega)]
      by_cases h : k = n
      · subst h
        rw [if_neg (by omega), if_pos (by omega), List.nil_append, List.filter_eq_self.2]
        intro r hr
        rw [rowsE_no hr]; simp
      · have : (rowsE n es[n]).filter (fun r => decide (r.no = (k : Int))) = [] := by
          rw [List.filter_eq_nil_iff]
          intro r hr
          rw [rowsE_no hr]
          simp
          omega
        rw [this, List.append_nil]
        by_cases h2 : k < n
        · rw [if_pos h2, if_pos (by omega)]
        · rw [if_neg h2, if_neg (by omega)]
  have := gen es.length (Nat.le_refl _)
  rw [List.take_length, if_pos hk] at this
  exact this
def turnR (es : List En) (no : Nat) (ref : Int) (r : Rw) : Rw := { r with no := no, seq := lastSeq es, ref := ref, amt := IntKind.i64.wrap (0 - r.amt) }
theorem rev_rows (es : List En) {k : Nat} (hk : k < es.length) (no : Nat) : (rowsE k es[k]).map (turnR es no k) = rowsE no (revE es k es[k]) := by
  unfold rowsE revE turnR
  simp [List.map_map, Function.comp]
end Go.Proofs.YtckeaibamgkegaaGreatDoor
end
section
/- audit.Rows -/
namespace Go.Proofs.YtckeaibamgkegaaGreatDoor
open Go.RowKit
set_option maxRecDepth 100000
attribute [local go_sem] Oper.semAt_some

/-- The rows of the elements so far. -/
def rowsOf (es : List En) (pre : List (AllE es)) : List Rw := pre.flatMap (fun x => rowsE x.1.1 es[x.1])
theorem rowsOf_snoc (es : List En) (pre : List (AllE es)) (x : AllE es) : rowsOf es (pre ++ [x]) = rowsOf es pre ++ rowsE x.1.1 es[x.1] := by unfold rowsOf; rw [List.flatMap_append, List.flatMap_singleton]
theorem rowsOf_all (es : List En) (ys : List (AllE es)) (h : ys.map (·.1) = List.finRange es.length) : rowsOf es ys = rowsL es := by
  have e1 : rowsOf es ys = (ys.map (·.1)).flatMap (fun i => rowsE i.1 es[i]) := by unfold rowsOf; rw [List.flatMap_map]
  rw [e1, h]
  unfold rowsL
  have e2 : es.zipIdx = (List.finRange es.length).map (fun i => (es[i], i.1)) := by
    refine List.ext_getElem (by simp) (fun i h1 h2 => ?_)
    simp
  rw [e2, List.flatMap_map]
theorem rowsOf_len (es : List En) (hew : ∀ y ∈ es, y.ls.length ≤ 20) (pre : List (AllE es)) : (rowsOf es pre).length ≤ 20 * pre.length := by
  induction pre with
  | nil => simp [rowsOf]
  | cons x t ih =>
    have : rowsOf es (x :: t) = rowsE x.1.1 es[x.1] ++ rowsOf es t := by unfold rowsOf; rw [List.flatMap_cons]
    rw [this, List.length_append, rowsE_len, List.length_cons]
    have := hew _ (List.getElem_mem x.1.2)
    simp only [Fin.getElem_fin] at *
    omega
/-- What holds ahead of a round. -/
def rowsI (w : World) (es : List En) (N B : Nat) (pre : List (AllE es)) (W : World) : Prop := (∃ v, RS w N B W v (rowsOf es pre)) ∧ pre.length ≤ es.length
/-- What holds in it. -/
def rowsZ (w : World) (es : List En) (N B : Nat) (A : AllE es → Nat → Act) (pre : List (AllE es)) (x : AllE es) (a : Act) (W : World) : Prop :=
  (∃ v, RS w N B W v (rowsOf es pre)) ∧ pre.length + 1 ≤ es.length ∧ RowT 92 3 lnF W x.2 es[x.1].ls ∧
    ∃ b, a = A x b ∧ W.heap[b]? = some (.cells #[.int .i64 es[x.1].con, .int .i64 es[x.1].day, .int .i64 es[x.1].cur, .int .i64 es[x.1].seq, .int .i64 es[x.1].per, .int .i64 es[x.1].ref, x.2] 48 (0, 0))
theorem turn_block {W W' : World} {row : Option Nat} (hg : W.grownBy W' row) (hr : ∀ r, row = some r → ∃ o : Obj, W.heap[r]? = some o ∧ o.isCells = false) {k : Nat} {cs : Array Value} {t : TypeId} {fr : Nat × Nat} (h : W.heap[k]? = some (.cells cs t fr)) : W'.heap[k]? = some (.cells cs t fr) :=
  (grownBy_keeps_cells hg hr h rfl).trans h
theorem rowsI_own (w : World) (es : List En) (N B M : Nat) (hM : w.heap.size ≤ M) : OwnFrom M (rowsI w es N B) := fun s W W' row hs hg hr => by
  obtain ⟨⟨v, h⟩, h2⟩ := hs
  exact ⟨⟨v, h.turn hg (fun r e => ⟨Nat.le_trans hM (hr r e).1, (hr r e).2⟩)⟩, h2⟩
theorem rowsZ_own (w : World) (es : List En) (N B M : Nat) (A : AllE es → Nat → Act) (hM : w.heap.size ≤ M) (pre : List (AllE es)) (x : AllE es) (a : Act) : OwnFrom M (fun (_ : Unit) W => rowsZ w es N B A pre x a W) := fun s W W' row hs hg hr => by
  obtain ⟨⟨v, h⟩, h2, h3, b, h4, h5⟩ := hs
  exact ⟨⟨v, h.turn hg (fun r e => ⟨Nat.le_trans hM (hr r e).1, (hr r e).2⟩)⟩, h2, h3.blocks hg.size (fun k cs fr e => turn_block hg (fun r e => (hr r e).2) e), b, h4, turn_block hg (fun r e => (hr r e).2) h5⟩

set_option maxHeartbeats 4000000 in
theorem rows_any (q : Nat) (es : List En) (hel : es.length ≤ 200) (hew : ∀ y ∈ es, y.ok) (hew2 : ∀ y ∈ es, y.ls.length ≤ 20) (w : World) (hL : Led w q es) :
    Calls Tryz.prog 16 #[.pointer (some ⟨q, 0, none⟩)] w fun e w' => ∃ v, e = .returned v ∧ RowT 55 9 rwF w' v (rowsL es) ∧ Later w w' := by
  have HAM := Lib.hid (fun W (hl : Later w W) => all_make q es (by omega) W (hL.later hl))
  clear hL
  refine callsIn_wide.1 (callsIn_of_wp_marks (n := 9) Tryz.func16 rfl trivial ?_ rfl)
  simp only [Tryz.ntmps16, List.size_toArray, List.length_cons, List.length_nil, Nat.reduceAdd, Nat.reduceSub, Array.replicate_succ, Array.replicate_zero, List.push_toArray, List.append_toArray, List.nil_append, List.cons_append]
  gi_wp2_with ((first | (refine ⟨trivial, ?_⟩; gi_at_call 43) | (refine ⟨trivial, fun hh => (by cases hh), ?_⟩; gi_at_call 43)); go_must (refine (callsIn_wide.2 (HAM.out _ (by repeat (first | with_reducible exact Later.refl _ | with_reducible assumption | with_reducible refine Later.ofdrew ?_ | with_reducible refine Later.ofdrewN ?_ | with_reducible refine Later.setCell ?_ ?_ _ | with_reducible refine Later.alloc ?_ _ | with_reducible refine Later.drewN ?_ _ | with_reducible refine Later.drew ?_ | (with_reducible refine Later.trans ?_ (by assumption)) | (simp only [World.size_setCell, World.size_alloc, World.heap_drewN]; omega) | (simp; done) | (simp; omega))))).mono ?_; rintro e W0 ⟨Bc, nb, rfl, hBc, hcB, hLn, hb1⟩))
  have hbox : W0.heap[w.heap.size]? = some (.cells #[.slice none 0 0] 22 (0, 0)) := (hb1.block _ (by simp)).trans (heap_alloc_new w _)
  have hl0 : Later w W0 := hb1.un1
  have hne : Bc ≠ w.heap.size := by simp at hBc; omega
  have hz := Later.size hl0
  have hz2 := World.block_lt_of_cell? _ _ hcB
  have hRS : RS w W0.heap.size w.heap.size W0 (.slice none 0 0) [] := ⟨hbox, World.ownsRow_nil _ _ _ _, hl0, Nat.le_refl _, Nat.le_refl _, hz⟩
  refine wpIn_range_V rfl (by omega) (gf := 66) (lb := #[.pointer (some ⟨Bc, 0, none⟩)]) rfl trivial (enters_of Tryz.func66 (by kernel_rfl) rfl)
    (all_seq es (by omega) hew 8 Bc nb w.heap.size W0 hLn hcB hne hbox (by decide) (by decide) (by decide)) Kq.trans (fun W o o' _ _ _ => Kq.put W (by omega) o') (fun _ => rfl)
    (rowsI w es W0.heap.size w.heap.size) (rowsI_own w es _ _ _ hz) ⟨⟨_, hRS⟩, by simp⟩ (rowsZ w es W0.heap.size w.heap.size (fun x b => { tmps := #[.pointer (some ⟨q, 0, none⟩), undef, .slice none 0 0, .pointer (some ⟨w.heap.size, 0, none⟩), .int .i64 (x.1.1 : Int), .pointer (some ⟨b, 0, none⟩), undef, undef, .pointer (some ⟨q, 0, none⟩), .func (.func 66) #[] #[.pointer (some ⟨Bc, 0, none⟩)], .int .i64 (x.1.1 : Int), .agg #[.int .i64 es[x.1].con, .int .i64 es[x.1].day, .int .i64 es[x.1].cur, .int .i64 es[x.1].seq, .int .i64 es[x.1].per, .int .i64 es[x.1].ref, x.2], undef, undef, undef, undef, undef, undef, undef, undef, undef, undef, undef, undef, undef, undef, undef, undef, undef, undef, undef, undef, undef, undef, undef, undef, undef, undef, undef, undef, undef, undef, undef, undef], defers := [] })) (fun pre x a' => rowsZ_own w es _ _ _ _ hz pre x a') ?assign ?body ?done
  case assign =>
    rintro ll pre ⟨⟨i, hi⟩, v⟩ W K ⟨⟨vr, hR⟩, hpl⟩ ⟨hpre, hV⟩ hK
    have hpl2 : pre.length + 1 ≤ es.length := by
      have := hpre.length_le
      simpa using this
    have hvf : ∃ p nn c, v = .slice p nn c := let ⟨p, c, h⟩ := hV.1.form; ⟨p, _, c, h⟩
    obtain ⟨p, nn, c, rfl⟩ := hvf
    have HV := Lib.hid hV
    have HR := Lib.hid hR
    have HK := Lib.hid hK
    clear hR hV hK hpre
    simp only [allArgs, Fin.getElem_fin]
    gi_wp2
    exact HK.out _ _ (KeepsOthers.alloc _ _) (Kq.later HR.out.szN ((Later.refl _).alloc _)) ⟨⟨vr, HR.out.later ((Later.refl _).alloc _)⟩, hpl2, HV.out.later ((Later.refl _).alloc _), W.heap.size, rfl, heap_alloc_new W _⟩
  case body =>
    rintro ll pre ⟨⟨i, hi⟩, v⟩ a' W ⟨⟨vr, hR⟩, hpl, hV, b, rfl, hb⟩
    have hvf : ∃ p nn c, v = .slice p nn c := let ⟨p, c, h⟩ := hV.1.form; ⟨p, _, c, h⟩
    obtain ⟨p, nn, c, rfl⟩ := hvf
    simp only [Fin.getElem_fin] at hV hb ⊢
    have hxl : es[i].ls.length ≤ 20 := hew2 _ (List.getElem_mem hi)
    have hsn : rowsOf es (pre ++ [((⟨i, hi⟩ : Fin es.length), .slice p nn c)]) = rowsOf es pre ++ rowsE i es[i] := rowsOf_snoc _ _ _
    have hrl := rowsOf_len es hew2 pre
    have hsn := Lib.hid hsn
    generalize hrr : rowsOf es pre = rr at *
    replace hrr := Lib.hid hrr
    generalize es[i] = x at *
    obtain ⟨con, day, cur, sq, pr, ref, ls⟩ := x
    simp only at hV hb hxl
    obtain ⟨-, -, hf⟩ : True ∧ True ∧ nn = ls.length := ⟨trivial, trivial, by
      obtain ⟨p2, c2, e⟩ := hV.1.form
      cases e; rfl⟩
    subst hf
    simp only at ⊢
    have hRE : ∀ k (hk : k < ls.length), rowsE i ⟨con, day, cur, sq, pr, ref, ls⟩ = (rowsE i ⟨con, day, cur, sq, pr, ref, ls⟩) := fun _ _ => rfl
    have htk : ∀ k (hk : k < ls.length), (rowsE i ⟨con, day, cur, sq, pr, ref, ls⟩).take (k + 1) = (rowsE i ⟨con, day, cur, sq, pr, ref, ls⟩).take k ++ [⟨i, sq, pr, con, day, ref, (ls[k]).p, (ls[k]).c, (ls[k]).a⟩] := fun k hk => by
      unfold rowsE
      rw [List.take_add_one, List.getElem?_map, List.getElem?_eq_getElem hk]; rfl
    have hlenk : ∀ k, (rr ++ (rowsE i ⟨con, day, cur, sq, pr, ref, ls⟩).take k).length ≤ 100000 := fun k => by
      rw [List.length_append, List.length_take, rowsE_len]
      simp only
      omega
    have HLK := Lib.hid hlenk
    have HTK := Lib.hid htk
    have hall : (rowsE i ⟨con, day, cur, sq, pr, ref, ls⟩).take ls.length = rowsE i ⟨con, day, cur, sq, pr, ref, ls⟩ := List.take_of_length_le (by rw [rowsE_len]; exact Nat.le_refl _)
    have HALL := Lib.hid hall
    clear hRE htk hlenk hall hrl
    obtain ⟨rs, hrs⟩ : ∃ rs, rowsE i ⟨con, day, cur, sq, pr, ref, ls⟩ = rs := ⟨_, rfl⟩
    rw [hrs] at hsn HLK HTK HALL
    clear hrs
    have hOw : ∀ U : World, U.heap[b]? = some (.cells #[.int .i64 con, .int .i64 day, .int .i64 cur, .int .i64 sq, .int .i64 pr, .int .i64 ref, .slice p ls.length c] 48 (0, 0)) → ∀ k, U.cell? ⟨b, k, none⟩ = #[.int .i64 con, .int .i64 day, .int .i64 cur, .int .i64 sq, .int .i64 pr, .int .i64 ref, .slice p ls.length c][k]? := fun U hU k => by simp [World.cell?, hU]
    have HOW := Lib.hid hOw
    have d0 := hOw W hb
    have zb := (Array.getElem?_eq_some_iff.1 hb).1
    have HB0 := Lib.hid hb
    have HV0 := Lib.hid hV
    have HR0 := Lib.hid hR
    clear hb hV hR hOw
    gi_wp2
    gi_loopw [15] (fun s15 wr => ∃ k : Nat, k ≤ ls.length ∧ s15 = .int .i64 k ∧ ∃ vk, Hid (RS w W0.heap.size w.heap.size wr vk (rr ++ rs.take k)) ∧ Hid (RowT 92 3 lnF wr (.slice p ls.length c) ls) ∧ Hid (wr.heap[b]? = some (.cells #[.int .i64 con, .int .i64 day, .int .i64 cur, .int .i64 sq, .int .i64 pr, .int .i64 ref, .slice p ls.length c] 48 (0, 0))) ∧ Hid (KeepsOthers W wr) ∧ Hid (Kq W0.heap.size w.heap.size W wr)) (fun s15 _ => ls.length - (intOf s15).toNat)
    case atStart => exact ⟨0, Nat.zero_le _, rfl, vr, Lib.hid (by simpa using HR0.out), HV0, HB0, Lib.hid (KeepsOthers.refl W), Lib.hid ⟨rfl, rfl, rfl, Nat.le_refl _, fun _ _ _ => rfl⟩⟩
    case round =>
      obtain ⟨k, hk, rfl, vk, hRk, hVk, hBk, hKO, hKq⟩ := hrel
      clear d0 zb HB0 HV0 HR0
      have d0 := HOW.out wr hBk.out
      have zb := (Array.getElem?_eq_some_iff.1 hBk.out).1
      obtain ⟨⟨zo, co, fo⟩, -⟩ := hRk.out.own
      by_cases hlt : k < ls.length
      · obtain ⟨gb, o, cp', hv, hgb, g⟩ := hVk.out.1.full (i := k) hlt
        cases hv
        have g0 := g 0 (by omega)
        have g1 := g 1 (by omega)
        have g2 := g 2 (by omega)
        simp only [lnF, Nat.add_zero] at g0 g1 g2
        have HT1 := Lib.hid (HTK.out k hlt)
        have HL1 := Lib.hid (HLK.out k)
        clear g HTK HLK HALL
        generalize ls[k] = y at *
        obtain ⟨x0, x1, x2⟩ := y
        simp only at g0 g1 g2 HT1
        obtain ⟨l, hl⟩ : ∃ l, rr ++ rs.take k = l := ⟨_, rfl⟩
        have HT2 : Hid (rr ++ rs.take (k + 1) = l ++ [⟨i, sq, pr, con, day, ref, x0, x1, x2⟩]) := Lib.hid (by rw [HT1.out, ← List.append_assoc, hl])
        rw [hl] at hRk HL1
        clear hl HT1
        obtain ⟨pv, cv, rfl⟩ := ownsRow_form_ hRk.out.row
        have hll := HL1.out
        have HRW := Lib.hid (fun U (hl : Later wr U) => (hRk.out.later hl))
        gi_wp2_with (first | refine wpListIn_built (rw_build _ _ _ _ _ _ _ _ _ _) rfl rfl rfl ?_ | (gi_at_builtin; go_must (refine wpListIn_pushB sliceRw (HRW.out _ (by repeat (first | with_reducible exact Later.refl _ | with_reducible assumption | with_reducible refine Later.ofdrew ?_ | with_reducible refine Later.ofdrewN ?_ | with_reducible refine Later.setCell ?_ ?_ _ | with_reducible refine Later.alloc ?_ _ | with_reducible refine Later.drewN ?_ _ | with_reducible refine Later.drew ?_ | (with_reducible refine Later.trans ?_ (by assumption)) | (simp only [World.size_setCell, World.size_alloc, World.heap_drewN]; omega) | (simp; done) | (simp; omega)))).row (HRW.out _ (by repeat (first | with_reducible exact Later.refl _ | with_reducible assumption | with_reducible refine Later.ofdrew ?_ | with_reducible refine Later.ofdrewN ?_ | with_reducible refine Later.setCell ?_ ?_ _ | with_reducible refine Later.alloc ?_ _ | with_reducible refine Later.drewN ?_ _ | with_reducible refine Later.drew ?_ | (with_reducible refine Later.trans ?_ (by assumption)) | (simp only [World.size_setCell, World.size_alloc, World.heap_drewN]; omega) | (simp; done) | (simp; omega)))).szN rfl _ _ rfl rfl 1 _ rfl (by simp) rfl (by simp [Value.oneCell']) (by omega) (by unfold maxLen; omega) ?_; intro v9 w9 hM9 hg9; obtain ⟨p9, cp9, rfl⟩ := ownsRow_form_ hM9; have hP := (HRW.out _ (show Later wr (((wr.alloc _).alloc _)) from ((Later.refl _).alloc _).alloc _)).push (x := ⟨i, sq, pr, con, day, ref, x0, x1, x2⟩) hg9 hM9; obtain ⟨hbx, hRS9, hKO9, hKq9, hbl9⟩ := hP; have cb9 : w9.cell? ⟨w.heap.size, 0, none⟩ = some (.slice pv l.length cv) := (by simp [World.cell?, hbx]); have fb9 := frozen_of_row w9 w.heap.size 0 _ _ hbx; have hz9 := (Array.getElem?_eq_some_iff.1 hbx).1; have HS9 := Lib.hid (And.intro hRS9 (And.intro hKO9 (And.intro hKq9 hbl9))); clear hRS9 hKO9 hKq9 hbl9 hbx hM9 hg9)))
        have hU : Later wr ((wr.alloc (.cells #[.int .i64 x0, .int .i64 x1, .int .i64 x2] 92)).alloc (.cells #[.int .i64 (i : Int), .int .i64 sq, .int .i64 pr, .int .i64 con, .int .i64 day, .int .i64 ref, .int .i64 x0, .int .i64 x1, .int .i64 x2] 55)) := ((Later.refl _).alloc _).alloc _
        obtain ⟨hRS9, hKO9, hKq9, hbl9⟩ := HS9.out
        refine ⟨⟨k + 1, by omega, by simp, _, Lib.hid (by rw [HT2.out]; exact hRS9), Lib.hid ?_, Lib.hid ?_, Lib.hid ?_, Lib.hid ?_⟩, by simp [intOf]; omega⟩
        · exact (hVk.out.later hU).blocks hKO9.size (fun k cs fr e => hbl9 k cs _ fr e (by decide) (by decide))
        · exact hbl9 b _ _ _ ((hU.block b zb).trans hBk.out) (by decide) (by decide)
        · exact (hKO.out.trans (keepsOthers_later hU)).trans hKO9
        · exact (hKq.out.trans (Kq.later hRk.out.szN hU)).trans hKq9
      · have hkl : Hid (k = ls.length) := Lib.hid (by omega)
        have HF : Hid (rowsI w es W0.heap.size w.heap.size (pre ++ [((⟨i, hi⟩ : Fin es.length), .slice p ls.length c)]) wr) := Lib.hid ⟨⟨vk, by rw [hsn.out, ← HALL.out, ← hkl.out]; exact hRk.out⟩, by rw [List.length_append, List.length_singleton]; exact hpl⟩
        clear d0 zb co fo zo
        gi_wp2
        exact ⟨hKO.out, hKq.out, HF.out⟩
  case done =>
    rintro D ys W hD hS ⟨⟨v, hR⟩, -⟩ hK
    have hR1 : RS w W0.heap.size w.heap.size (W.putObj D (.deferred none)) v (rowsL es) := by
      rw [← rowsOf_all es ys hS]
      exact hR.turn (grownBy_putObj' W D _) (fun r e => by cases e; exact ⟨by omega, _, hK, rfl⟩)
    have HR1 := Lib.hid hR1
    obtain ⟨p, c, rfl⟩ := ownsRow_form_ hR.row
    obtain ⟨⟨zo, co, fo⟩, -⟩ := hR.own
    clear hR hR1 HAM hbox hRS hLn hcB
    gi_wp2
    refine ⟨by simp, .inl ⟨_, _, rfl, run_takeDeferred hK, ?_⟩⟩
    exact ⟨_, results_tmp rfl _ _ _, _, rfl, rowT_owns rwCs rwCs_len rwCs_cell (by decide) HR1.out.row, HR1.out.low⟩

end Go.Proofs.YtckeaibamgkegaaGreatDoor
end
