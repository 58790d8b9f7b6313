/- audit, plain: what is wrong with an entry, with rows; books; no program in sight -/
import Derived.Test.YtckeaibamgkegaaDoorBook
set_option linter.all false
namespace Go.Proofs.YtckeaibamgkegaaDoor
open Go.RowKit
set_option maxRecDepth 100000

def inB (n most : Int) : Bool := decide (0 ≤ n ∧ n < most)
def tagB (con day cur : Int) : Bool := inB con 64 && inB day 73049 && inB cur 8
def lnB (x : Ln) : Bool := inB x.p 16 && inB x.c 8
def ng (a : Int) : Int := IntKind.i64.wrap (-a)
theorem ng_of {a : Int} (h : I64 a) (h1 : a ≠ -9223372036854775808) : ng a = -a := IntWalk.i64_in _ (by unfold I64 at h; omega)
def sumI (l : List Int) : Int := l.sum
def fitE (n : Int) : Int := if -9223372036854775808 ≤ n ∧ n ≤ 9223372036854775807 then 0 else 11
def fitN (n : Int) : Int := if -9223372036854775808 ≤ n ∧ n ≤ 9223372036854775807 then n else 0

/-! Entries. -/
def rangesB (x : En) : Bool := tagB x.con x.day x.cur && !x.ls.any (fun y => !lnB y) && decide (0 ≤ x.seq) && decide (0 ≤ x.per) && decide (-1 ≤ x.ref)
def linesB (x : En) : Bool := decide (2 ≤ x.ls.length) && decide (x.ls.length ≤ 8) && !x.ls.any (fun y => decide (y.c ≠ x.cur))
def someB (x : En) : Bool := !x.ls.any (fun y => decide (y.a = 0))
def amtB (x : En) : Bool := !x.ls.any (fun y => decide (y.a = -9223372036854775808))
def evenB (x : En) : Bool := decide (sumI (x.ls.map (·.a)) = 0)
def entryE (x : En) : Int := if rangesB x = false then 10 else if linesB x = false then 1 else if someB x = false then 12 else if amtB x = false then 11 else if evenB x = false then 20 else 0
theorem entryE_ok {x : En} : entryE x = 0 ↔ rangesB x = true ∧ linesB x = true ∧ someB x = true ∧ amtB x = true ∧ evenB x = true := by
  unfold entryE
  cases rangesB x <;> cases linesB x <;> cases someB x <;> cases amtB x <;> cases evenB x <;> simp
def turnL (l : List Ln) : List Ln := l.map fun y => { y with a := ng y.a }
def mirE (a b : En) : Bool := decide (a.con = b.con ∧ a.day = b.day ∧ a.cur = b.cur) && decide (turnL a.ls = b.ls)

/-! Books. -/
def byL (es : List En) : List (Int × Int) := es.zipIdx.filterMap (fun p => if p.1.ref = -1 then none else some (p.1.ref, (p.2 : Int)))
def lastSeq (es : List En) : Int := match es.getLast? with | none => 0 | some x => x.seq
def chkE (es : List En) (x : En) : Int :=
  if entryE x ≠ 0 then entryE x else if x.ref = -1 then 0 else
  match es[x.ref.toNat]? with
  | none => 16
  | some old => if es.any (fun y => decide (y.ref = x.ref)) then 17 else if old.ref ≠ -1 then 24 else if mirE old x = false then 20 else 0
def atE (period seq : Int) (x : En) : En := { x with seq := seq, per := period }
/-- Books behind entries that come one by one; or what is wrong with the first one that may not. -/
def postL (period seq : Int) : List En → List En → Int × List En
  | es, [] => (0, es)
  | es, x :: r => if chkE es x ≠ 0 then (chkE es x, es) else postL period seq (es ++ [atE period seq x]) r

/-- Books as they may be. -/
structure Inv (es : List En) : Prop where
  ok : ∀ x ∈ es, entryE x = 0
  seq : ∀ i j (h : i ≤ j) (hj : j < es.length), (es[i]'(by omega)).seq ≤ es[j].seq
  back : ∀ i (h : i < es.length), es[i].ref ≠ -1 → ∃ k, ∃ hk : k < i, es[i].ref = k ∧ (es[k]'(by omega)).ref = -1 ∧ mirE (es[k]'(by omega)) es[i] = true ∧ ∀ j (hj : j < i), (es[j]'(by omega)).ref ≠ es[i].ref
  word : ∀ x ∈ es, x.ok

theorem Inv.nil : Inv [] := ⟨fun _ h => absurd h List.not_mem_nil, fun _ _ _ h => absurd h (Nat.not_lt_zero _), fun _ h => absurd h (Nat.not_lt_zero _), fun _ h => absurd h List.not_mem_nil⟩
theorem Inv.take {es : List En} (h : Inv es) (n : Nat) : Inv (es.take n) := by
  refine ⟨fun x hx => h.ok x (List.mem_of_mem_take hx), ?_, ?_, fun x hx => h.word x (List.mem_of_mem_take hx)⟩
  · intro i j hij hj
    rw [List.length_take] at hj
    simp only [List.getElem_take]
    exact h.seq i j hij (by omega)
  · intro i hi
    rw [List.length_take] at hi
    simp only [List.getElem_take]
    exact h.back i (by omega)
theorem Inv.snoc {es : List En} {x : En} (h : Inv es) (h1 : entryE x = 0) (h2 : lastSeq es ≤ x.seq) (hw : x.ok)
    (h3 : x.ref ≠ -1 → ∃ k, ∃ hk : k < es.length, x.ref = k ∧ es[k].ref = -1 ∧ mirE es[k] x = true ∧ ∀ j (hj : j < es.length), es[j].ref ≠ x.ref) : Inv (es ++ [x]) := by
  have hl : ∀ i (hi : i < es.length), es[i].seq ≤ lastSeq es := by
    intro i hi
    have h0 : es ≠ [] := fun e => by subst e; simp at hi
    unfold lastSeq
    rw [List.getLast?_eq_some_getLast h0]
    simp only [List.getLast_eq_getElem]
    exact h.seq i _ (by omega) (by omega)
  refine ⟨?_, ?_, ?_, ?_⟩
  · intro y hy
    rcases List.mem_append.1 hy with hy | hy
    · exact h.ok y hy
    · simp only [List.mem_singleton] at hy; subst hy; exact h1
  · intro i j hij hj
    rw [List.length_append, List.length_singleton] at hj
    by_cases hj' : j < es.length
    · rw [List.getElem_append_left (by omega), List.getElem_append_left (by omega)]; exact h.seq i j hij hj'
    · have : j = es.length := by omega
      subst this
      by_cases hi : i < es.length
      · rw [List.getElem_append_left hi]
        simp only [List.getElem_concat_length]
        exact Int.le_trans (hl i hi) h2
      · have : i = es.length := by omega
        subst this
        exact Int.le_refl _
  · intro i hi
    rw [List.length_append, List.length_singleton] at hi
    by_cases hi' : i < es.length
    · rw [List.getElem_append_left hi']
      intro hr
      obtain ⟨k, hk, e1, e2, e3, e4⟩ := h.back i hi' hr
      refine ⟨k, hk, e1, ?_, ?_, ?_⟩
      · rw [List.getElem_append_left (by omega)]; exact e2
      · rw [List.getElem_append_left (by omega)]; exact e3
      · intro j hj
        rw [List.getElem_append_left (by omega)]; exact e4 j hj
    · have : i = es.length := by omega
      subst this
      simp only [List.getElem_concat_length]
      intro hr
      obtain ⟨k, hk, e1, e2, e3, e4⟩ := h3 hr
      refine ⟨k, hk, e1, ?_, ?_, ?_⟩
      · rw [List.getElem_append_left hk]; exact e2
      · rw [List.getElem_append_left hk]; exact e3
      · intro j hj
        rw [List.getElem_append_left hj]; exact e4 j hj
  · intro y hy
    rcases List.mem_append.1 hy with hy | hy
    · exact h.word y hy
    · simp only [List.mem_singleton] at hy; subst hy; exact hw
theorem chkE_ok {es : List En} {x : En} (h : chkE es x = 0) : entryE x = 0 ∧ (x.ref ≠ -1 → ∃ k, ∃ hk : k < es.length, x.ref = k ∧ es[k].ref = -1 ∧ mirE es[k] x = true ∧ ∀ j (hj : j < es.length), es[j].ref ≠ x.ref) := by
  unfold chkE at h
  by_cases h0 : entryE x = 0
  · refine ⟨h0, fun hr => ?_⟩
    rw [if_neg (by simpa using h0), if_neg hr] at h
    have hra := (entryE_ok.1 h0).1
    unfold rangesB at hra
    simp only [Bool.and_eq_true, decide_eq_true_eq] at hra
    have hr0 : 0 ≤ x.ref := by omega
    split at h
    · simp at h
    · rename_i old ho
      obtain ⟨hk, rfl⟩ := List.getElem?_eq_some_iff.1 ho
      split at h
      · simp at h
      · rename_i ha
        split at h
        · simp at h
        · rename_i hb
          split at h
          · simp at h
          · rename_i hm
            refine ⟨x.ref.toNat, hk, by omega, by simpa using hb, by simpa using hm, ?_⟩
            intro j hj e
            exact ha (List.any_eq_true.2 ⟨es[j], List.getElem_mem hj, by simpa using e⟩)
  · rw [if_pos h0] at h
    exact absurd h h0
theorem entryE_at {period seq : Int} (h1 : 0 ≤ period) (h2 : 0 ≤ seq) {x : En} (h : entryE x = 0) : entryE (atE period seq x) = 0 := by
  rw [entryE_ok] at h ⊢
  obtain ⟨e1, e2⟩ := h
  refine ⟨?_, e2⟩
  unfold rangesB atE at *
  simp only [Bool.and_eq_true, decide_eq_true_eq] at e1 ⊢
  exact ⟨⟨⟨e1.1.1.1, h2⟩, h1⟩, e1.2⟩
theorem lastSeq_snoc (es : List En) (x : En) : lastSeq (es ++ [x]) = x.seq := by unfold lastSeq; simp
theorem postL_inv {period seq : Int} (h1 : 0 ≤ period) (h2 : 0 ≤ seq) (i1 : I64 period) (i2 : I64 seq) : ∀ (r es : List En), Inv es → lastSeq es ≤ seq → (∀ x ∈ r, x.ok) → Inv (postL period seq es r).2
  | [], es, h, _, _ => h
  | x :: r, es, h, hl, hw => by
    unfold postL
    split
    · exact h
    · rename_i hc
      obtain ⟨c1, c2⟩ := chkE_ok (by simpa using hc)
      have hx : x.ok := hw x (by simp)
      refine postL_inv h1 h2 i1 i2 r _ (h.snoc (entryE_at h1 h2 c1) hl ?_ c2) (by rw [lastSeq_snoc]; exact Int.le_refl _) (fun y hy => hw y (by simp [hy]))
      unfold En.ok atE at *
      simp only at *
      exact ⟨hx.1, hx.2.1, hx.2.2.1, i2, i1, hx.2.2.2.2.2⟩

/-! Rows, gone through entry by entry. -/
def hd : List Rw → Rw
  | [] => ⟨0, 0, 0, 0, 0, 0, 0, 0, 0⟩
  | x :: _ => x
def Rw.head (x : Rw) : Rw := { x with pty := 0, amt := 0 }
def addG (gs : List (List Rw)) (r : Rw) : List (List Rw) :=
  match gs.getLast? with
  | none => [[r]]
  | some g => if (hd g).no = r.no then gs.dropLast ++ [g ++ [r]] else gs ++ [[r]]
def groups (l : List Rw) : List (List Rw) := l.foldl addG []
def mirR (a b : List Rw) : Bool := decide (a.length = b.length) && (a.zip b).all (fun p => decide (p.1.con = p.2.con ∧ p.1.day = p.2.day ∧ p.1.cur = p.2.cur ∧ p.1.pty = p.2.pty ∧ p.1.amt = ng p.2.amt))
def ownG (gs : List (List Rw)) (i : Nat) : Int :=
  if (hd (gs.getD i [])).no ≠ i ∨ (gs.getD i []).any (fun r => decide (r.head ≠ (hd (gs.getD i [])).head)) then 13
  else if 0 < i ∧ (hd (gs.getD i [])).seq < (hd (gs.getD (i - 1) [])).seq then 24
  else if sumI ((gs.getD i []).map (·.amt)) ≠ 0 then 20 else 0
def backG (gs : List (List Rw)) (i : Nat) : Int :=
  if (hd (gs.getD i [])).ref = -1 then 0
  else if (hd (gs.getD i [])).ref < 0 ∨ (i : Int) ≤ (hd (gs.getD i [])).ref then 16
  else if (gs.take i).any (fun g => decide ((hd g).ref = (hd (gs.getD i [])).ref)) then 17
  else if (hd (gs.getD (hd (gs.getD i [])).ref.toNat [])).ref ≠ -1 then 24
  else if mirR (gs.getD (hd (gs.getD i [])).ref.toNat []) (gs.getD i []) = false then 20 else 0
def ruleG (gs : List (List Rw)) (i : Nat) : Int := if ownG gs i ≠ 0 then ownG gs i else backG gs i
def checkFrom (gs : List (List Rw)) : Nat → Nat → Int
  | 0, _ => 0
  | n + 1, i => if ruleG gs i ≠ 0 then ruleG gs i else checkFrom gs n (i + 1)
def checkG (gs : List (List Rw)) : Int := checkFrom gs gs.length 0
theorem checkFrom_zero {gs : List (List Rw)} : ∀ (n i : Nat), (∀ j, i ≤ j → j < i + n → ruleG gs j = 0) → checkFrom gs n i = 0
  | 0, _, _ => rfl
  | n + 1, i, h => by
    unfold checkFrom
    rw [if_neg (by simpa using h i (Nat.le_refl _) (by omega))]
    exact checkFrom_zero n (i + 1) (fun j h1 h2 => h j (by omega) (by omega))
theorem checkG_zero {gs : List (List Rw)} (h : ∀ j, j < gs.length → ruleG gs j = 0) : checkG gs = 0 := checkFrom_zero _ _ (fun j _ hj => h j (by omega))
theorem checkFrom_first {gs : List (List Rw)} : ∀ (n i k : Nat), i ≤ k → k < i + n → (∀ j, i ≤ j → j < k → ruleG gs j = 0) → ruleG gs k ≠ 0 → checkFrom gs n i = ruleG gs k
  | 0, _, _, h1, h2, _, _ => by omega
  | n + 1, i, k, h1, h2, h, hk => by
    unfold checkFrom
    by_cases e : i = k
    · subst e; rw [if_pos hk]
    · rw [if_neg (by simpa using h i (Nat.le_refl _) (by omega))]
      exact checkFrom_first n (i + 1) k (by omega) (by omega) (fun j h1 h2 => h j (by omega) h2) hk
theorem checkG_first {gs : List (List Rw)} {k : Nat} (hk : k < gs.length) (h : ∀ j, j < k → ruleG gs j = 0) (hr : ruleG gs k ≠ 0) : checkG gs = ruleG gs k := checkFrom_first _ 0 k (by omega) (by omega) (fun j _ hj => h j hj) hr
theorem checkFrom_all {gs : List (List Rw)} : ∀ (n i : Nat), checkFrom gs n i = 0 → ∀ j, i ≤ j → j < i + n → ruleG gs j = 0
  | 0, _, _, _, h1, h2 => by omega
  | n + 1, i, h, j, h1, h2 => by
    unfold checkFrom at h
    by_cases e : ruleG gs i = 0
    · rw [if_neg (by simpa using e)] at h
      by_cases hj : i = j
      · subst hj; exact e
      · exact checkFrom_all n (i + 1) h j (by omega) (by omega)
    · rw [if_pos e] at h; exact absurd h e
theorem checkG_all {gs : List (List Rw)} (h : checkG gs = 0) : ∀ j, j < gs.length → ruleG gs j = 0 := fun j hj => checkFrom_all _ _ h j (by omega) (by omega)
theorem ruleG_zero {gs : List (List Rw)} {i : Nat} (h : ruleG gs i = 0) : ownG gs i = 0 ∧ backG gs i = 0 := by
  unfold ruleG at h
  by_cases e : ownG gs i = 0
  · exact ⟨e, by rwa [if_neg (by simpa using e)] at h⟩
  · rw [if_pos e] at h; exact absurd h e
theorem ownG_sum {gs : List (List Rw)} {i : Nat} (h : ownG gs i = 0) : sumI ((gs.getD i []).map (·.amt)) = 0 := by
  unfold ownG at h
  split at h
  · simp at h
  · split at h
    · simp at h
    · split at h
      · simp at h
      · rename_i hh; exact Decidable.of_not_not hh

/-! How rows are put together. -/
theorem getD_at {α : Type} {l : List α} {i : Nat} {d : α} (h : i < l.length) : l.getD i d = l[i] := by rw [List.getD_eq_getElem?_getD, List.getElem?_eq_getElem h]; rfl
theorem addG_snoc (gs : List (List Rw)) (c : List Rw) (r : Rw) (h : (hd c).no = r.no) : addG (gs ++ [c]) r = gs ++ [c ++ [r]] := by
  unfold addG; simp [h]
theorem hd_app {c : List Rw} (hc : c ≠ []) (t : List Rw) : hd (c ++ t) = hd c := by
  cases c with
  | nil => exact absurd rfl hc
  | cons x r => rfl
theorem addG_more (gs : List (List Rw)) (n : Int) : ∀ (t c : List Rw), c ≠ [] → (hd c).no = n → (∀ r ∈ t, r.no = n) → t.foldl addG (gs ++ [c]) = gs ++ [c ++ t]
  | [], c, _, _, _ => by simp
  | r :: t, c, hc, hn, h => by
    rw [List.foldl_cons, addG_snoc gs c r (by rw [hn, h r (by simp)])]
    rw [addG_more gs n t (c ++ [r]) (by simp) (by rw [hd_app hc]; exact hn) (fun x hx => h x (by simp [hx]))]
    simp
theorem addG_block (gs : List (List Rw)) (n : Int) (b : List Rw) (hb : b ≠ []) (h : ∀ r ∈ b, r.no = n) (hg : ∀ g, gs.getLast? = some g → (hd g).no ≠ n) : b.foldl addG gs = gs ++ [b] := by
  cases b with
  | nil => exact absurd rfl hb
  | cons r t =>
    rw [List.foldl_cons]
    have e : addG gs r = gs ++ [[r]] := by
      unfold addG
      cases hl : gs.getLast? with
      | none => have := List.getLast?_eq_none_iff.1 hl; subst this; rfl
      | some g =>
        simp only
        rw [if_neg (by rw [h r (by simp)]; exact hg g hl)]
    rw [e, addG_more gs n t [r] (by simp) (h r (by simp)) (fun x hx => h x (by simp [hx]))]
    simp
theorem groups_app (a b : List Rw) : groups (a ++ b) = b.foldl addG (groups a) := by unfold groups; rw [List.foldl_append]
theorem hd_mem {b : List Rw} (h : b ≠ []) : hd b ∈ b := by cases b with | nil => exact absurd rfl h | cons x r => simp [hd]
/-- Rows of entries with rising numbers come apart into them. -/
theorem groups_blocks (k : Nat) : ∀ (n : Nat) (bs : List (List Rw)), bs.length = n → (∀ i (h : i < bs.length), bs[i] ≠ [] ∧ ∀ r ∈ bs[i], r.no = ((k + i : Nat) : Int)) → groups bs.flatten = bs
  | 0, bs, hn, _ => by have := List.eq_nil_of_length_eq_zero hn; subst this; rfl
  | n + 1, bs, hn, h => by
    obtain ⟨cs, b, rfl⟩ : ∃ (cs : List (List Rw)) (b : List Rw), bs = cs ++ [b] := ⟨bs.dropLast, bs.getLast (fun e => by subst e; simp at hn), (List.dropLast_concat_getLast _).symm⟩
    have hl : cs.length = n := by simpa using hn
    rw [List.flatten_append, groups_app]
    have ih := groups_blocks k n cs hl (fun i hi => by
      have := h i (by simp; omega)
      rwa [List.getElem_append_left hi] at this)
    rw [ih]
    have hb := h cs.length (by simp)
    simp only [List.getElem_concat_length] at hb
    have e : [b].flatten = b := by simp
    rw [e]
    refine addG_block cs ((k + cs.length : Nat) : Int) b hb.1 hb.2 ?_
    intro g hg
    have h0 : cs ≠ [] := fun e => by subst e; simp at hg
    have hg' : cs[cs.length - 1]'(by have := List.length_pos_iff.2 h0; omega) = g := by
      rw [List.getLast?_eq_some_getLast h0, List.getLast_eq_getElem] at hg
      exact Option.some.inj hg
    have hp := List.length_pos_iff.2 h0
    have := h (cs.length - 1) (by simp; omega)
    rw [List.getElem_append_left (by omega), hg'] at this
    rw [this.2 _ (hd_mem this.1)]
    omega
theorem groups_sum : ∀ (l : List Rw), sumI ((groups l).flatten.map (·.amt)) = sumI (l.map (·.amt)) ∧ (groups l).flatten = l := by
  intro l
  have : ∀ (l : List Rw) (gs : List (List Rw)), (l.foldl addG gs).flatten = gs.flatten ++ l := by
    intro l
    induction l with
    | nil => intro gs; simp
    | cons r t ih =>
      intro gs
      rw [List.foldl_cons, ih]
      have : (addG gs r).flatten = gs.flatten ++ [r] := by
        unfold addG
        cases hl : gs.getLast? with
        | none => have := List.getLast?_eq_none_iff.1 hl; subst this; rfl
        | some g =>
          simp only
          split
          · have h0 : gs ≠ [] := fun e => by subst e; simp at hl
            have hg : gs = gs.dropLast ++ [g] := by
              have := List.dropLast_concat_getLast h0
              rw [List.getLast?_eq_some_getLast h0] at hl
              rw [Option.some.inj hl] at this
              exact this.symm
            conv => rhs; rw [hg]
            simp
          · simp
      rw [this]; simp
  have h := this l []
  simp only [List.flatten_nil, List.nil_append] at h
  unfold groups
  rw [h]
  exact ⟨rfl, rfl⟩
theorem sumI_append (a b : List Int) : sumI (a ++ b) = sumI a + sumI b := by unfold sumI; simp
theorem sumI_flatten : ∀ (gs : List (List Rw)), (∀ g ∈ gs, sumI (g.map (·.amt)) = 0) → sumI (gs.flatten.map (·.amt)) = 0
  | [], _ => rfl
  | g :: r, h => by
    rw [List.flatten_cons, List.map_append, sumI_append, h g (by simp), sumI_flatten r (fun x hx => h x (by simp [hx]))]; rfl
/-- Rows that are right come to nought. -/
theorem check_sum {l : List Rw} (h : checkG (groups l) = 0) : sumI (l.map (·.amt)) = 0 := by
  rw [← (groups_sum l).1]
  refine sumI_flatten _ (fun g hg => ?_)
  obtain ⟨i, hi, rfl⟩ := List.getElem_of_mem hg
  have := ownG_sum (ruleG_zero (checkG_all h i hi)).1
  rwa [getD_at hi] at this

/-! Books' rows. -/
def blocksE (es : List En) : List (List Rw) := es.zipIdx.map (fun p => rowsE p.2 p.1)
theorem rowsL_flat (es : List En) : rowsL es = (blocksE es).flatten := by unfold rowsL blocksE; rw [List.flatMap_def]
theorem blocksE_len (es : List En) : (blocksE es).length = es.length := by unfold blocksE; simp
theorem blocksE_at (es : List En) (i : Nat) (h : i < (blocksE es).length) : (blocksE es)[i] = rowsE i (es[i]'(by rwa [blocksE_len] at h)) := by
  have h2 : i < es.length := by rwa [blocksE_len] at h
  have : (blocksE es)[i]? = some (rowsE i es[i]) := by
    unfold blocksE
    rw [List.getElem?_map, List.getElem?_zipIdx, List.getElem?_eq_getElem h2]
    simp
  rw [List.getElem?_eq_getElem h] at this
  exact Option.some.inj this
theorem amts_rowsE (no : Nat) (x : En) : (rowsE no x).map (·.amt) = x.ls.map (·.a) := by unfold rowsE; rw [List.map_map]; rfl
theorem rowsE_no {no : Nat} {x : En} {r : Rw} (h : r ∈ rowsE no x) : r.no = no := by
  unfold rowsE at h
  obtain ⟨y, _, rfl⟩ := List.mem_map.1 h
  rfl
theorem rowsE_ne {no : Nat} {x : En} (h : 2 ≤ x.ls.length) : rowsE no x ≠ [] := by
  intro e
  have := congrArg List.length e
  unfold rowsE at this
  simp at this
  rw [this] at h
  simp at h
theorem hd_rowsE {no : Nat} {x : En} (h : 2 ≤ x.ls.length) : ∃ y, hd (rowsE no x) = ⟨no, x.seq, x.per, x.con, x.day, x.ref, y.p, y.c, y.a⟩ ∧ y ∈ x.ls := by
  have := hd_mem (rowsE_ne (no := no) h)
  unfold rowsE at this ⊢
  obtain ⟨y, hy, e⟩ := List.mem_map.1 this
  exact ⟨y, e.symm, hy⟩
theorem two_of_ok {x : En} (h : entryE x = 0) : 2 ≤ x.ls.length := by
  have := (entryE_ok.1 h).2.1
  unfold linesB at this
  simp only [Bool.and_eq_true, decide_eq_true_eq] at this
  exact this.1.1
theorem groups_rows {es : List En} (h : ∀ x ∈ es, entryE x = 0) : groups (rowsL es) = blocksE es := by
  rw [rowsL_flat]
  refine groups_blocks 0 _ _ rfl (fun i hi => ?_)
  rw [blocksE_at]
  exact ⟨rowsE_ne (two_of_ok (h _ (List.getElem_mem _))), fun r hr => by rw [rowsE_no hr]; simp⟩
theorem cur_of_ok {x : En} (h : entryE x = 0) : ∀ y ∈ x.ls, y.c = x.cur := by
  intro y hy
  have := (entryE_ok.1 h).2.1
  unfold linesB at this
  simp only [Bool.and_eq_true, Bool.not_eq_true', List.any_eq_false, decide_eq_true_eq] at this
  exact Decidable.of_not_not (this.2 y hy)
theorem own_ok {es : List En} (h : Inv es) {i : Nat} (hi : i < es.length) : ownG (blocksE es) i = 0 := by
  have hx := h.ok _ (List.getElem_mem hi)
  have hd2 := two_of_ok hx
  have eI : (blocksE es).getD i [] = rowsE i es[i] := by rw [getD_at (by rw [blocksE_len]; exact hi), blocksE_at]
  obtain ⟨y, e1, hy⟩ := hd_rowsE (no := i) hd2
  unfold ownG
  rw [eI, e1, if_neg, if_neg, if_neg]
  · have := (entryE_ok.1 hx).2.2.2.2
    unfold evenB at this
    rw [amts_rowsE]
    exact fun h => h (of_decide_eq_true this)
  · rintro ⟨h0, h1⟩
    have eJ : (blocksE es).getD (i - 1) [] = rowsE (i - 1) (es[i - 1]'(by omega)) := by rw [getD_at (by rw [blocksE_len]; omega), blocksE_at]
    obtain ⟨z, e2, hz⟩ := hd_rowsE (no := i - 1) (two_of_ok (h.ok _ (List.getElem_mem (l := es) (n := i - 1) (by omega))))
    rw [eJ, e2] at h1
    have := h.seq (i - 1) i (by omega) hi
    simp only at h1
    omega
  · rintro (h0 | h0)
    · exact h0 rfl
    · rw [List.any_eq_true] at h0
      obtain ⟨r, hr, h1⟩ := h0
      unfold rowsE at hr
      obtain ⟨u, hu, rfl⟩ := List.mem_map.1 hr
      refine of_decide_eq_true h1 ?_
      unfold Rw.head
      simp only [cur_of_ok hx u hu, cur_of_ok hx y hy]
theorem amt_of_ok {x : En} (h : entryE x = 0) (hw : x.ok) : ∀ y ∈ x.ls, ng y.a = -y.a ∧ ng (-y.a) = y.a := by
  intro y hy
  have := (entryE_ok.1 h).2.2.2.1
  unfold amtB at this
  simp only [Bool.not_eq_true', List.any_eq_false, decide_eq_true_eq] at this
  have h1 := this y hy
  have h2 := (hw.2.2.2.2.2.2.1 y hy).2.2
  refine ⟨ng_of h2 h1, ?_⟩
  unfold I64 at h2
  rw [ng_of (by unfold I64; omega) (by omega), Int.neg_neg]
theorem mir_rows {i k : Nat} {a b : En} (ha : entryE a = 0) (hw : a.ok) (h : mirE a b = true) : mirR (rowsE k a) (rowsE i b) = true := by
  unfold mirE at h
  simp only [Bool.and_eq_true, decide_eq_true_eq] at h
  obtain ⟨⟨h1, h2, h3⟩, h4⟩ := h
  unfold mirR
  rw [Bool.and_eq_true]
  refine ⟨by simp [rowsE, ← h4, turnL], ?_⟩
  rw [List.all_eq_true]
  intro p hp
  obtain ⟨j, hj, rfl⟩ := List.getElem_of_mem hp
  rw [List.getElem_zip]
  have hj1 : j < a.ls.length := by simp [rowsE] at hj; omega
  have hm := amt_of_ok ha hw _ (List.getElem_mem hj1)
  simp only [rowsE, ← h4, turnL, List.getElem_map, decide_eq_true_eq]
  exact ⟨h1, h2, trivial, trivial, by rw [hm.1, hm.2]⟩
theorem back_ok {es : List En} (h : Inv es) {i : Nat} (hi : i < es.length) : backG (blocksE es) i = 0 := by
  have hx := h.ok _ (List.getElem_mem hi)
  have at_ : ∀ j (hj : j < es.length), (blocksE es).getD j [] = rowsE j es[j] := fun j hj => by rw [getD_at (by rw [blocksE_len]; exact hj), blocksE_at]
  obtain ⟨y, e1, hy⟩ := hd_rowsE (no := i) (two_of_ok hx)
  unfold backG
  rw [at_ i hi, e1]
  simp only
  by_cases hr : es[i].ref = -1
  · rw [if_pos hr]
  · rw [if_neg hr]
    obtain ⟨k, hk, f1, f2, f3, f4⟩ := h.back i hi hr
    have hkx := h.ok _ (List.getElem_mem (l := es) (n := k) (by omega))
    have et : es[i].ref.toNat = k := by omega
    obtain ⟨z, e2, hz⟩ := hd_rowsE (no := k) (two_of_ok hkx)
    rw [if_neg (by omega), et, at_ k (by omega), e2, if_neg, if_neg (by simpa using f2), if_neg]
    · rw [mir_rows hkx (h.word _ (List.getElem_mem _)) f3]; simp
    · intro ha
      rw [List.any_eq_true] at ha
      obtain ⟨g, hg, h1⟩ := ha
      obtain ⟨j, hj, rfl⟩ := List.getElem_of_mem hg
      rw [List.length_take, blocksE_len] at hj
      rw [List.getElem_take, blocksE_at] at h1
      obtain ⟨u, e3, hu⟩ := hd_rowsE (no := j) (two_of_ok (h.ok _ (List.getElem_mem (l := es) (n := j) (by omega))))
      rw [e3] at h1
      exact f4 j (by omega) (of_decide_eq_true h1)
/-- Books' rows are right. -/
theorem rows_right {es : List En} (h : Inv es) : checkG (groups (rowsL es)) = 0 := by
  rw [groups_rows h.ok]
  refine checkG_zero (fun j hj => ?_)
  rw [blocksE_len] at hj
  unfold ruleG
  rw [own_ok h hj, back_ok h hj]
  rfl
end Go.Proofs.YtckeaibamgkegaaDoor
