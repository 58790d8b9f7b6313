/- denote: what comes of a contract (plain) -/
import Derived.Test.YtkjabiabeemfhaaGreatDoorQ18
import Derived.Test.YtkjabiabeemfhaaGreatDoorQ19
import Derived.Test.YtkjabiabeemfhaaGreatDoorQ12
import Derived.Lib.Strings
set_option linter.all false
set_option linter.all false
section
/- flows and waits in order: one more is put in its place (plain) -/
namespace Go.Proofs.YtkjabiabeemfhaaGreatDoor
open Go.RowKit Go.Sort

/-! Put in place -/
section
variable {α : Type} {cf : α → α → Int}
theorem sort_same (hO : SWO (ltOf cf)) (hT : ∀ x y, (ltOf cf) x y = false → (ltOf cf) y x = false → x = y) {l m : List α} (h : l.Perm m) : sortL cf l = sortL cf m :=
  order_unique hT ((sortL_perm cf l).trans (h.trans (sortL_perm cf m).symm)) (sortL_sorted hO hT _) (sortL_sorted hO hT _)
/-! Each once -/
def StrictL (cf : α → α → Int) (l : List α) : Prop := l.Pairwise (fun x y => ltOf cf x y = true)
theorem strict_unique (hO : SWO (ltOf cf)) {l m : List α} (hl : StrictL cf l) (hm : StrictL cf m) (h : ∀ x, x ∈ l ↔ x ∈ m) : l = m := by
  have nd : ∀ {l : List α}, StrictL cf l → l.Nodup := fun h => List.Pairwise.imp (fun {a b} hab e => by subst e; rw [hO.irrefl] at hab; cases hab) h
  have hp : l.Perm m := (List.perm_ext_iff_of_nodup (nd hl) (nd hm)).2 h
  exact List.Perm.eq_of_pairwise (fun a b _ _ h1 h2 => by have := hO.trans a b a h1 h2; rw [hO.irrefl] at this; cases this) hl hm hp
/-- Of neighbours that are alike, one is kept. -/
def cmpL [DecidableEq α] : List α → List α
  | [] => []
  | [a] => [a]
  | a :: b :: r => if a = b then cmpL (b :: r) else a :: cmpL (b :: r)
theorem cmpL_mem [DecidableEq α] : ∀ (l : List α) (x : α), x ∈ cmpL l ↔ x ∈ l
  | [], _ => Iff.rfl
  | [_], _ => Iff.rfl
  | a :: b :: r, x => by
    have ih := cmpL_mem (b :: r) x
    unfold cmpL
    split
    · rename_i h; subst h; rw [ih]; simp
    · rw [List.mem_cons, ih, List.mem_cons (a := x) (b := a)]
theorem cmpL_strict [DecidableEq α] (hO : SWO (ltOf cf)) (hT : ∀ x y, (ltOf cf) x y = false → (ltOf cf) y x = false → x = y) : ∀ {l : List α}, l.Pairwise (fun x y => ltOf cf y x = false) → StrictL cf (cmpL l)
  | [], _ => List.Pairwise.nil
  | [_], _ => List.pairwise_singleton _ _
  | a :: b :: r, h => by
    obtain ⟨h1, h2⟩ := List.pairwise_cons.1 h
    have ih := cmpL_strict hO hT h2
    unfold cmpL
    split
    · exact ih
    · rename_i hne
      refine List.pairwise_cons.2 ⟨fun y hy => ?_, ih⟩
      rw [cmpL_mem] at hy
      have hya := h1 y hy
      cases e : ltOf cf a y with
      | true => rfl
      | false =>
        have hay := hT _ _ e hya
        subst hay
        have hba := h1 b List.mem_cons_self
        rcases List.mem_cons.1 hy with rfl | hy
        · exact absurd rfl hne
        · have hab := (List.pairwise_cons.1 h2).1 a hy
          exact absurd (hT _ _ hab hba) hne
end
section
variable {α : Type} [DecidableEq α]
theorem cmpL_snoc : ∀ (l : List α) (y x : α), cmpL (l ++ [y] ++ [x]) = if y = x then cmpL (l ++ [y]) else cmpL (l ++ [y]) ++ [x]
  | [], y, x => by
    show cmpL [y, x] = _
    unfold cmpL
    split
    · rename_i h; subst h; rfl
    · rfl
  | [a], y, x => by
    show cmpL (a :: y :: [x]) = if y = x then cmpL (a :: y :: []) else cmpL (a :: y :: []) ++ [x]
    have ih := cmpL_snoc [] y x
    have e : ∀ m : List α, cmpL (a :: y :: m) = if a = y then cmpL (y :: m) else a :: cmpL (y :: m) := fun m => rfl
    rw [e, e]
    have ih' : cmpL (y :: [x]) = if y = x then cmpL [y] else cmpL [y] ++ [x] := ih
    rw [ih']
    by_cases h1 : y = x <;> by_cases h2 : a = y <;> simp [h1, h2]
  | a :: b :: r, y, x => by
    have ih := cmpL_snoc (b :: r) y x
    have e : ∀ m : List α, cmpL (a :: b :: r ++ m) = if a = b then cmpL (b :: r ++ m) else a :: cmpL (b :: r ++ m) := fun m => rfl
    rw [List.append_assoc, e, e]
    rw [List.append_assoc] at ih
    rw [ih]
    by_cases h1 : y = x <;> by_cases h2 : a = b <;> simp [h1, h2]
theorem cmpL_take {l : List α} {i : Nat} (h1 : 1 ≤ i) (h : i < l.length) : cmpL (l.take (i + 1)) = if l[i - 1]'(by omega) = l[i] then cmpL (l.take i) else cmpL (l.take i) ++ [l[i]] := by
  obtain ⟨j, rfl⟩ : ∃ j, i = j + 1 := ⟨i - 1, by omega⟩
  have e1 : l.take (j + 1 + 1) = l.take j ++ [l[j]] ++ [l[j + 1]] := by
    rw [List.take_succ_eq_append_getElem h, List.take_succ_eq_append_getElem (by omega : j < l.length)]
  have e2 : l.take (j + 1) = l.take j ++ [l[j]] := List.take_succ_eq_append_getElem (by omega)
  rw [e1, e2, cmpL_snoc]
  rfl
end
/-- What is waited for, in order, each once. -/
def waitL (l : List Wt) : List Wt := cmpL (sortL ordW l)
theorem waitL_strict (l : List Wt) : StrictL ordW (waitL l) := cmpL_strict swoW totW (sortL_sorted swoW totW l)
theorem waitL_mem (l : List Wt) (x : Wt) : x ∈ waitL l ↔ x ∈ l := by unfold waitL; rw [cmpL_mem]; exact (sortL_perm ordW l).mem_iff
theorem waitL_of {l m : List Wt} (hm : StrictL ordW m) (h : ∀ x, x ∈ m ↔ x ∈ l) : m = waitL l := strict_unique swoW hm (waitL_strict l) (fun x => by rw [h, waitL_mem])
theorem waitL_same {l m : List Wt} (h : ∀ x, x ∈ l ↔ x ∈ m) : waitL l = waitL m := waitL_of (waitL_strict l) (fun x => by rw [waitL_mem, h])
end Go.Proofs.YtkjabiabeemfhaaGreatDoor
end
section
/- denote: flows up to a day, less than nought, and by more facts (plain) -/
namespace Go.Proofs.YtkjabiabeemfhaaGreatDoor
open Go.RowKit Go.Sort

theorem hd_ind {p : Hd → Prop} (h : ∀ x : Hd, (∀ y : Hd, y.T.size < x.T.size → p y) → p x) (x : Hd) : p x := by
  have key : ∀ n (x : Hd), x.T.size ≤ n → p x := by
    intro n
    induction n with
    | zero => intro x hx; have := x.T.size_pos; omega
    | succ n ih => exact fun x hx => h x (fun y hy => ih y (by omega))
  exact key _ x (Nat.le_refl _)
theorem mem_lt {env : Env} {tod : Int} {h g : Hd} (hg : g ∈ (oneH env tod h).2.1) : g.T.size < h.T.size := Nat.lt_of_le_of_lt (mem_le hg) (one_lt env tod h)
theorem combL_fst {l : List Rs} : (combL l).1 = 0 ↔ ∀ r ∈ l, r.1 = 0 := by
  induction l with
  | nil => simp [combL]
  | cons a l ih => rw [combL_cons, comb_fst, ih]; simp
theorem combL_ok {l : List Rs} (h : ∀ r ∈ l, r.1 = 0) : combL l = (0, l.flatMap (·.2.1), l.flatMap (·.2.2)) := by
  induction l with
  | nil => rfl
  | cons a l ih => rw [combL_cons, comb_ok (h a (by simp)) (combL_fst.2 (fun r hr => h r (by simp [hr]))), ih (fun r hr => h r (by simp [hr]))]; simp
theorem den_fst {env : Env} {tod : Int} {h : Hd} : (den env tod h).1 = 0 ↔ (oneH env tod h).1 = 0 ∧ ∀ g ∈ (oneH env tod h).2.1, (den env tod g).1 = 0 := by
  rw [den_eq]
  by_cases h1 : (oneH env tod h).1 = 0
  · simp only [h1, ne_eq, not_true_eq_false, if_false, true_and]
    rw [comb_fst, combL_fst]
    simp
  · simp [h1]
theorem den_ok {env : Env} {tod : Int} {h : Hd} (h0 : (den env tod h).1 = 0) :
    den env tod h = (0, (oneH env tod h).2.2.1 ++ (oneH env tod h).2.1.flatMap (fun g => (den env tod g).2.1), (oneH env tod h).2.2.2 ++ (oneH env tod h).2.1.flatMap (fun g => (den env tod g).2.2)) := by
  obtain ⟨h1, h2⟩ := den_fst.1 h0
  rw [den_eq]
  simp only [h1, ne_eq, not_true_eq_false, if_false]
  have h3 : ∀ r ∈ (oneH env tod h).2.1.map (den env tod), r.1 = 0 := by
    intro r hr
    obtain ⟨g, hg, rfl⟩ := List.mem_map.1 hr
    exact h2 g hg
  rw [comb_ok rfl (combL_fst.2 h3), combL_ok h3]
  simp [List.flatMap_map]
theorem den_late {env : Env} {tod : Int} {h : Hd} (hd : tod < h.day) : den env tod h = (0, [], []) := by
  have : oneH env tod h = (0, [], [], []) := by unfold oneH; rw [if_pos hd]
  rw [den_eq, this]
  simp [comb, combL]
/-- Where a term's flows are. -/
theorem kid_days {env : Env} {tod : Int} {h g : Hd} (hg : g ∈ (oneH env tod h).2.1) : h.day ≤ g.day := by
  have hk : ∀ {l : List Tm} {k i : Nat} {day n d : Int}, g ∈ kidH l k i day n d → g.day = day := by
    intro l k i day n d hg
    unfold kidH at hg
    split at hg
    · rw [List.mem_singleton.1 hg]
    · cases hg
  unfold oneH at hg
  split at hg
  · cases hg
  unfold stepT at hg
  split at hg
  · cases hg
  split at hg
  · have := hk hg; omega
  split at hg
  · rcases List.mem_append.1 hg with hg | hg
    · have := hk hg; omega
    · have := hk hg; omega
  split at hg
  · unfold scaleT at hg
    split at hg
    · cases hg
    split at hg
    · cases hg
    split at hg
    · cases hg
    · have := hk hg; omega
  split at hg
  · simp only at hg
    split at hg
    · have := hk hg; omega
    · cases hg
  split at hg
  · unfold condT at hg
    split at hg
    · cases hg
    split at hg
    · cases hg
    split at hg
    · have := hk hg; omega
    · cases hg
  split at hg
  · split at hg
    · have := hk hg; omega
    · cases hg
  split at hg
  · split at hg
    · rename_i q hq
      obtain ⟨_, _, q1, _⟩ := firstD_range hq
      have := hk hg; omega
    · cases hg
  cases hg
theorem one_flows {env : Env} {tod : Int} {h : Hd} {x : Fl} (hx : x ∈ (oneH env tod h).2.2.1) : x.day = h.day ∧ h.day ≤ tod ∧ x.amt ≠ 0 := by
  unfold oneH at hx
  split at hx
  · cases hx
  rename_i h0
  unfold stepT at hx
  split at hx
  · simp only at hx
    split at hx
    · cases hx
    · rename_i h1
      rw [List.mem_singleton.1 hx]
      exact ⟨rfl, by omega, h1⟩
  split at hx
  · cases hx
  split at hx
  · cases hx
  split at hx
  · unfold scaleT at hx
    repeat' split at hx
    all_goals cases hx
  split at hx
  · cases hx
  split at hx
  · unfold condT at hx
    repeat' split at hx
    all_goals cases hx
  split at hx
  · split at hx <;> cases hx
  split at hx
  · split at hx <;> cases hx
  cases hx
theorem den_err {env : Env} {tod : Int} {h : Hd} (h0 : (den env tod h).1 ≠ 0) : (den env tod h).2 = ([], []) := by
  rw [den_eq] at h0 ⊢
  by_cases h1 : (oneH env tod h).1 = 0
  · simp only [h1, ne_eq, not_true_eq_false, if_false] at h0 ⊢
    unfold comb at h0 ⊢
    simp only [ne_eq, not_true_eq_false, if_false] at h0 ⊢
    split
    · rfl
    · rename_i h2; rw [if_neg h2] at h0; exact absurd rfl h0
  · simp only [h1, ne_eq, not_false_eq_true, if_true]
theorem den_days (env : Env) (tod : Int) : ∀ h : Hd, ∀ x ∈ (den env tod h).2.1, h.day ≤ x.day ∧ x.day ≤ tod ∧ x.amt ≠ 0 := by
  refine hd_ind (fun h ih x hx => ?_)
  by_cases h0 : (den env tod h).1 = 0
  · rw [den_ok h0] at hx
    rcases List.mem_append.1 hx with hx | hx
    · obtain ⟨h1, h2, h3⟩ := one_flows hx
      exact ⟨by omega, by omega, h3⟩
    · obtain ⟨g, hg, hx⟩ := List.mem_flatMap.1 hx
      have h1 := ih g (mem_lt hg) x hx
      have := kid_days hg
      exact ⟨by omega, h1.2.1, h1.2.2⟩
  · rw [den_err h0] at hx
    cases hx
/-- Up to an earlier day. -/
theorem firstD_less {cho : Int → Int → Option Int} {key a b b' : Int} (hb : b' ≤ b) : (∃ q, firstD cho key a b' = some q ∧ firstD cho key a b = some q) ∨ (firstD cho key a b' = none ∧ (firstD cho key a b = none ∨ ∃ q, firstD cho key a b = some q ∧ b' < q)) := by
  unfold firstD
  cases hf : (List.range 73049).find? (fun i : Nat => decide (a ≤ (i : Int) ∧ (i : Int) ≤ b' ∧ cho key i = some 1)) with
  | some i =>
    have h1 := List.find?_some hf
    simp only [decide_eq_true_eq] at h1
    refine .inl ⟨i, rfl, ?_⟩
    cases hg : (List.range 73049).find? (fun i : Nat => decide (a ≤ (i : Int) ∧ (i : Int) ≤ b ∧ cho key i = some 1)) with
    | none =>
      have := List.find?_eq_none.1 hg i (List.mem_of_find?_eq_some hf)
      simp only [decide_eq_true_eq] at this
      exact absurd ⟨h1.1, by omega, h1.2.2⟩ this
    | some j =>
      have h2 := List.find?_some hg
      simp only [decide_eq_true_eq] at h2
      have hji : j = i ∨ j < i := find_sorted' List.pairwise_lt_range hg i (List.mem_of_find?_eq_some hf) (by simp only [decide_eq_true_eq]; exact ⟨h1.1, by omega, h1.2.2⟩) |>.imp Eq.symm id
      have hij : i = j ∨ i < j := by
        rcases hji with e | e
        · exact .inl e.symm
        · exact find_sorted' List.pairwise_lt_range hf j (List.mem_of_find?_eq_some hg) (by simp only [decide_eq_true_eq]; exact ⟨h2.1, by omega, h2.2.2⟩) |>.imp Eq.symm id
      have : i = j := by omega
      rw [this]; rfl
  | none =>
    refine .inr ⟨rfl, ?_⟩
    cases hg : (List.range 73049).find? (fun i : Nat => decide (a ≤ (i : Int) ∧ (i : Int) ≤ b ∧ cho key i = some 1)) with
    | none => exact .inl rfl
    | some j =>
      have h2 := List.find?_some hg
      simp only [decide_eq_true_eq] at h2
      refine .inr ⟨j, rfl, ?_⟩
      have := List.find?_eq_none.1 hf j (List.mem_of_find?_eq_some hg)
      simp only [decide_eq_true_eq] at this
      apply Classical.byContradiction
      intro hc
      exact this ⟨h2.1, by omega, h2.2.2⟩
theorem filter_late {l : List Fl} {d : Int} (h : ∀ x ∈ l, d < x.day) : l.filter (fun x => decide (x.day ≤ d)) = [] := by
  rw [List.filter_eq_nil_iff]
  intro x hx
  have := h x hx
  simp; omega
theorem filter_flat {γ : Type} (p : Fl → Bool) (f : γ → List Fl) (l : List γ) : (l.flatMap f).filter p = l.flatMap (fun x => (f x).filter p) := by
  induction l with
  | nil => rfl
  | cons a l ih => simp [List.flatMap_cons, List.filter_append, ih]
theorem den_upto (env : Env) {tod d : Int} (hd : d ≤ tod) : ∀ h : Hd, (den env tod h).1 = 0 → (den env d h).1 = 0 ∧ (den env d h).2.1 = (den env tod h).2.1.filter (fun x => decide (x.day ≤ d)) := by
  refine hd_ind (fun h ih h0 => ?_)
  by_cases hl : d < h.day
  · rw [den_late hl]
    refine ⟨rfl, (filter_late fun x hx => ?_).symm⟩
    have := den_days env tod h x hx
    omega
  · have hl' : ¬ tod < h.day := by omega
    obtain ⟨h1, h2⟩ := den_fst.1 h0
    have hcase : oneH env d h = oneH env tod h ∨ ((oneH env d h) = (0, [], [], []) ∧ (oneH env tod h).2.2.1 = [] ∧ ∀ g ∈ (oneH env tod h).2.1, d < g.day) := by
      unfold oneH
      rw [if_neg hl, if_neg hl']
      unfold stepT
      by_cases h17 : h.T.root.op = 17
      · simp only [h17, (by decide : ¬ (17 : Int) = 10), (by decide : ¬ (17 : Int) = 11), (by decide : ¬ (17 : Int) = 12), (by decide : ¬ (17 : Int) = 13), (by decide : ¬ (17 : Int) = 14), (by decide : ¬ (17 : Int) = 15), (by decide : ¬ (17 : Int) = 16), if_false, if_true]
        rcases firstD_less (cho := env.cho) (key := h.T.root.a) (a := h.day) (b := min h.T.root.b tod) (b' := min h.T.root.b d) (by omega) with ⟨q, e1, e2⟩ | ⟨e1, e2 | ⟨q, e2, e3⟩⟩
        · rw [e1, e2]; exact .inl rfl
        · rw [e1, e2]; exact .inl rfl
        · rw [e1, e2]
          refine .inr ⟨rfl, rfl, fun g hg => ?_⟩
          have hq := firstD_range e2
          have hg' : g.day = q := by
            simp only at hg
            unfold kidH at hg
            split at hg
            · rw [List.mem_singleton.1 hg]
            · cases hg
          omega
      · simp only [h17, if_false, true_or]
    rcases hcase with hc | ⟨hc, hf, hg⟩
    · have hz : (den env d h).1 = 0 := den_fst.2 ⟨by rw [hc]; exact h1, fun g hg => by rw [hc] at hg; exact (ih g (mem_lt hg) (h2 g hg)).1⟩
      refine ⟨hz, ?_⟩
      rw [den_ok hz, den_ok h0, hc]
      simp only
      rw [List.filter_append, filter_flat]
      congr 1
      · rw [List.filter_eq_self.2]
        intro x hx
        have := one_flows hx
        simp; omega
      · rw [List.flatMap_def, List.flatMap_def]
        congr 1
        exact List.map_congr_left (fun g hg => (ih g (mem_lt hg) (h2 g hg)).2)
    · have hz : (den env d h).1 = 0 := den_fst.2 ⟨by rw [hc], fun g hg => by rw [hc] at hg; cases hg⟩
      refine ⟨hz, ?_⟩
      rw [den_ok hz, den_ok h0, hc]
      simp only [List.flatMap_nil, List.append_nil, hf, List.nil_append]
      refine (filter_late fun x hx => ?_).symm
      obtain ⟨g, hg', hx⟩ := List.mem_flatMap.1 hx
      have := den_days env tod g x hx
      have := hg g hg'
      omega
theorem sort_filter (l : List Fl) (p : Fl → Bool) : (sortL ordF l).filter p = sortL ordF (l.filter p) :=
  order_unique totF (((sortL_perm ordF l).filter p).trans (sortL_perm ordF _).symm) ((sortL_sorted swoF totF l).filter p) (sortL_sorted swoF totF _)
end Go.Proofs.YtkjabiabeemfhaaGreatDoor
end
section
/- contracts that may be: term.Check, the reference's Check -/
namespace Go.Proofs.YtkjabiabeemfhaaGreatDoor
open Go.RowKit
set_option maxRecDepth 100000

/-- What is wrong with a contract. -/
noncomputable def ctE (ts : List Nd) : Int := if ofE ts = 0 ∧ ofS ts ≠ 2 then 14 else ofE ts
set_option maxHeartbeats 800000 in
theorem tcheck_any (ts : List Nd) (hlen : ts.length ≤ 100000) (hok : ∀ x ∈ ts, x.ok) (v : Value) (w : World) (hS : Shapes w) (hN : IsNodes w v ts) :
    Calls Tryz.prog 80 #[v] w fun e w' => e = .returned (.int .i64 (ctE ts)) ∧ Later w w' := by
  have HT := Lib.hid (tterm_any ts hlen hok v w hS hN)
  obtain ⟨p, cp, rfl⟩ := hN.form
  obtain ⟨c, hc⟩ : ∃ c, ctE ts = c := ⟨_, rfl⟩
  rw [hc]
  unfold ctE at hc
  obtain ⟨s, hs⟩ : ∃ s, ofS ts = s := ⟨_, rfl⟩
  obtain ⟨f, hf⟩ : ∃ f, ofE ts = f := ⟨_, rfl⟩
  rw [hs, hf] at hc HT
  have HC := Lib.hid hc
  clear hN hS hc hs hf hok
  by_cases h0 : f = 0
  · subst h0
    by_cases h2 : s = 2
    · subst h2
      have hcc := Lib.hid (show (0 : Int) = c by rw [← HC.out]; simp)
      clear HC
      go_enter Tryz.func80, Tryz.ntmps80
      go_wp2_with (go_at_call 77; go_must (refine HT.out.mono ?_; rintro e w1 ⟨rfl, hb1⟩))
      go_ret
      exact ⟨ret_int hcc.out, by repeat (first | with_reducible exact Later.refl _ | with_reducible assumption | with_reducible refine Later.ofdrew ?_ | with_reducible refine Later.ofdrewN ?_ | with_reducible refine Later.setCell ?_ ?_ _ | with_reducible refine Later.alloc ?_ _ | with_reducible refine Later.drewN ?_ _ | with_reducible refine Later.drew ?_ | (with_reducible refine Later.trans ?_ (by assumption)) | (simp only [World.size_setCell, World.size_alloc, World.heap_drewN]; omega) | (simp; done) | (simp; omega))⟩
    · have hcc := Lib.hid (show (14 : Int) = c by rw [← HC.out]; simp [h2])
      clear HC
      have hb : (s != 2) = true := by rw [bne_iff_ne]; exact h2
      go_enter Tryz.func80, Tryz.ntmps80
      go_wp2_with (go_at_call 77; go_must (refine HT.out.mono ?_; rintro e w1 ⟨rfl, hb1⟩))
      go_ret
      exact ⟨ret_int hcc.out, by repeat (first | with_reducible exact Later.refl _ | with_reducible assumption | with_reducible refine Later.ofdrew ?_ | with_reducible refine Later.ofdrewN ?_ | with_reducible refine Later.setCell ?_ ?_ _ | with_reducible refine Later.alloc ?_ _ | with_reducible refine Later.drewN ?_ _ | with_reducible refine Later.drew ?_ | (with_reducible refine Later.trans ?_ (by assumption)) | (simp only [World.size_setCell, World.size_alloc, World.heap_drewN]; omega) | (simp; done) | (simp; omega))⟩
  · have hcc := Lib.hid (show f = c by rw [← HC.out, if_neg (fun h => h0 h.1)])
    clear HC
    have hb : (f == 0) = false := by rw [beq_eq_false_iff_ne]; exact h0
    go_enter Tryz.func80, Tryz.ntmps80
    go_wp2_with (go_at_call 77; go_must (refine HT.out.mono ?_; rintro e w1 ⟨rfl, hb1⟩))
    go_ret
    exact ⟨ret_int hcc.out, by repeat (first | with_reducible exact Later.refl _ | with_reducible assumption | with_reducible refine Later.ofdrew ?_ | with_reducible refine Later.ofdrewN ?_ | with_reducible refine Later.setCell ?_ ?_ _ | with_reducible refine Later.alloc ?_ _ | with_reducible refine Later.drewN ?_ _ | with_reducible refine Later.drew ?_ | (with_reducible refine Later.trans ?_ (by assumption)) | (simp only [World.size_setCell, World.size_alloc, World.heap_drewN]; omega) | (simp; done) | (simp; omega))⟩
end Go.Proofs.YtkjabiabeemfhaaGreatDoor
end
section
/- denote: what comes of a contract (plain) -/
namespace Go.Proofs.YtkjabiabeemfhaaGreatDoor
open Go.RowKit Go.Sort

theorem comb_code {a b : Rs} (ha : a.1 = 0 ∨ a.1 = 11) (hb : b.1 = 0 ∨ b.1 = 11) : (comb a b).1 = 0 ∨ (comb a b).1 = 11 := by
  unfold comb
  split
  · exact ha
  · split
    · exact hb
    · exact .inl rfl
section
variable {ts : List Nd} {T : Tm} {env : Env} {tod : Int}
theorem run_code (hG : Good ts T) (hok : ∀ x ∈ ts, x.ok) (hE : EnvOk env) : ∀ (n : Nat) (q : List Hd), (∀ h ∈ q, HdOk ts h) → (runQ env tod n q).1 = 0 ∨ (runQ env tod n q).1 = 11 := by
  intro n
  induction n with
  | zero => exact fun _ _ => .inl rfl
  | succ n ih =>
    intro q hq
    cases q with
    | nil => exact .inl rfl
    | cons h r =>
      have h1 := one_code (tod := tod) hG hok hE (hq h List.mem_cons_self)
      simp only [runQ]
      by_cases h0 : (oneH env tod h).1 = 0
      · simp only [h0, ne_eq, not_true_eq_false, if_false]
        refine comb_code (.inl rfl) (ih _ (fun g hg => ?_))
        rcases List.mem_append.1 hg with hg | hg
        · exact hq g (List.mem_cons_of_mem _ hg)
        · exact one_ok hG hok hE (hq h List.mem_cons_self) g hg
      · rw [if_pos h0]
        exact h1
theorem combL_code {l : List Rs} (h : ∀ r ∈ l, r.1 = 0 ∨ r.1 = 11) : (combL l).1 = 0 ∨ (combL l).1 = 11 := by
  induction l with
  | nil => exact .inl rfl
  | cons a l ih => rw [combL_cons]; exact comb_code (h a (by simp)) (ih (fun r hr => h r (by simp [hr])))
theorem den_code (hG : Good ts T) (hok : ∀ x ∈ ts, x.ok) (hE : EnvOk env) : ∀ h : Hd, HdOk ts h → (den env tod h).1 = 0 ∨ (den env tod h).1 = 11 := by
  refine hd_ind (fun h ih hh => ?_)
  rw [den_eq]
  have h1 := one_code (tod := tod) hG hok hE hh
  by_cases h0 : (oneH env tod h).1 = 0
  · simp only [h0, ne_eq, not_true_eq_false, if_false]
    refine comb_code (.inl rfl) (combL_code (fun r hr => ?_))
    obtain ⟨g, hg, rfl⟩ := List.mem_map.1 hr
    exact ih g (mem_lt hg) (one_ok hG hok hE hh g hg)
  · rw [if_pos h0]
    exact h1
theorem run_err : ∀ (n : Nat) (q : List Hd), (runQ env tod n q).1 ≠ 0 → (runQ env tod n q).2 = ([], []) := by
  intro n
  induction n with
  | zero => intro q h; exact absurd rfl h
  | succ n ih =>
    intro q h
    cases q with
    | nil => exact absurd rfl h
    | cons g r =>
      simp only [runQ] at h ⊢
      by_cases h1 : (oneH env tod g).1 = 0
      · simp only [h1, ne_eq, not_true_eq_false, if_false] at h ⊢
        unfold comb at h ⊢
        simp only [ne_eq, not_true_eq_false, if_false] at h ⊢
        split
        · rfl
        · rename_i h2; simp [h2] at h
      · simp only [h1, ne_eq, not_false_eq_true, if_true]
/-- The first one that is held. -/
theorem hd_first (hG : Good ts T) (hm : makesI T.root.op = 2) {day : Int} (h0 : 0 ≤ day) (h1 : day ≤ 73048) : HdOk ts ⟨T, 0, day, 1, 1⟩ :=
  ⟨hG.at.1, hG.sorted, hm, h0, h1, (⟨by decide, by decide, by decide, by decide, by decide⟩ : Valid 1 1)⟩
/-- In whatever order it is gone through, the same comes of it. -/
theorem runT_den (hG : Good ts T) (hok : ∀ x ∈ ts, x.ok) (hE : EnvOk env) (hm : makesI T.root.op = 2) {day : Int} (h0 : 0 ≤ day) (h1 : day ≤ 73048) :
    (runT env tod T day).1 = (den env tod ⟨T, 0, day, 1, 1⟩).1 ∧ sortL ordF (runT env tod T day).2.1 = sortL ordF (den env tod ⟨T, 0, day, 1, 1⟩).2.1 ∧ waitL (runT env tod T day).2.2 = waitL (den env tod ⟨T, 0, day, 1, 1⟩).2.2 := by
  have hh := hd_first hG hm h0 h1
  have hs : Sim (runT env tod T day) (den env tod ⟨T, 0, day, 1, 1⟩) := by
    refine (run_den env tod T.size [⟨T, 0, day, 1, 1⟩] (by simp [sizesH])).trans ?_
    show Sim (comb (den env tod ⟨T, 0, day, 1, 1⟩) (0, [], [])) _
    exact (comb_comm _ _).trans (comb_nil _)
  have c1 := run_code (tod := tod) hG hok hE T.size [⟨T, 0, day, 1, 1⟩] (fun h hm => by rw [List.mem_singleton.1 hm]; exact hh)
  have c2 := den_code (tod := tod) hG hok hE _ hh
  have e1 : (runT env tod T day).1 = (den env tod ⟨T, 0, day, 1, 1⟩).1 := by
    have := hs.1
    unfold runT at this ⊢
    rcases c1 with c1 | c1 <;> rcases c2 with c2 | c2
    · rw [c1, c2]
    · rw [c1, c2] at this; exact absurd (this.1 rfl) (by decide)
    · rw [c1, c2] at this; exact absurd (this.2 rfl) (by decide)
    · rw [c1, c2]
  refine ⟨e1, ?_⟩
  by_cases hz : (runT env tod T day).1 = 0
  · obtain ⟨p1, p2⟩ := hs.2 hz
    exact ⟨sort_same swoF totF p1, waitL_same (fun x => p2.mem_iff)⟩
  · have h2 := run_err (env := env) (tod := tod) T.size [⟨T, 0, day, 1, 1⟩] hz
    have h3 := den_err (env := env) (tod := tod) (h := ⟨T, 0, day, 1, 1⟩) (by rw [← e1]; exact hz)
    unfold runT
    rw [h2, h3]
    exact ⟨rfl, rfl⟩
end
/-- What comes of a contract: what is wrong, its flows, and what it waits for. -/
noncomputable def outT (env : Env) (ts : List Nd) (day tod : Int) : Rs :=
  if ctE ts ≠ 0 then (ctE ts, [], []) else if day < 0 ∨ 73048 < day ∨ tod < -1 ∨ 73048 < tod then (18, [], []) else
    match treeOf ts with
    | none => (0, [], [])
    | some T => den env tod ⟨T, 0, day, 1, 1⟩
theorem out_wrong {env : Env} {ts : List Nd} {day tod : Int} (h : ctE ts ≠ 0) : outT env ts day tod = (ctE ts, [], []) := by unfold outT; rw [if_pos h]
theorem out_day {env : Env} {ts : List Nd} {day tod : Int} (h : ctE ts = 0) (hd : day < 0 ∨ 73048 < day ∨ tod < -1 ∨ 73048 < tod) : outT env ts day tod = (18, [], []) := by unfold outT; rw [if_neg (by simpa using h), if_pos hd]
theorem out_den {env : Env} {ts : List Nd} {day tod : Int} {T : Tm} (h : ctE ts = 0) (hd : ¬ (day < 0 ∨ 73048 < day ∨ tod < -1 ∨ 73048 < tod)) (hT : treeOf ts = some T) : outT env ts day tod = den env tod ⟨T, 0, day, 1, 1⟩ := by unfold outT; rw [if_neg (by simpa using h), if_neg hd, hT]
theorem out_err {env : Env} {ts : List Nd} {day tod : Int} (h : (outT env ts day tod).1 ≠ 0) : (outT env ts day tod).2 = ([], []) := by
  unfold outT at h ⊢
  split
  · rfl
  · rename_i h1
    rw [if_neg h1] at h
    split
    · rfl
    · rename_i h2
      rw [if_neg h2] at h
      split
      · rfl
      · rename_i T hT
        rw [hT] at h
        exact den_err h
/-- A contract that may be. -/
theorem ct_good {ts : List Nd} (h : ctE ts = 0) : ∃ T, Good ts T ∧ makesI T.root.op = 2 := by
  have h1 : ofE ts = 0 := by
    unfold ctE at h
    split at h
    · cases h
    · exact h
  obtain ⟨T, hG⟩ := good_of h1
  refine ⟨T, hG, ?_⟩
  have h2 : ofS ts = 2 := by
    apply Classical.byContradiction
    intro hc
    unfold ctE at h
    rw [if_pos ⟨h1, hc⟩] at h
    cases h
  unfold ofS at h2
  rw [h1, hG.tree] at h2
  simpa using h2
theorem ct_of_good {ts : List Nd} {T : Tm} (hG : Good ts T) (hm : makesI T.root.op = 2) : ctE ts = 0 := by
  have h2 : ofS ts = 2 := by
    unfold ofS
    rw [hG.ofE, hG.tree]
    simpa using hm
  unfold ctE
  rw [if_neg (fun e => e.2 h2)]
  exact hG.ofE
end Go.Proofs.YtkjabiabeemfhaaGreatDoor
end
