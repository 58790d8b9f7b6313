/- step: what a run comes to (plain) -/
import Derived.Test.YtkjabiabeemfhaaGreatDoorZ16
import Derived.Test.YtkjabiabeemfhaaGreatDoorZ17
import Derived.Test.YtkjabiabeemfhaaGreatDoorZ10
import Derived.Lib.Strings
set_option linter.all false
set_option linter.all false
section
namespace Go.Proofs.YtkjabiabeemfhaaGreatDoor
open Go.RowKit Go.Sort
section
variable {α : Type} {cf : α → α → Int}
def insL (cf : α → α → Int) (l : List α) (x : α) : List α := l.takeWhile (fun y => !(ltOf cf) x y) ++ x :: l.dropWhile (fun y => !(ltOf cf) x y)
theorem insL_perm (l : List α) (x : α) : (insL cf l x).Perm (l ++ [x]) := by
 unfold insL
 refine List.perm_middle.trans ?_
 rw [List.takeWhile_append_dropWhile]
 exact (List.perm_append_singleton x l).symm
theorem drop_head {p : α → Bool} {l : List α} {y : α} {r : List α} (h : l.dropWhile p = y :: r) : p y = false := by
 induction l with
 | nil => cases h
 | cons a l ih =>
  rw [List.dropWhile_cons] at h
  split at h
  ·exact ih h
  ·rename_i h1
   cases h
   simpa using h1
theorem insL_sorted (hO : SWO (ltOf cf)) {l : List α} (h : l.Pairwise (fun x y => ltOf cf y x = false)) (x : α) : (insL cf l x).Pairwise (fun x y => ltOf cf y x = false) := by
 unfold insL
 have h0 := h
 rw [← List.takeWhile_append_dropWhile (p := fun y => !(ltOf cf) x y) (l := l)] at h0
 rw [List.pairwise_append] at h0 ⊢
 obtain ⟨h1, h2, h3⟩ := h0
 have h4 : ∀ a ∈ l.takeWhile (fun y => !(ltOf cf) x y), ltOf cf x a = false := fun a ha => by
  have := List.all_eq_true.1 (List.all_takeWhile (l := l) (p := fun y => !(ltOf cf) x y)) a ha
  simpa using this
 refine ⟨h1, List.pairwise_cons.2 ⟨fun b hb => ?_, h2⟩, fun a ha b hb => ?_⟩
 ·cases hd : l.dropWhile (fun y => !(ltOf cf) x y) with
  | nil => rw [hd] at hb; cases hb
  | cons y r =>
   have hy := drop_head hd
   have hy' : ltOf cf x y = true := by simpa using hy
   have hyx : ltOf cf y x = false := by
    cases e : ltOf cf y x with
    | false => rfl
    | true => have := hO.trans y x y e hy'; rw [hO.irrefl] at this; cases this
   rw [hd] at hb h2
   rcases List.mem_cons.1 hb with rfl | hb
   ·exact hyx
   ·exact hO.ntrans b y x ((List.pairwise_cons.1 h2).1 b hb) hyx
 ·rcases List.mem_cons.1 hb with rfl | hb
  ·exact h4 a ha
  ·exact h3 a ha b hb
theorem sort_put (hO : SWO (ltOf cf)) (hT : ∀ x y, (ltOf cf) x y = false → (ltOf cf) y x = false → x = y) (l : List α) (x : α) : insL cf (sortL cf l) x = sortL cf (l ++ [x]) := by
 refine order_unique hT ?_ (insL_sorted hO (sortL_sorted hO hT l) x) (sortL_sorted hO hT _)
 exact (insL_perm _ _).trans (((sortL_perm cf l).append_right [x]).trans (sortL_perm cf _).symm)
theorem sort_same (hO : SWO (ltOf cf)) (hT : ∀ x y, (ltOf cf) x y = false → (ltOf cf) y x = false → x = y) {l m : List α} (h : l.Perm m) : sortL cf l = sortL cf m :=
 order_unique hT ((sortL_perm cf l).trans (h.trans (sortL_perm cf m).symm)) (sortL_sorted hO hT _) (sortL_sorted hO hT _)
def StrictL (cf : α → α → Int) (l : List α) : Prop := l.Pairwise (fun x y => ltOf cf x y = true)
theorem strict_unique (hO : SWO (ltOf cf)) {l m : List α} (hl : StrictL cf l) (hm : StrictL cf m) (h : ∀ x, x ∈ l ↔ x ∈ m) : l = m := by
 have nd : ∀ {l : List α}, StrictL cf l → l.Nodup := fun h => List.Pairwise.imp (fun {a b} hab e => by subst e; rw [hO.irrefl] at hab; cases hab) h
 have hp : l.Perm m := (List.perm_ext_iff_of_nodup (nd hl) (nd hm)).2 h
 exact List.Perm.eq_of_pairwise (fun a b _ _ h1 h2 => by have := hO.trans a b a h1 h2; rw [hO.irrefl] at this; cases this) hl hm hp
def cmpL [DecidableEq α] : List α → List α
 | [] => []
 | [a] => [a]
 | a :: b :: r => if a = b then cmpL (b :: r) else a :: cmpL (b :: r)
theorem cmpL_mem [DecidableEq α] : ∀ (l : List α) (x : α), x ∈ cmpL l ↔ x ∈ l
 | [], _ => Iff.rfl
 | [_], _ => Iff.rfl
 | a :: b :: r, x => by
  have ih := cmpL_mem (b :: r) x
  unfold cmpL
  split
  ·rename_i h; subst h; rw [ih]; simp
  ·rw [List.mem_cons, ih, List.mem_cons (a := x) (b := a)]
theorem cmpL_strict [DecidableEq α] (hO : SWO (ltOf cf)) (hT : ∀ x y, (ltOf cf) x y = false → (ltOf cf) y x = false → x = y) : ∀ {l : List α}, l.Pairwise (fun x y => ltOf cf y x = false) → StrictL cf (cmpL l)
 | [], _ => List.Pairwise.nil
 | [_], _ => List.pairwise_singleton _ _
 | a :: b :: r, h => by
  obtain ⟨h1, h2⟩ := List.pairwise_cons.1 h
  have ih := cmpL_strict hO hT h2
  unfold cmpL
  split
  ·exact ih
  ·rename_i hne
   refine List.pairwise_cons.2 ⟨fun y hy => ?_, ih⟩
   rw [cmpL_mem] at hy
   have hya := h1 y hy
   cases e : ltOf cf a y with
   | true => rfl
   | false =>
    have hay := hT _ _ e hya
    subst hay
    have hba := h1 b List.mem_cons_self
    rcases List.mem_cons.1 hy with rfl | hy
    ·exact absurd rfl hne
    ·have hab := (List.pairwise_cons.1 h2).1 a hy
     exact absurd (hT _ _ hab hba) hne
end
section
variable {α : Type} [DecidableEq α]
theorem cmpL_snoc : ∀ (l : List α) (y x : α), cmpL (l ++ [y] ++ [x]) = if y = x then cmpL (l ++ [y]) else cmpL (l ++ [y]) ++ [x]
 | [], y, x => by
  show cmpL [y, x] = _
  unfold cmpL
  split
  ·rename_i h; subst h; rfl
  ·rfl
 | [a], y, x => by
  show cmpL (a :: y :: [x]) = if y = x then cmpL (a :: y :: []) else cmpL (a :: y :: []) ++ [x]
  have ih := cmpL_snoc [] y x
  have e : ∀ m : List α, cmpL (a :: y :: m) = if a = y then cmpL (y :: m) else a :: cmpL (y :: m) := fun m => rfl
  rw [e, e]
  have ih' : cmpL (y :: [x]) = if y = x then cmpL [y] else cmpL [y] ++ [x] := ih
  rw [ih']
  by_cases h1 : y = x <;> by_cases h2 : a = y <;> simp [h1, h2]
 | a :: b :: r, y, x => by
  have ih := cmpL_snoc (b :: r) y x
  have e : ∀ m : List α, cmpL (a :: b :: r ++ m) = if a = b then cmpL (b :: r ++ m) else a :: cmpL (b :: r ++ m) := fun m => rfl
  rw [List.append_assoc, e, e]
  rw [List.append_assoc] at ih
  rw [ih]
  by_cases h1 : y = x <;> by_cases h2 : a = b <;> simp [h1, h2]
theorem cmpL_take {l : List α} {i : Nat} (h1 : 1 ≤ i) (h : i < l.length) : cmpL (l.take (i + 1)) = if l[i - 1]'(by omega) = l[i] then cmpL (l.take i) else cmpL (l.take i) ++ [l[i]] := by
 obtain ⟨j, rfl⟩ : ∃ j, i = j + 1 := ⟨i - 1, by omega⟩
 have e1 : l.take (j + 1 + 1) = l.take j ++ [l[j]] ++ [l[j + 1]] := by
  rw [List.take_succ_eq_append_getElem h, List.take_succ_eq_append_getElem (by omega : j < l.length)]
 have e2 : l.take (j + 1) = l.take j ++ [l[j]] := List.take_succ_eq_append_getElem (by omega)
 rw [e1, e2, cmpL_snoc]
 rfl
theorem cmpL_le : ∀ l : List α, (cmpL l).length ≤ l.length
 | [] => Nat.le_refl _
 | [_] => Nat.le_refl _
 | a :: b :: r => by
  have := cmpL_le (b :: r)
  unfold cmpL
  split
  ·simp only [List.length_cons] at this ⊢; omega
  ·simp only [List.length_cons] at this ⊢; omega
end
def waitL (l : List Wt) : List Wt := cmpL (sortL ordW l)
theorem waitL_strict (l : List Wt) : StrictL ordW (waitL l) := cmpL_strict swoW totW (sortL_sorted swoW totW l)
theorem waitL_mem (l : List Wt) (x : Wt) : x ∈ waitL l ↔ x ∈ l := by unfold waitL; rw [cmpL_mem]; exact (sortL_perm ordW l).mem_iff
theorem waitL_of {l m : List Wt} (hm : StrictL ordW m) (h : ∀ x, x ∈ m ↔ x ∈ l) : m = waitL l := strict_unique swoW hm (waitL_strict l) (fun x => by rw [h, waitL_mem])
theorem waitL_same {l m : List Wt} (h : ∀ x, x ∈ l ↔ x ∈ m) : waitL l = waitL m := waitL_of (waitL_strict l) (fun x => by rw [waitL_mem, h])
end Go.Proofs.YtkjabiabeemfhaaGreatDoor
end
section
namespace Go.Proofs.YtkjabiabeemfhaaGreatDoor
open Go.RowKit Go.Sort
theorem hd_ind {p : Hd → Prop} (h : ∀ x : Hd, (∀ y : Hd, y.T.size < x.T.size → p y) → p x) (x : Hd) : p x := by
 have key : ∀ n (x : Hd), x.T.size ≤ n → p x := by
  intro n
  induction n with
  | zero => intro x hx; have := x.T.size_pos; omega
  | succ n ih => exact fun x hx => h x (fun y hy => ih y (by omega))
 exact key _ x (Nat.le_refl _)
theorem mem_lt {env : Env} {tod : Int} {h g : Hd} (hg : g ∈ (oneH env tod h).2.1) : g.T.size < h.T.size := Nat.lt_of_le_of_lt (mem_le hg) (one_lt env tod h)
theorem combL_fst {l : List Rs} : (combL l).1 = 0 ↔ ∀ r ∈ l, r.1 = 0 := by
 induction l with
 | nil => simp [combL]
 | cons a l ih => rw [combL_cons, comb_fst, ih]; simp
theorem combL_ok {l : List Rs} (h : ∀ r ∈ l, r.1 = 0) : combL l = (0, l.flatMap (·.2.1), l.flatMap (·.2.2)) := by
 induction l with
 | nil => rfl
 | cons a l ih => rw [combL_cons, comb_ok (h a (by simp)) (combL_fst.2 (fun r hr => h r (by simp [hr]))), ih (fun r hr => h r (by simp [hr]))]; simp
theorem den_fst {env : Env} {tod : Int} {h : Hd} : (den env tod h).1 = 0 ↔ (oneH env tod h).1 = 0 ∧ ∀ g ∈ (oneH env tod h).2.1, (den env tod g).1 = 0 := by
 rw [den_eq]
 by_cases h1 : (oneH env tod h).1 = 0
 ·simp only [h1, ne_eq, not_true_eq_false, if_false, true_and]
  rw [comb_fst, combL_fst]
  simp
 ·simp [h1]
theorem den_ok {env : Env} {tod : Int} {h : Hd} (h0 : (den env tod h).1 = 0) :
  den env tod h = (0, (oneH env tod h).2.2.1 ++ (oneH env tod h).2.1.flatMap (fun g => (den env tod g).2.1), (oneH env tod h).2.2.2 ++ (oneH env tod h).2.1.flatMap (fun g => (den env tod g).2.2)) := by
 obtain ⟨h1, h2⟩ := den_fst.1 h0
 rw [den_eq]
 simp only [h1, ne_eq, not_true_eq_false, if_false]
 have h3 : ∀ r ∈ (oneH env tod h).2.1.map (den env tod), r.1 = 0 := by
  intro r hr
  obtain ⟨g, hg, rfl⟩ := List.mem_map.1 hr
  exact h2 g hg
 rw [comb_ok rfl (combL_fst.2 h3), combL_ok h3]
 simp [List.flatMap_map]
theorem den_err {env : Env} {tod : Int} {h : Hd} (h0 : (den env tod h).1 ≠ 0) : (den env tod h).2 = ([], []) := by
 rw [den_eq] at h0 ⊢
 by_cases h1 : (oneH env tod h).1 = 0
 ·simp only [h1, ne_eq, not_true_eq_false, if_false] at h0 ⊢
  unfold comb at h0 ⊢
  simp only [ne_eq, not_true_eq_false, if_false] at h0 ⊢
  split
  ·rfl
  ·rename_i h2; rw [if_neg h2] at h0; exact absurd rfl h0
 ·simp only [h1, ne_eq, not_false_eq_true, if_true]
theorem firstD_less {cho : Int → Int → Option Int} {key a b b' : Int} (hb : b' ≤ b) : (∃ q, firstD cho key a b' = some q ∧ firstD cho key a b = some q) ∨ (firstD cho key a b' = none ∧ (firstD cho key a b = none ∨ ∃ q, firstD cho key a b = some q ∧ b' < q)) := by
 unfold firstD
 cases hf : (List.range 73049).find? (fun i : Nat => decide (a ≤ (i : Int) ∧ (i : Int) ≤ b' ∧ cho key i = some 1)) with
 | some i =>
  have h1 := List.find?_some hf
  simp only [decide_eq_true_eq] at h1
  refine .inl ⟨i, rfl, ?_⟩
  cases hg : (List.range 73049).find? (fun i : Nat => decide (a ≤ (i : Int) ∧ (i : Int) ≤ b ∧ cho key i = some 1)) with
  | none =>
   have := List.find?_eq_none.1 hg i (List.mem_of_find?_eq_some hf)
   simp only [decide_eq_true_eq] at this
   exact absurd ⟨h1.1, by omega, h1.2.2⟩ this
  | some j =>
   have h2 := List.find?_some hg
   simp only [decide_eq_true_eq] at h2
   have hji : j = i ∨ j < i := find_sorted' List.pairwise_lt_range hg i (List.mem_of_find?_eq_some hf) (by simp only [decide_eq_true_eq]; exact ⟨h1.1, by omega, h1.2.2⟩) |>.imp Eq.symm id
   have hij : i = j ∨ i < j := by
    rcases hji with e | e
    ·exact .inl e.symm
    ·exact find_sorted' List.pairwise_lt_range hf j (List.mem_of_find?_eq_some hg) (by simp only [decide_eq_true_eq]; exact ⟨h2.1, by omega, h2.2.2⟩) |>.imp Eq.symm id
   have : i = j := by omega
   rw [this]; rfl
 | none =>
  refine .inr ⟨rfl, ?_⟩
  cases hg : (List.range 73049).find? (fun i : Nat => decide (a ≤ (i : Int) ∧ (i : Int) ≤ b ∧ cho key i = some 1)) with
  | none => exact .inl rfl
  | some j =>
   have h2 := List.find?_some hg
   simp only [decide_eq_true_eq] at h2
   refine .inr ⟨j, rfl, ?_⟩
   have := List.find?_eq_none.1 hf j (List.mem_of_find?_eq_some hg)
   simp only [decide_eq_true_eq] at this
   apply Classical.byContradiction
   intro hc
   exact this ⟨h2.1, by omega, h2.2.2⟩
end Go.Proofs.YtkjabiabeemfhaaGreatDoor
end
section
namespace Go.Proofs.YtkjabiabeemfhaaGreatDoor
open Go.RowKit
set_option maxRecDepth 100000
noncomputable def ctE (ts : List Nd) : Int := if ofE ts = 0 ∧ ofS ts ≠ 2 then 14 else ofE ts
set_option maxHeartbeats 800000 in
theorem tcheck_any (ts : List Nd) (hlen : ts.length ≤ 100000) (hok : ∀ x ∈ ts, x.ok) (v : Value) (w : World) (hS : Shapes w) (hN : IsNodes w v ts) :
  Calls Tryz.prog 80 #[v] w fun e w' => e = .returned (.int .i64 (ctE ts)) ∧ Later w w' := by
 have HT := Lib.hid (tterm_any ts hlen hok v w hS hN)
 obtain ⟨p, cp, rfl⟩ := hN.form
 obtain ⟨c, hc⟩ : ∃ c, ctE ts = c := ⟨_, rfl⟩
 rw [hc]
 unfold ctE at hc
 obtain ⟨s, hs⟩ : ∃ s, ofS ts = s := ⟨_, rfl⟩
 obtain ⟨f, hf⟩ : ∃ f, ofE ts = f := ⟨_, rfl⟩
 rw [hs, hf] at hc HT
 have HC := Lib.hid hc
 clear hN hS hc hs hf hok
 by_cases h0 : f = 0
 ·subst h0
  by_cases h2 : s = 2
  ·subst h2
   have hcc := Lib.hid (show (0 : Int) = c by rw [← HC.out]; simp)
   clear HC
   go_enter Tryz.func80, Tryz.ntmps80
   go_wp2_with (go_at_call 77; go_must (refine HT.out.mono ?_; rintro e w1 ⟨rfl, hb1⟩))
   go_ret
   exact ⟨ret_int hcc.out, by repeat (first | with_reducible (first | exact zq1 _ | assumption | refine zq2 ?_ | refine zq4 ?_ ?_ _ | refine zq5 ?_ _ | refine zq6 ?_ _ | refine zq7 ?_ | refine zq8 ?_ (by assumption)) | (simp only [zq10]; omega) | (simp; done) | (simp; omega))⟩
  ·have hcc := Lib.hid (show (14 : Int) = c by rw [← HC.out]; simp [h2])
   clear HC
   have hb : (s != 2) = true := by rw [bne_iff_ne]; exact h2
   go_enter Tryz.func80, Tryz.ntmps80
   go_wp2_with (go_at_call 77; go_must (refine HT.out.mono ?_; rintro e w1 ⟨rfl, hb1⟩))
   go_ret
   exact ⟨ret_int hcc.out, by repeat (first | with_reducible (first | exact zq1 _ | assumption | refine zq2 ?_ | refine zq4 ?_ ?_ _ | refine zq5 ?_ _ | refine zq6 ?_ _ | refine zq7 ?_ | refine zq8 ?_ (by assumption)) | (simp only [zq10]; omega) | (simp; done) | (simp; omega))⟩
 ·have hcc := Lib.hid (show f = c by rw [← HC.out, if_neg (fun h => h0 h.1)])
  clear HC
  have hb : (f == 0) = false := by rw [beq_eq_false_iff_ne]; exact h0
  go_enter Tryz.func80, Tryz.ntmps80
  go_wp2_with (go_at_call 77; go_must (refine HT.out.mono ?_; rintro e w1 ⟨rfl, hb1⟩))
  go_ret
  exact ⟨ret_int hcc.out, by repeat (first | with_reducible (first | exact zq1 _ | assumption | refine zq2 ?_ | refine zq4 ?_ ?_ _ | refine zq5 ?_ _ | refine zq6 ?_ _ | refine zq7 ?_ | refine zq8 ?_ (by assumption)) | (simp only [zq10]; omega) | (simp; done) | (simp; omega))⟩
end Go.Proofs.YtkjabiabeemfhaaGreatDoor
end
section
namespace Go.Proofs.YtkjabiabeemfhaaGreatDoor
open Go.RowKit Go.Sort
theorem comb_code {a b : Rs} (ha : a.1 = 0 ∨ a.1 = 11) (hb : b.1 = 0 ∨ b.1 = 11) : (comb a b).1 = 0 ∨ (comb a b).1 = 11 := by
 unfold comb
 split
 ·exact ha
 ·split
  ·exact hb
  ·exact .inl rfl
section
variable {ts : List Nd} {T : Tm} {env : Env} {tod : Int}
theorem run_code (hG : Good ts T) (hok : ∀ x ∈ ts, x.ok) (hE : EnvOk env) : ∀ (n : Nat) (q : List Hd), (∀ h ∈ q, HdOk ts h) → (runQ env tod n q).1 = 0 ∨ (runQ env tod n q).1 = 11 := by
 intro n
 induction n with
 | zero => exact fun _ _ => .inl rfl
 | succ n ih =>
  intro q hq
  cases q with
  | nil => exact .inl rfl
  | cons h r =>
   have h1 := one_code (tod := tod) hG hok hE (hq h List.mem_cons_self)
   simp only [runQ]
   by_cases h0 : (oneH env tod h).1 = 0
   ·simp only [h0, ne_eq, not_true_eq_false, if_false]
    refine comb_code (.inl rfl) (ih _ (fun g hg => ?_))
    rcases List.mem_append.1 hg with hg | hg
    ·exact hq g (List.mem_cons_of_mem _ hg)
    ·exact one_ok hG hok hE (hq h List.mem_cons_self) g hg
   ·rw [if_pos h0]
    exact h1
theorem combL_code {l : List Rs} (h : ∀ r ∈ l, r.1 = 0 ∨ r.1 = 11) : (combL l).1 = 0 ∨ (combL l).1 = 11 := by
 induction l with
 | nil => exact .inl rfl
 | cons a l ih => rw [combL_cons]; exact comb_code (h a (by simp)) (ih (fun r hr => h r (by simp [hr])))
theorem den_code (hG : Good ts T) (hok : ∀ x ∈ ts, x.ok) (hE : EnvOk env) : ∀ h : Hd, HdOk ts h → (den env tod h).1 = 0 ∨ (den env tod h).1 = 11 := by
 refine hd_ind (fun h ih hh => ?_)
 rw [den_eq]
 have h1 := one_code (tod := tod) hG hok hE hh
 by_cases h0 : (oneH env tod h).1 = 0
 ·simp only [h0, ne_eq, not_true_eq_false, if_false]
  refine comb_code (.inl rfl) (combL_code (fun r hr => ?_))
  obtain ⟨g, hg, rfl⟩ := List.mem_map.1 hr
  exact ih g (mem_lt hg) (one_ok hG hok hE hh g hg)
 ·rw [if_pos h0]
  exact h1
theorem run_err : ∀ (n : Nat) (q : List Hd), (runQ env tod n q).1 ≠ 0 → (runQ env tod n q).2 = ([], []) := by
 intro n
 induction n with
 | zero => intro q h; exact absurd rfl h
 | succ n ih =>
  intro q h
  cases q with
  | nil => exact absurd rfl h
  | cons g r =>
   simp only [runQ] at h ⊢
   by_cases h1 : (oneH env tod g).1 = 0
   ·simp only [h1, ne_eq, not_true_eq_false, if_false] at h ⊢
    unfold comb at h ⊢
    simp only [ne_eq, not_true_eq_false, if_false] at h ⊢
    split
    ·rfl
    ·rename_i h2; simp [h2] at h
   ·simp only [h1, ne_eq, not_false_eq_true, if_true]
theorem hd_first (hG : Good ts T) (hm : makesI T.root.op = 2) {day : Int} (h0 : 0 ≤ day) (h1 : day ≤ 73048) : HdOk ts ⟨T, 0, day, 1, 1⟩ :=
 ⟨hG.at.1, hG.sorted, hm, h0, h1, (⟨by decide, by decide, by decide, by decide, by decide⟩ : Valid 1 1)⟩
theorem runT_den (hG : Good ts T) (hok : ∀ x ∈ ts, x.ok) (hE : EnvOk env) (hm : makesI T.root.op = 2) {day : Int} (h0 : 0 ≤ day) (h1 : day ≤ 73048) :
  (runT env tod T day).1 = (den env tod ⟨T, 0, day, 1, 1⟩).1 ∧ sortL ordF (runT env tod T day).2.1 = sortL ordF (den env tod ⟨T, 0, day, 1, 1⟩).2.1 ∧ waitL (runT env tod T day).2.2 = waitL (den env tod ⟨T, 0, day, 1, 1⟩).2.2 := by
 have hh := hd_first hG hm h0 h1
 have hs : Sim (runT env tod T day) (den env tod ⟨T, 0, day, 1, 1⟩) := by
  refine (run_den env tod T.size [⟨T, 0, day, 1, 1⟩] (by simp [sizesH])).trans ?_
  show Sim (comb (den env tod ⟨T, 0, day, 1, 1⟩) (0, [], [])) _
  exact (comb_comm _ _).trans (comb_nil _)
 have c1 := run_code (tod := tod) hG hok hE T.size [⟨T, 0, day, 1, 1⟩] (fun h hm => by rw [List.mem_singleton.1 hm]; exact hh)
 have c2 := den_code (tod := tod) hG hok hE _ hh
 have e1 : (runT env tod T day).1 = (den env tod ⟨T, 0, day, 1, 1⟩).1 := by
  have := hs.1
  unfold runT at this ⊢
  rcases c1 with c1 | c1 <;> rcases c2 with c2 | c2
  ·rw [c1, c2]
  ·rw [c1, c2] at this; exact absurd (this.1 rfl) (by decide)
  ·rw [c1, c2] at this; exact absurd (this.2 rfl) (by decide)
  ·rw [c1, c2]
 refine ⟨e1, ?_⟩
 by_cases hz : (runT env tod T day).1 = 0
 ·obtain ⟨p1, p2⟩ := hs.2 hz
  exact ⟨sort_same swoF totF p1, waitL_same (fun x => p2.mem_iff)⟩
 ·have h2 := run_err (env := env) (tod := tod) T.size [⟨T, 0, day, 1, 1⟩] hz
  have h3 := den_err (env := env) (tod := tod) (h := ⟨T, 0, day, 1, 1⟩) (by rw [← e1]; exact hz)
  unfold runT
  rw [h2, h3]
  exact ⟨rfl, rfl⟩
end
noncomputable def outT (env : Env) (ts : List Nd) (day tod : Int) : Rs :=
 if ctE ts ≠ 0 then (ctE ts, [], []) else if day < 0 ∨ 73048 < day ∨ tod < -1 ∨ 73048 < tod then (18, [], []) else
  match treeOf ts with
  | none => (0, [], [])
  | some T => den env tod ⟨T, 0, day, 1, 1⟩
theorem out_wrong {env : Env} {ts : List Nd} {day tod : Int} (h : ctE ts ≠ 0) : outT env ts day tod = (ctE ts, [], []) := by unfold outT; rw [if_pos h]
theorem out_day {env : Env} {ts : List Nd} {day tod : Int} (h : ctE ts = 0) (hd : day < 0 ∨ 73048 < day ∨ tod < -1 ∨ 73048 < tod) : outT env ts day tod = (18, [], []) := by unfold outT; rw [if_neg (by simpa using h), if_pos hd]
theorem out_den {env : Env} {ts : List Nd} {day tod : Int} {T : Tm} (h : ctE ts = 0) (hd : ¬ (day < 0 ∨ 73048 < day ∨ tod < -1 ∨ 73048 < tod)) (hT : treeOf ts = some T) : outT env ts day tod = den env tod ⟨T, 0, day, 1, 1⟩ := by unfold outT; rw [if_neg (by simpa using h), if_neg hd, hT]
theorem out_err {env : Env} {ts : List Nd} {day tod : Int} (h : (outT env ts day tod).1 ≠ 0) : (outT env ts day tod).2 = ([], []) := by
 unfold outT at h ⊢
 split
 ·rfl
 ·rename_i h1
  rw [if_neg h1] at h
  split
  ·rfl
  ·rename_i h2
   rw [if_neg h2] at h
   split
   ·rfl
   ·rename_i T hT
    rw [hT] at h
    exact den_err h
theorem ct_good {ts : List Nd} (h : ctE ts = 0) : ∃ T, Good ts T ∧ makesI T.root.op = 2 := by
 have h1 : ofE ts = 0 := by
  unfold ctE at h
  split at h
  ·cases h
  ·exact h
 obtain ⟨T, hG⟩ := good_of h1
 refine ⟨T, hG, ?_⟩
 have h2 : ofS ts = 2 := by
  apply Classical.byContradiction
  intro hc
  unfold ctE at h
  rw [if_pos ⟨h1, hc⟩] at h
  cases h
 unfold ofS at h2
 rw [h1, hG.tree] at h2
 simpa using h2
theorem ct_of_good {ts : List Nd} {T : Tm} (hG : Good ts T) (hm : makesI T.root.op = 2) : ctE ts = 0 := by
 have h2 : ofS ts = 2 := by
  unfold ofS
  rw [hG.ofE, hG.tree]
  simpa using hm
 unfold ctE
 rw [if_neg (fun e => e.2 h2)]
 exact hG.ofE
end Go.Proofs.YtkjabiabeemfhaaGreatDoor
end
section
namespace Go.Proofs.YtkjabiabeemfhaaGreatDoor
open Go.RowKit
set_option maxRecDepth 100000
noncomputable def flowsT (env : Env) (ts : List Nd) (day tod : Int) : List Fl := sortL ordF (outT env ts day tod).2.1
noncomputable def waitsT (env : Env) (ts : List Nd) (day tod : Int) : List Wt := waitL (outT env ts day tod).2.2
end Go.Proofs.YtkjabiabeemfhaaGreatDoor
end
section
namespace Go.Proofs.YtkjabiabeemfhaaGreatDoor
open Go.RowKit Go.Sort
def keptH (env : Env) (tod : Int) (h : Hd) : List Hd :=
 if tod < h.day then [h]
 else if h.T.root.op = 13 then (if (numT env h.day h.T.kids 0).1 = 0 ∧ (numT env h.day h.T.kids 0).2.isNone = true then [h] else [])
 else if h.T.root.op = 15 then (if (numT env h.day h.T.kids 0).1 = 0 ∧ (numT env h.day h.T.kids 1).1 = 0 ∧ ((numT env h.day h.T.kids 0).2.isNone || (numT env h.day h.T.kids 1).2.isNone) = true then [h] else [])
 else if h.T.root.op = 16 then (if (env.cho h.T.root.a h.day).isNone = true then [h] else [])
 else if h.T.root.op = 17 then (if (firstD env.cho h.T.root.a h.day (min h.T.root.b tod)).isNone = true ∧ h.day ≤ h.T.root.b then [h] else [])
 else []
theorem keptH_mem {env : Env} {tod : Int} {h g : Hd} (hg : g ∈ keptH env tod h) : g = h := by
 unfold keptH at hg
 repeat' split at hg
 all_goals first | exact List.mem_singleton.1 hg | cases hg
structure EnvLeD (ts : List Nd) (day : Int) (env env' : Env) : Prop where
 get : ∀ day k v, env.get day k = some v → env'.get day k = some v
 cho : ∀ k d p, env.cho k d = some p → env'.cho k d = some p
 any : ∀ x ∈ ts, x.op = 17 → ∀ d, d ≤ day → env'.cho x.a d = some 1 → env.cho x.a d = some 1
theorem EnvLeD.refl (ts : List Nd) (day : Int) (env : Env) : EnvLeD ts day env env := ⟨fun _ _ _ h => h, fun _ _ _ h => h, fun _ _ _ _ _ h => h⟩
theorem EnvLeD.trans {ts : List Nd} {day : Int} {e e' e'' : Env} (h : EnvLeD ts day e e') (k : EnvLeD ts day e' e'') : EnvLeD ts day e e'' :=
 ⟨fun a b c d => k.get a b c (h.get a b c d), fun a b c d => k.cho a b c (h.cho a b c d), fun x hx h17 d hd e => h.any x hx h17 d hd (k.any x hx h17 d hd e)⟩
theorem EnvLeD.less {ts : List Nd} {day day' : Int} {e e' : Env} (h : EnvLeD ts day' e e') (hd : day ≤ day') : EnvLeD ts day e e' := ⟨h.get, h.cho, fun x hx h17 d hd' e => h.any x hx h17 d (by omega) e⟩
theorem firstD_leD {cho cho' : Int → Int → Option Int} {key a b tod : Int} (h1 : ∀ d p, cho key d = some p → cho' key d = some p) (h2 : ∀ d, d ≤ tod → cho' key d = some 1 → cho key d = some 1) : firstD cho' key a (min b tod) = firstD cho key a (min b tod) := by
 unfold firstD
 congr 2
 funext i
 exact decide_eq_decide.2 ⟨fun ⟨x, y, z⟩ => ⟨x, y, h2 _ (by omega) z⟩, fun ⟨x, y, z⟩ => ⟨x, y, h1 _ _ z⟩⟩
theorem keptH_node (env : Env) (tod : Int) (x : Nd) (l : List Tm) (pl : Nat) (day n d : Int) : keptH env tod ⟨.node x l, pl, day, n, d⟩ =
  if tod < day then [⟨.node x l, pl, day, n, d⟩]
  else if x.op = 13 then (if (numT env day l 0).1 = 0 ∧ (numT env day l 0).2.isNone = true then [⟨.node x l, pl, day, n, d⟩] else [])
  else if x.op = 15 then (if (numT env day l 0).1 = 0 ∧ (numT env day l 1).1 = 0 ∧ ((numT env day l 0).2.isNone || (numT env day l 1).2.isNone) = true then [⟨.node x l, pl, day, n, d⟩] else [])
  else if x.op = 16 then (if (env.cho x.a day).isNone = true then [⟨.node x l, pl, day, n, d⟩] else [])
  else if x.op = 17 then (if (firstD env.cho x.a day (min x.b tod)).isNone = true ∧ day ≤ x.b then [⟨.node x l, pl, day, n, d⟩] else [])
  else [] := rfl
theorem oneH_node (env : Env) (tod : Int) (x : Nd) (l : List Tm) (pl : Nat) (day n d : Int) : oneH env tod ⟨.node x l, pl, day, n, d⟩ = if tod < day then (0, [], [], []) else stepT env tod x l pl day n d := rfl
theorem one_go {ts : List Nd} {T : Tm} {env env' : Env} {tod tod' : Int} (hG : Good ts T) (hok : ∀ x ∈ ts, x.ok) (hle : tod ≤ tod') (hL : EnvLeD ts tod env env') {h : Hd} (hh : HdOk ts h) (h0 : (oneH env tod h).1 = 0) :
  (keptH env tod h = [h] ∧ (oneH env tod h).2.1 = [] ∧ (oneH env tod h).2.2.1 = []) ∨ (keptH env tod h = [] ∧ oneH env' tod' h = oneH env tod h ∧ (oneH env tod h).2.2.2 = [] ∧ keptH env' tod' h = []) := by
 obtain ⟨⟨x, l⟩, pl, day, n, d⟩ := h
 obtain ⟨hT, hs, hm, hd0, hd1, hv⟩ := hh
 simp only at hT hs hm hd0 hd1 hv
 obtain ⟨r1, -, -, r4⟩ := hT.root
 by_cases hlt : tod < day
 ·refine .inl ⟨?_, ?_, ?_⟩
  ·rw [keptH_node, if_pos hlt]
  ·rw [oneH_node, if_pos hlt]
  ·rw [oneH_node, if_pos hlt]
 have hlt' : ¬ tod' < day := by omega
 rw [oneH_node, if_neg hlt] at h0
 rw [keptH_node, keptH_node, oneH_node, oneH_node, if_neg hlt, if_neg hlt', if_neg hlt, if_neg hlt']
 unfold stepT at h0 ⊢
 by_cases h10 : x.op = 10
 ·simp [h10]
 rw [if_neg h10] at h0
 rw [if_neg h10, if_neg h10]
 by_cases h11 : x.op = 11
 ·simp [h11]
 rw [if_neg h11] at h0
 rw [if_neg h11, if_neg h11]
 by_cases h12 : x.op = 12
 ·simp [h12]
 rw [if_neg h12] at h0
 rw [if_neg h12, if_neg h12]
 have hnum : ∀ {i : Nat} (hi : i < l.length), numT env day l i = valT (env.get day) l[i] ∧ numT env' day l i = valT (env'.get day) l[i] ∧ askI env day l i = asksT env day l[i] := fun hi => by
  unfold numT askI; rw [List.getElem?_eq_getElem hi]; exact ⟨rfl, rfl, rfl⟩
 by_cases h13 : x.op = 13
 ·rw [if_pos h13] at h0
  simp only [if_pos h13]
  have hl : l.length = 2 := by rw [r4, h13]; decide
  obtain ⟨e1, e2, e3⟩ := hnum (i := 0) (by omega)
  unfold scaleT at h0 ⊢
  rw [e1] at h0 ⊢
  rw [e2, e3]
  by_cases hz : (valT (env.get day) l[0]).1 = 0
  ·simp only [hz, ne_eq, not_true_eq_false, if_false] at h0 ⊢
   cases hv2 : (valT (env.get day) l[0]).2 with
   | none => exact .inl ⟨by simp, by simp, by simp⟩
   | some v =>
    have := (valT_mono (hL.get day) l[0]).2 hz v hv2
    rw [this]
    refine .inr ⟨by simp, by simp, ?_, by simp⟩
    simp only
    split <;> rfl
  ·simp [hz] at h0
 rw [if_neg h13] at h0
 simp only [if_neg h13]
 by_cases h14 : x.op = 14
 ·simp [h14]
 rw [if_neg h14] at h0
 rw [if_neg h14, if_neg h14]
 by_cases h15 : x.op = 15
 ·rw [if_pos h15] at h0
  simp only [if_pos h15]
  have hl : l.length = 4 := by rw [r4, h15]; decide
  obtain ⟨e1, e2, e3⟩ := hnum (i := 0) (by omega)
  obtain ⟨f1, f2, f3⟩ := hnum (i := 1) (by omega)
  unfold condT at h0 ⊢
  rw [e1, f1] at h0 ⊢
  rw [e2, e3, f2, f3]
  by_cases hz : (valT (env.get day) l[0]).1 = 0
  ·simp only [hz, ne_eq, not_true_eq_false, if_false] at h0 ⊢
   by_cases hy : (valT (env.get day) l[1]).1 = 0
   ·simp only [hy, ne_eq, not_true_eq_false, if_false] at h0 ⊢
    cases hv2 : (valT (env.get day) l[0]).2 with
    | none => exact .inl ⟨by simp, by simp, by simp⟩
    | some v =>
     cases hu2 : (valT (env.get day) l[1]).2 with
     | none => exact .inl ⟨by simp, by simp, by simp⟩
     | some u =>
      rw [(valT_mono (hL.get day) l[0]).2 hz v hv2, (valT_mono (hL.get day) l[1]).2 hy u hu2]
      exact .inr ⟨by simp, by simp, by simp, by simp⟩
   ·simp [hy] at h0
  ·simp [hz] at h0
 rw [if_neg h15] at h0
 simp only [if_neg h15]
 by_cases h16 : x.op = 16
 ·simp only [if_pos h16]
  cases hc : env.cho x.a day with
  | none => exact .inl ⟨by simp, by simp, by simp⟩
  | some p => rw [hL.cho _ _ _ hc]; exact .inr ⟨by simp, by simp, by simp, by simp⟩
 simp only [if_neg h16]
 by_cases h17 : x.op = 17
 ·simp only [if_pos h17]
  have hf := firstD_leD (key := x.a) (a := day) (b := x.b) (tod := tod) (hL.cho x.a) (hL.any x (List.mem_of_getElem? r1) h17)
  obtain ⟨g, hc⟩ : ∃ g, firstD env.cho x.a day (min x.b tod) = g := ⟨_, rfl⟩
  rw [hc]
  rw [hc] at hf
  cases g with
  | some q =>
   rcases firstD_less (cho := env'.cho) (key := x.a) (a := day) (b := min x.b tod') (b' := min x.b tod) (by omega) with ⟨q', a1, a2⟩ | ⟨a1, -⟩
   ·rw [hf] at a1
    cases a1
    rw [a2]
    exact .inr ⟨by simp, by simp, by simp, by simp⟩
   ·rw [hf] at a1; cases a1
  | none =>
   by_cases hb : day ≤ x.b
   ·exact .inl ⟨by simp [hb], by simp, by simp⟩
   ·obtain ⟨g', hc'⟩ : ∃ g, firstD env'.cho x.a day (min x.b tod') = g := ⟨_, rfl⟩
    rw [hc']
    cases g' with
    | none => exact .inr ⟨by simp [hb], by simp, by simp, by simp [hb]⟩
    | some q => have := firstD_range hc'; omega
 simp only [if_neg h17]
 exact .inr ⟨by simp, by simp, by simp, by simp⟩
def keptF (env : Env) (tod : Int) : Nat → Hd → List Hd
 | 0, _ => []
 | n + 1, h => keptH env tod h ++ (oneH env tod h).2.1.flatMap (keptF env tod n)
def keptD (env : Env) (tod : Int) (h : Hd) : List Hd := keptF env tod h.T.size h
def keptQ (env : Env) (tod : Int) : Nat → List Hd → List Hd
 | 0, _ => []
 | _ + 1, [] => []
 | n + 1, h :: r => keptH env tod h ++ keptQ env tod n (r ++ (oneH env tod h).2.1)
theorem keptF_enough (env : Env) (tod : Int) : ∀ (n : Nat) (h : Hd), h.T.size ≤ n → keptF env tod n h = keptD env tod h := by
 have key : ∀ (n m : Nat) (h : Hd), h.T.size ≤ n → h.T.size ≤ m → keptF env tod n h = keptF env tod m h := by
  intro n
  induction n with
  | zero => intro m h hn _; have := h.T.size_pos; omega
  | succ n ih =>
   intro m h hn hm
   cases m with
   | zero => have := h.T.size_pos; omega
   | succ m =>
    have hlt := one_lt env tod h
    have : (oneH env tod h).2.1.map (keptF env tod n) = (oneH env tod h).2.1.map (keptF env tod m) := List.map_congr_left (fun k hk => by
     have := mem_le hk
     exact ih m k (by omega) (by omega))
    simp only [keptF, List.flatMap_def, this]
 intro n h hn
 exact key n _ h hn (Nat.le_refl _)
theorem keptD_eq (env : Env) (tod : Int) (h : Hd) : keptD env tod h = keptH env tod h ++ (oneH env tod h).2.1.flatMap (keptD env tod) := by
 obtain ⟨n, hn⟩ : ∃ n, h.T.size = n + 1 := ⟨h.T.size - 1, by have := h.T.size_pos; omega⟩
 have hlt := one_lt env tod h
 have : (oneH env tod h).2.1.map (keptF env tod n) = (oneH env tod h).2.1.map (keptD env tod) := List.map_congr_left (fun k hk => by
  have := mem_le hk
  exact keptF_enough env tod n k (by omega))
 conv => lhs; unfold keptD; rw [hn]
 simp only [keptF, List.flatMap_def, this]
theorem kept_den (env : Env) (tod : Int) : ∀ (n : Nat) (q : List Hd), sizesH q ≤ n → (keptQ env tod n q).Perm (q.flatMap (keptD env tod)) := by
 intro n
 induction n with
 | zero =>
  intro q hq
  cases q with
  | nil => exact .refl _
  | cons h r => have := h.T.size_pos; simp [sizesH] at hq; omega
 | succ n ih =>
  intro q hq
  cases q with
  | nil => exact .refl _
  | cons h r =>
   have hlt := one_lt env tod h
   have hq' : sizesH (r ++ (oneH env tod h).2.1) ≤ n := by
    simp only [sizesH, List.map_append, List.sum_append, List.map_cons, List.sum_cons] at hq hlt ⊢
    omega
   show (keptH env tod h ++ keptQ env tod n (r ++ (oneH env tod h).2.1)).Perm _
   rw [List.flatMap_cons, keptD_eq]
   refine ((ih _ hq').append_left _).trans ?_
   rw [List.flatMap_append, List.append_assoc]
   exact List.perm_append_comm.append_left _
theorem kept_ok {ts : List Nd} {T : Tm} {env : Env} {tod : Int} (hG : Good ts T) (hok : ∀ x ∈ ts, x.ok) (hE : EnvOk env) : ∀ (n : Nat) (q : List Hd), (∀ h ∈ q, HdOk ts h) → ∀ h ∈ keptQ env tod n q, HdOk ts h := by
 intro n
 induction n with
 | zero => intro q _ h hh; cases hh
 | succ n ih =>
  intro q hq h hh
  cases q with
  | nil => cases hh
  | cons g r =>
   rcases List.mem_append.1 hh with hh | hh
   ·rw [keptH_mem hh]; exact hq g List.mem_cons_self
   ·refine ih _ (fun y hy => ?_) h hh
    rcases List.mem_append.1 hy with hy | hy
    ·exact hq y (List.mem_cons_of_mem _ hy)
    ·exact one_ok hG hok hE (hq g List.mem_cons_self) y hy
theorem comb_one (a : Rs) : Sim (comb a (0, [], [])) a := (comb_comm _ _).trans (comb_nil a)
theorem comb_mix (a b c d : Rs) : Sim (comb (comb a b) (comb c d)) (comb (comb a c) (comb b d)) :=
 (comb_assoc a b _).trans (((Sim.refl a).comb ((comb_assoc b c d).symm.trans (((comb_comm b c).comb (Sim.refl d)).trans (comb_assoc c b d)))).trans (comb_assoc a c _).symm)
theorem comb_flows (x y : List Fl) : comb (0, x, []) (0, y, []) = (0, x ++ y, []) := comb_ok rfl rfl
theorem combL_split {D : Hd → Rs} {f : Hd → List Fl} {K : Hd → List Hd} : ∀ l : List Hd, (∀ g ∈ l, Sim (D g) (comb (0, f g, []) (combL ((K g).map D)))) → Sim (combL (l.map D)) (comb (0, l.flatMap f, []) (combL ((l.flatMap K).map D)))
 | [], _ => by
  rw [List.map_nil, List.flatMap_nil, List.flatMap_nil, List.map_nil]
  exact (comb_nil _).symm
 | g :: l, h => by
  rw [List.map_cons, combL_cons, List.flatMap_cons, List.flatMap_cons, List.map_append, ← comb_flows]
  refine ((h g List.mem_cons_self).comb (combL_split l (fun x hx => h x (List.mem_cons_of_mem _ hx)))).trans ?_
  exact (comb_mix _ _ _ _).trans ((Sim.refl _).comb (combL_app _ _).symm)
theorem go_den {ts : List Nd} {T : Tm} {env env' : Env} {tod tod' : Int} (hG : Good ts T) (hok : ∀ x ∈ ts, x.ok) (hE : EnvOk env) (hle : tod ≤ tod') (hL : EnvLeD ts tod env env') : ∀ h : Hd, HdOk ts h → (den env tod h).1 = 0 →
  Sim (den env' tod' h) (comb (0, (den env tod h).2.1, []) (combL ((keptD env tod h).map (den env' tod')))) ∧ keptD env' tod' h = (keptD env tod h).flatMap (keptD env' tod') := by
 refine hd_ind (fun h ih hh h0 => ?_)
 obtain ⟨h1, h2⟩ := den_fst.1 h0
 rcases one_go hG hok hle hL hh h1 with ⟨k1, k2, k3⟩ | ⟨k1, k2, k3, k4⟩
 ·have e1 : keptD env tod h = [h] := by rw [keptD_eq, k1, k2]; rfl
  have e2 : (den env tod h).2.1 = [] := by rw [den_ok h0, k2, k3]; rfl
  rw [e1, e2]
  refine ⟨?_, by simp⟩
  rw [List.map_cons, List.map_nil, combL_cons]
  exact ((comb_nil _).trans (comb_one _)).symm
 ·have hkid := fun g hg => ih g (mem_lt hg) (one_ok hG hok hE hh g hg) (h2 g hg)
  have e1 : keptD env tod h = (oneH env tod h).2.1.flatMap (keptD env tod) := by rw [keptD_eq, k1]; rfl
  have e2 : keptD env' tod' h = (oneH env tod h).2.1.flatMap (keptD env' tod') := by rw [keptD_eq, k4, k2]; rfl
  have e3 : (den env tod h).2.1 = (oneH env tod h).2.2.1 ++ (oneH env tod h).2.1.flatMap (fun g => (den env tod g).2.1) := by rw [den_ok h0]
  have e4 : den env' tod' h = comb (0, (oneH env tod h).2.2.1, []) (combL ((oneH env tod h).2.1.map (den env' tod'))) := by
   rw [den_eq, k2, if_neg (by rw [h1]; simp), k3]
  refine ⟨?_, ?_⟩
  ·rw [e1, e3, e4, ← comb_flows]
   exact ((Sim.refl _).comb (combL_split (f := fun g => (den env tod g).2.1) (K := keptD env tod) _ (fun g hg => (hkid g hg).1))).trans (comb_assoc _ _ _).symm
  ·rw [e1, e2, List.flatMap_assoc]
   simp only [List.flatMap_def]
   congr 1
   exact List.map_congr_left (fun g hg => by rw [(hkid g hg).2, List.flatMap_def])
structure RunS where
 L : List Hd
 day : Int
 W : List Wt
noncomputable def goR (env : Env) (s : RunS) (tod : Int) : Int × List Fl × RunS :=
 if tod < s.day ∨ 73048 < tod then (18, [], s)
 else if (runQ env tod (sizesH s.L) s.L).1 ≠ 0 then ((runQ env tod (sizesH s.L) s.L).1, [], s)
 else (0, sortL ordF (runQ env tod (sizesH s.L) s.L).2.1, ⟨keptQ env tod (sizesH s.L) s.L, tod, waitL (runQ env tod (sizesH s.L) s.L).2.2⟩)
def newR (T : Tm) (day : Int) : RunS := ⟨[⟨T, 0, day, 1, 1⟩], -1, []⟩
theorem combL_perm {l m : List Rs} (h : l.Perm m) : Sim (combL l) (combL m) := by
 induction h with
 | nil => exact Sim.refl _
 | cons a _ ih => rw [combL_cons, combL_cons]; exact (Sim.refl a).comb ih
 | swap a b l =>
  rw [combL_cons, combL_cons, combL_cons, combL_cons]
  exact (comb_assoc b a _).symm.trans (((comb_comm b a).comb (Sim.refl _)).trans (comb_assoc a b _))
 | trans _ _ i1 i2 => exact i1.trans i2
theorem sim_flows {F G : List Fl} (h : F.Perm G) : Sim (0, F, []) (0, G, []) := ⟨Iff.rfl, fun _ => ⟨h, .refl _⟩⟩
structure RunOk (ts : List Nd) (s : RunS) : Prop where
 held : ∀ h ∈ s.L, HdOk ts h
 d0 : -1 ≤ s.day
 d1 : s.day ≤ 73048
def Comes (ts : List Nd) (env : Env) (h0 : Hd) (F : List Fl) (s : RunS) : Prop :=
 ∀ env' tod', EnvLeD ts s.day env env' → s.day ≤ tod' → Sim (den env' tod' h0) (comb (0, F, []) (combL (s.L.map (den env' tod'))))
theorem comes_new (ts : List Nd) (env : Env) (T : Tm) (day : Int) : Comes ts env ⟨T, 0, day, 1, 1⟩ [] (newR T day) := by
 intro env' tod' _ _
 show Sim _ (comb (0, [], []) (combL [den env' tod' ⟨T, 0, day, 1, 1⟩]))
 rw [combL_cons]
 exact ((comb_nil _).trans (comb_one _)).symm
theorem Comes.tell {ts : List Nd} {env env1 : Env} {h0 : Hd} {F : List Fl} {s : RunS} (h : Comes ts env h0 F s) (hL : EnvLeD ts s.day env env1) : Comes ts env1 h0 F s := fun env' tod' h1 h2 => h env' tod' (hL.trans h1) h2
theorem new_ok {ts : List Nd} {T : Tm} (hG : Good ts T) (hm : makesI T.root.op = 2) {day : Int} (h0 : 0 ≤ day) (h1 : day ≤ 73048) : RunOk ts (newR T day) :=
 ⟨fun h hh => by rw [List.mem_singleton.1 hh]; exact hd_first hG hm h0 h1, by show (-1 : Int) ≤ -1; decide, by show (-1 : Int) ≤ 73048; decide⟩
theorem goR_early {env : Env} {s : RunS} {tod : Int} (h : tod < s.day ∨ 73048 < tod) : goR env s tod = (18, [], s) := by unfold goR; rw [if_pos h]
theorem goR_over {env : Env} {s : RunS} {tod : Int} (h : ¬ (tod < s.day ∨ 73048 < tod)) (h1 : (runQ env tod (sizesH s.L) s.L).1 ≠ 0) : goR env s tod = ((runQ env tod (sizesH s.L) s.L).1, [], s) := by unfold goR; rw [if_neg h, if_pos h1]
theorem goR_done {env : Env} {s : RunS} {tod : Int} (h : ¬ (tod < s.day ∨ 73048 < tod)) (h1 : (runQ env tod (sizesH s.L) s.L).1 = 0) :
  goR env s tod = (0, sortL ordF (runQ env tod (sizesH s.L) s.L).2.1, ⟨keptQ env tod (sizesH s.L) s.L, tod, waitL (runQ env tod (sizesH s.L) s.L).2.2⟩) := by unfold goR; rw [if_neg h, if_neg (by rw [h1]; simp)]
theorem goR_ok {ts : List Nd} {T : Tm} {env : Env} (hG : Good ts T) (hok : ∀ x ∈ ts, x.ok) (hE : EnvOk env) {s : RunS} (hs : RunOk ts s) (tod : Int) : RunOk ts (goR env s tod).2.2 := by
 by_cases h : tod < s.day ∨ 73048 < tod
 ·rw [goR_early h]; exact hs
 ·by_cases h1 : (runQ env tod (sizesH s.L) s.L).1 = 0
  ·rw [goR_done h h1]
   exact ⟨kept_ok hG hok hE _ _ hs.held, by have := hs.d0; show -1 ≤ tod; omega, by show tod ≤ 73048; omega⟩
  ·rw [goR_over h h1]; exact hs
theorem goR_fail {env : Env} {s : RunS} {tod : Int} (h : (goR env s tod).1 ≠ 0) : (goR env s tod).2 = ([], s) := by
 by_cases h0 : tod < s.day ∨ 73048 < tod
 ·rw [goR_early h0]
 ·by_cases h1 : (runQ env tod (sizesH s.L) s.L).1 = 0
  ·rw [goR_done h0 h1] at h; exact absurd rfl h
  ·rw [goR_over h0 h1]
theorem go_comes {ts : List Nd} {T : Tm} {env : Env} (hG : Good ts T) (hok : ∀ x ∈ ts, x.ok) (hE : EnvOk env) {s : RunS} (hs : RunOk ts s) {h0 : Hd} {F : List Fl} (hC : Comes ts env h0 F s) {tod : Int} (h : ¬ (tod < s.day ∨ 73048 < tod)) (h1 : (runQ env tod (sizesH s.L) s.L).1 = 0) :
  (den env tod h0).1 = 0 ∧ sortL ordF (den env tod h0).2.1 = sortL ordF (F ++ (goR env s tod).2.1) ∧ waitL (den env tod h0).2.2 = (goR env s tod).2.2.W ∧ Comes ts env h0 (F ++ (goR env s tod).2.1) (goR env s tod).2.2 := by
 have hr := run_den env tod (sizesH s.L) s.L (Nat.le_refl _)
 have hz := hr.1.1 h1
 obtain ⟨p1, p2⟩ := hr.2 h1
 have hd := hC env tod (EnvLeD.refl _ _ _) (by omega)
 have hd0 : (den env tod h0).1 = 0 := hd.1.2 (comb_fst.2 ⟨rfl, hz⟩)
 obtain ⟨q1, q2⟩ := hd.2 hd0
 rw [comb_ok rfl hz] at q1 q2
 rw [goR_done h h1]
 have hkid := combL_fst.1 hz
 rw [combL_ok hkid] at p1 p2 q1 q2
 simp only [List.nil_append] at q2
 have hF : (F ++ sortL ordF (runQ env tod (sizesH s.L) s.L).2.1).Perm (F ++ (s.L.map (den env tod)).flatMap (·.2.1)) := ((sortL_perm _ _).trans p1).append_left F
 refine ⟨hd0, ?_, ?_, ?_⟩
 ·exact sort_same swoF totF (q1.trans hF.symm)
 ·exact waitL_same (fun x => ((q2.trans p2.symm).mem_iff))
 ·intro env' tod' hL ht
  have ht' : tod ≤ tod' := ht
  have hL' : EnvLeD ts tod env env' := hL
  refine (hC env' tod' (hL'.less (by omega)) (by omega)).trans ?_
  have hsp := combL_split (D := den env' tod') (f := fun g => (den env tod g).2.1) (K := keptD env tod) s.L (fun g hg => (go_den hG hok hE ht' hL' g (hs.held g hg) (hkid _ (List.mem_map_of_mem hg))).1)
  refine ((Sim.refl _).comb hsp).trans ((comb_assoc _ _ _).symm.trans ?_)
  rw [comb_flows]
  refine (sim_flows ?_).comb (combL_perm ((kept_den env tod _ _ (Nat.le_refl _)).symm.map _))
  rw [show s.L.flatMap (fun g => (den env tod g).2.1) = (s.L.map (den env tod)).flatMap (·.2.1) by rw [List.flatMap_map]]
  exact hF.symm
end Go.Proofs.YtkjabiabeemfhaaGreatDoor
end
