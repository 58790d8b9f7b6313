/- denote: a contract is gone through: the loop -/
import Derived.Test.YtkjabiabeemfhaaGreatDoorV21
import Derived.Test.YtkjabiabeemfhaaGreatDoorV23
import Derived.Test.YtkjabiabeemfhaaGreatDoorV16
import Derived.Test.YtkjabiabeemfhaaGreatDoorV15
import Derived.Test.YtkjabiabeemfhaaGreatDoorV25
import Derived.Test.YtkjabiabeemfhaaGreatDoorV26
import Derived.Test.YtkjabiabeemfhaaGreatDoorV28
import Derived.Test.YtkjabiabeemfhaaGreatDoorV29
import Derived.Test.YtkjabiabeemfhaaGreatDoorV32
import Derived.Test.YtkjabiabeemfhaaGreatDoorV33
import Derived.Deep.LoopGhost
set_option linter.all false
set_option linter.all false
section
namespace Go.Proofs.YtkjabiabeemfhaaGreatDoor
open Go.RowKit Go.Sort
section
variable {α : Type} {cf : α → α → Int}
theorem sort_same (hO : SWO (ltOf cf)) (hT : ∀ x y, (ltOf cf) x y = false → (ltOf cf) y x = false → x = y) {l m : List α} (h : l.Perm m) : sortL cf l = sortL cf m :=
  order_unique hT ((sortL_perm cf l).trans (h.trans (sortL_perm cf m).symm)) (sortL_sorted hO hT _) (sortL_sorted hO hT _)
def StrictL (cf : α → α → Int) (l : List α) : Prop := l.Pairwise (fun x y => ltOf cf x y = true)
theorem strict_unique (hO : SWO (ltOf cf)) {l m : List α} (hl : StrictL cf l) (hm : StrictL cf m) (h : ∀ x, x ∈ l ↔ x ∈ m) : l = m := by
  have nd : ∀ {l : List α}, StrictL cf l → l.Nodup := fun h => List.Pairwise.imp (fun {a b} hab e => by subst e; rw [hO.irrefl] at hab; cases hab) h
  have hp : l.Perm m := (List.perm_ext_iff_of_nodup (nd hl) (nd hm)).2 h
  exact List.Perm.eq_of_pairwise (fun a b _ _ h1 h2 => by have := hO.trans a b a h1 h2; rw [hO.irrefl] at this; cases this) hl hm hp
def cmpL [DecidableEq α] : List α → List α
  | [] => []
  | [a] => [a]
  | a :: b :: r => if a = b then cmpL (b :: r) else a :: cmpL (b :: r)
theorem cmpL_mem [DecidableEq α] : ∀ (l : List α) (x : α), x ∈ cmpL l ↔ x ∈ l
  | [], _ => Iff.rfl
  | [_], _ => Iff.rfl
  | a :: b :: r, x => by
    have ih := cmpL_mem (b :: r) x
    unfold cmpL
    split
    · rename_i h; subst h; rw [ih]; simp
    · rw [List.mem_cons, ih, List.mem_cons (a := x) (b := a)]
theorem cmpL_strict [DecidableEq α] (hO : SWO (ltOf cf)) (hT : ∀ x y, (ltOf cf) x y = false → (ltOf cf) y x = false → x = y) : ∀ {l : List α}, l.Pairwise (fun x y => ltOf cf y x = false) → StrictL cf (cmpL l)
  | [], _ => List.Pairwise.nil
  | [_], _ => List.pairwise_singleton _ _
  | a :: b :: r, h => by
    obtain ⟨h1, h2⟩ := List.pairwise_cons.1 h
    have ih := cmpL_strict hO hT h2
    unfold cmpL
    split
    · exact ih
    · rename_i hne
      refine List.pairwise_cons.2 ⟨fun y hy => ?_, ih⟩
      rw [cmpL_mem] at hy
      have hya := h1 y hy
      cases e : ltOf cf a y with
      | true => rfl
      | false =>
        have hay := hT _ _ e hya
        subst hay
        have hba := h1 b List.mem_cons_self
        rcases List.mem_cons.1 hy with rfl | hy
        · exact absurd rfl hne
        · have hab := (List.pairwise_cons.1 h2).1 a hy
          exact absurd (hT _ _ hab hba) hne
end
section
variable {α : Type} [DecidableEq α]
theorem cmpL_snoc : ∀ (l : List α) (y x : α), cmpL (l ++ [y] ++ [x]) = if y = x then cmpL (l ++ [y]) else cmpL (l ++ [y]) ++ [x]
  | [], y, x => by
    show cmpL [y, x] = _
    unfold cmpL
    split
    · rename_i h; subst h; rfl
    · rfl
  | [a], y, x => by
    show cmpL (a :: y :: [x]) = if y = x then cmpL (a :: y :: []) else cmpL (a :: y :: []) ++ [x]
    have ih := cmpL_snoc [] y x
    have e : ∀ m : List α, cmpL (a :: y :: m) = if a = y then cmpL (y :: m) else a :: cmpL (y :: m) := fun m => rfl
    rw [e, e]
    have ih' : cmpL (y :: [x]) = if y = x then cmpL [y] else cmpL [y] ++ [x] := ih
    rw [ih']
    by_cases h1 : y = x <;> by_cases h2 : a = y <;> simp [h1, h2]
  | a :: b :: r, y, x => by
    have ih := cmpL_snoc (b :: r) y x
    have e : ∀ m : List α, cmpL (a :: b :: r ++ m) = if a = b then cmpL (b :: r ++ m) else a :: cmpL (b :: r ++ m) := fun m => rfl
    rw [List.append_assoc, e, e]
    rw [List.append_assoc] at ih
    rw [ih]
    by_cases h1 : y = x <;> by_cases h2 : a = b <;> simp [h1, h2]
theorem cmpL_take {l : List α} {i : Nat} (h1 : 1 ≤ i) (h : i < l.length) : cmpL (l.take (i + 1)) = if l[i - 1]'(by omega) = l[i] then cmpL (l.take i) else cmpL (l.take i) ++ [l[i]] := by
  obtain ⟨j, rfl⟩ : ∃ j, i = j + 1 := ⟨i - 1, by omega⟩
  have e1 : l.take (j + 1 + 1) = l.take j ++ [l[j]] ++ [l[j + 1]] := by
    rw [List.take_succ_eq_append_getElem h, List.take_succ_eq_append_getElem (by omega : j < l.length)]
  have e2 : l.take (j + 1) = l.take j ++ [l[j]] := List.take_succ_eq_append_getElem (by omega)
  rw [e1, e2, cmpL_snoc]
  rfl
theorem cmpL_le : ∀ l : List α, (cmpL l).length ≤ l.length
  | [] => Nat.le_refl _
  | [_] => Nat.le_refl _
  | a :: b :: r => by
    have := cmpL_le (b :: r)
    unfold cmpL
    split
    · simp only [List.length_cons] at this ⊢; omega
    · simp only [List.length_cons] at this ⊢; omega
end
def waitL (l : List Wt) : List Wt := cmpL (sortL ordW l)
theorem waitL_strict (l : List Wt) : StrictL ordW (waitL l) := cmpL_strict swoW totW (sortL_sorted swoW totW l)
theorem waitL_mem (l : List Wt) (x : Wt) : x ∈ waitL l ↔ x ∈ l := by unfold waitL; rw [cmpL_mem]; exact (sortL_perm ordW l).mem_iff
theorem waitL_of {l m : List Wt} (hm : StrictL ordW m) (h : ∀ x, x ∈ m ↔ x ∈ l) : m = waitL l := strict_unique swoW hm (waitL_strict l) (fun x => by rw [h, waitL_mem])
theorem waitL_same {l m : List Wt} (h : ∀ x, x ∈ l ↔ x ∈ m) : waitL l = waitL m := waitL_of (waitL_strict l) (fun x => by rw [waitL_mem, h])
end Go.Proofs.YtkjabiabeemfhaaGreatDoor
end
section
namespace Go.Proofs.YtkjabiabeemfhaaGreatDoor
open Go.RowKit Go.Sort
theorem hd_ind {p : Hd → Prop} (h : ∀ x : Hd, (∀ y : Hd, y.T.size < x.T.size → p y) → p x) (x : Hd) : p x := by
  have key : ∀ n (x : Hd), x.T.size ≤ n → p x := by
    intro n
    induction n with
    | zero => intro x hx; have := x.T.size_pos; omega
    | succ n ih => exact fun x hx => h x (fun y hy => ih y (by omega))
  exact key _ x (Nat.le_refl _)
theorem mem_lt {env : Env} {tod : Int} {h g : Hd} (hg : g ∈ (oneH env tod h).2.1) : g.T.size < h.T.size := Nat.lt_of_le_of_lt (mem_le hg) (one_lt env tod h)
theorem den_late {env : Env} {tod : Int} {h : Hd} (hd : tod < h.day) : den env tod h = (0, [], []) := by
  have : oneH env tod h = (0, [], [], []) := by unfold oneH; rw [if_pos hd]
  rw [den_eq, this]
  simp [comb, combL]
theorem den_err {env : Env} {tod : Int} {h : Hd} (h0 : (den env tod h).1 ≠ 0) : (den env tod h).2 = ([], []) := by
  rw [den_eq] at h0 ⊢
  by_cases h1 : (oneH env tod h).1 = 0
  · simp only [h1, ne_eq, not_true_eq_false, if_false] at h0 ⊢
    unfold comb at h0 ⊢
    simp only [ne_eq, not_true_eq_false, if_false] at h0 ⊢
    split
    · rfl
    · rename_i h2; rw [if_neg h2] at h0; exact absurd rfl h0
  · simp only [h1, ne_eq, not_false_eq_true, if_true]
end Go.Proofs.YtkjabiabeemfhaaGreatDoor
end
section
namespace Go.Proofs.YtkjabiabeemfhaaGreatDoor
open Go.RowKit
set_option maxRecDepth 100000
noncomputable def ctE (ts : List Nd) : Int := if ofE ts = 0 ∧ ofS ts ≠ 2 then 14 else ofE ts
set_option maxHeartbeats 800000 in
theorem tcheck_any (ts : List Nd) (hlen : ts.length ≤ 100000) (hok : ∀ x ∈ ts, x.ok) (v : Value) (w : World) (hS : Shapes w) (hN : IsNodes w v ts) :
    Calls Tryz.prog 80 #[v] w fun e w' => e = .returned (.int .i64 (ctE ts)) ∧ Later w w' := by
  have HT := Lib.hid (tterm_any ts hlen hok v w hS hN)
  obtain ⟨p, cp, rfl⟩ := hN.form
  obtain ⟨c, hc⟩ : ∃ c, ctE ts = c := ⟨_, rfl⟩
  rw [hc]
  unfold ctE at hc
  obtain ⟨s, hs⟩ : ∃ s, ofS ts = s := ⟨_, rfl⟩
  obtain ⟨f, hf⟩ : ∃ f, ofE ts = f := ⟨_, rfl⟩
  rw [hs, hf] at hc HT
  have HC := Lib.hid hc
  clear hN hS hc hs hf hok
  by_cases h0 : f = 0
  · subst h0
    by_cases h2 : s = 2
    · subst h2
      have hcc := Lib.hid (show (0 : Int) = c by rw [← HC.out]; simp)
      clear HC
      go_enter Tryz.func80, Tryz.ntmps80
      go_wp2_with (go_at_call 77; go_must (refine HT.out.mono ?_; rintro e w1 ⟨rfl, hb1⟩))
      go_ret
      exact ⟨ret_int hcc.out, by repeat (first | with_reducible exact Later.refl _ | with_reducible assumption | with_reducible refine Later.ofdrew ?_ | with_reducible refine Later.ofdrewN ?_ | with_reducible refine Later.setCell ?_ ?_ _ | with_reducible refine Later.alloc ?_ _ | with_reducible refine Later.drewN ?_ _ | with_reducible refine Later.drew ?_ | (with_reducible refine Later.trans ?_ (by assumption)) | (simp only [World.size_setCell, World.size_alloc, World.heap_drewN]; omega) | (simp; done) | (simp; omega))⟩
    · have hcc := Lib.hid (show (14 : Int) = c by rw [← HC.out]; simp [h2])
      clear HC
      have hb : (s != 2) = true := by rw [bne_iff_ne]; exact h2
      go_enter Tryz.func80, Tryz.ntmps80
      go_wp2_with (go_at_call 77; go_must (refine HT.out.mono ?_; rintro e w1 ⟨rfl, hb1⟩))
      go_ret
      exact ⟨ret_int hcc.out, by repeat (first | with_reducible exact Later.refl _ | with_reducible assumption | with_reducible refine Later.ofdrew ?_ | with_reducible refine Later.ofdrewN ?_ | with_reducible refine Later.setCell ?_ ?_ _ | with_reducible refine Later.alloc ?_ _ | with_reducible refine Later.drewN ?_ _ | with_reducible refine Later.drew ?_ | (with_reducible refine Later.trans ?_ (by assumption)) | (simp only [World.size_setCell, World.size_alloc, World.heap_drewN]; omega) | (simp; done) | (simp; omega))⟩
  · have hcc := Lib.hid (show f = c by rw [← HC.out, if_neg (fun h => h0 h.1)])
    clear HC
    have hb : (f == 0) = false := by rw [beq_eq_false_iff_ne]; exact h0
    go_enter Tryz.func80, Tryz.ntmps80
    go_wp2_with (go_at_call 77; go_must (refine HT.out.mono ?_; rintro e w1 ⟨rfl, hb1⟩))
    go_ret
    exact ⟨ret_int hcc.out, by repeat (first | with_reducible exact Later.refl _ | with_reducible assumption | with_reducible refine Later.ofdrew ?_ | with_reducible refine Later.ofdrewN ?_ | with_reducible refine Later.setCell ?_ ?_ _ | with_reducible refine Later.alloc ?_ _ | with_reducible refine Later.drewN ?_ _ | with_reducible refine Later.drew ?_ | (with_reducible refine Later.trans ?_ (by assumption)) | (simp only [World.size_setCell, World.size_alloc, World.heap_drewN]; omega) | (simp; done) | (simp; omega))⟩
theorem rofS_cases {ts : List Nd} (h : ofE ts = 0) : (ofS ts = 2 ∧ rofS ts = ⟨#[99]⟩) ∨ (ofS ts ≠ 2 ∧ (rofS ts = ⟨#[111]⟩ ∨ rofS ts = ⟨#[]⟩)) := by
  obtain ⟨T, hT⟩ := good_of h
  have h1 : ofS ts = makesI T.root.op := by unfold ofS; rw [if_pos h, hT.tree]
  have h2 : rofS ts = sortS T.root.op := by unfold rofS; rw [if_pos h, hT.tree]
  rw [h1, h2]
  rcases sort_cases T.root.op with ⟨a, b⟩ | ⟨a, b⟩ | ⟨a, b⟩
  · exact .inr ⟨by omega, .inr b⟩
  · exact .inr ⟨by omega, .inl b⟩
  · exact .inl ⟨a, b⟩
set_option maxHeartbeats 800000 in
theorem rcheck_any (ts : List Nd) (hlen : ts.length ≤ 100000) (hok : ∀ x ∈ ts, x.ok) (v : Value) (w : World) (hN : IsNodes w v ts) :
    Calls Tryz.prog 27 #[v] w fun e w' => e = .returned (.int .i64 (ctE ts)) ∧ Later w w' := by
  have HT := Lib.hid (rterm_any ts hlen hok v w hN)
  obtain ⟨p, cp, rfl⟩ := hN.form
  obtain ⟨c, hc⟩ : ∃ c, ctE ts = c := ⟨_, rfl⟩
  rw [hc]
  unfold ctE at hc
  by_cases h0 : ofE ts = 0
  · rcases rofS_cases h0 with ⟨h2, h3⟩ | ⟨h2, h3⟩
    · rw [h0, h3] at HT
      have hcc := Lib.hid (show (0 : Int) = c by rw [← hc, h0]; simp [h2])
      clear hN hc h0 h2 h3 hok
      go_enter Tryz.func27, Tryz.ntmps27
      go_wp2_with (go_at_call 73; go_must (refine HT.out.mono ?_; rintro e w1 ⟨rfl, hb1⟩))
      go_ret
      exact ⟨ret_int hcc.out, by repeat (first | with_reducible exact Later.refl _ | with_reducible assumption | with_reducible refine Later.ofdrew ?_ | with_reducible refine Later.ofdrewN ?_ | with_reducible refine Later.setCell ?_ ?_ _ | with_reducible refine Later.alloc ?_ _ | with_reducible refine Later.drewN ?_ _ | with_reducible refine Later.drew ?_ | (with_reducible refine Later.trans ?_ (by assumption)) | (simp only [World.size_setCell, World.size_alloc, World.heap_drewN]; omega) | (simp; done) | (simp; omega))⟩
    · have hcc := Lib.hid (show (14 : Int) = c by rw [← hc]; simp [h0, h2])
      rw [h0] at HT
      rcases h3 with h3 | h3
      all_goals
        rw [h3] at HT
        clear hN hc h0 h2 h3 hok
        go_enter Tryz.func27, Tryz.ntmps27
        go_wp2_with (go_at_call 73; go_must (refine HT.out.mono ?_; rintro e w1 ⟨rfl, hb1⟩))
        go_ret
        exact ⟨ret_int hcc.out, by repeat (first | with_reducible exact Later.refl _ | with_reducible assumption | with_reducible refine Later.ofdrew ?_ | with_reducible refine Later.ofdrewN ?_ | with_reducible refine Later.setCell ?_ ?_ _ | with_reducible refine Later.alloc ?_ _ | with_reducible refine Later.drewN ?_ _ | with_reducible refine Later.drew ?_ | (with_reducible refine Later.trans ?_ (by assumption)) | (simp only [World.size_setCell, World.size_alloc, World.heap_drewN]; omega) | (simp; done) | (simp; omega))⟩
  · obtain ⟨f, hf⟩ : ∃ f, ofE ts = f := ⟨_, rfl⟩
    obtain ⟨s, hs⟩ : ∃ s, rofS ts = s := ⟨_, rfl⟩
    rw [hf, hs] at HT
    rw [hf] at hc h0
    have hcc := Lib.hid (show f = c by rw [← hc, if_neg (fun h => h0 h.1)])
    have hb : (f == 0) = false := by rw [beq_eq_false_iff_ne]; exact h0
    clear hN hc hok hf hs
    go_enter Tryz.func27, Tryz.ntmps27
    go_wp2_with (go_at_call 73; go_must (refine HT.out.mono ?_; rintro e w1 ⟨rfl, hb1⟩))
    go_ret
    exact ⟨ret_int hcc.out, by repeat (first | with_reducible exact Later.refl _ | with_reducible assumption | with_reducible refine Later.ofdrew ?_ | with_reducible refine Later.ofdrewN ?_ | with_reducible refine Later.setCell ?_ ?_ _ | with_reducible refine Later.alloc ?_ _ | with_reducible refine Later.drewN ?_ _ | with_reducible refine Later.drew ?_ | (with_reducible refine Later.trans ?_ (by assumption)) | (simp only [World.size_setCell, World.size_alloc, World.heap_drewN]; omega) | (simp; done) | (simp; omega))⟩
end Go.Proofs.YtkjabiabeemfhaaGreatDoor
end
section
namespace Go.Proofs.YtkjabiabeemfhaaGreatDoor
open Go.RowKit Go.Sort
theorem comb_code {a b : Rs} (ha : a.1 = 0 ∨ a.1 = 11) (hb : b.1 = 0 ∨ b.1 = 11) : (comb a b).1 = 0 ∨ (comb a b).1 = 11 := by
  unfold comb
  split
  · exact ha
  · split
    · exact hb
    · exact .inl rfl
section
variable {ts : List Nd} {T : Tm} {env : Env} {tod : Int}
theorem run_code (hG : Good ts T) (hok : ∀ x ∈ ts, x.ok) (hE : EnvOk env) : ∀ (n : Nat) (q : List Hd), (∀ h ∈ q, HdOk ts h) → (runQ env tod n q).1 = 0 ∨ (runQ env tod n q).1 = 11 := by
  intro n
  induction n with
  | zero => exact fun _ _ => .inl rfl
  | succ n ih =>
    intro q hq
    cases q with
    | nil => exact .inl rfl
    | cons h r =>
      have h1 := one_code (tod := tod) hG hok hE (hq h List.mem_cons_self)
      simp only [runQ]
      by_cases h0 : (oneH env tod h).1 = 0
      · simp only [h0, ne_eq, not_true_eq_false, if_false]
        refine comb_code (.inl rfl) (ih _ (fun g hg => ?_))
        rcases List.mem_append.1 hg with hg | hg
        · exact hq g (List.mem_cons_of_mem _ hg)
        · exact one_ok hG hok hE (hq h List.mem_cons_self) g hg
      · rw [if_pos h0]
        exact h1
theorem combL_code {l : List Rs} (h : ∀ r ∈ l, r.1 = 0 ∨ r.1 = 11) : (combL l).1 = 0 ∨ (combL l).1 = 11 := by
  induction l with
  | nil => exact .inl rfl
  | cons a l ih => rw [combL_cons]; exact comb_code (h a (by simp)) (ih (fun r hr => h r (by simp [hr])))
theorem den_code (hG : Good ts T) (hok : ∀ x ∈ ts, x.ok) (hE : EnvOk env) : ∀ h : Hd, HdOk ts h → (den env tod h).1 = 0 ∨ (den env tod h).1 = 11 := by
  refine hd_ind (fun h ih hh => ?_)
  rw [den_eq]
  have h1 := one_code (tod := tod) hG hok hE hh
  by_cases h0 : (oneH env tod h).1 = 0
  · simp only [h0, ne_eq, not_true_eq_false, if_false]
    refine comb_code (.inl rfl) (combL_code (fun r hr => ?_))
    obtain ⟨g, hg, rfl⟩ := List.mem_map.1 hr
    exact ih g (mem_lt hg) (one_ok hG hok hE hh g hg)
  · rw [if_pos h0]
    exact h1
theorem run_err : ∀ (n : Nat) (q : List Hd), (runQ env tod n q).1 ≠ 0 → (runQ env tod n q).2 = ([], []) := by
  intro n
  induction n with
  | zero => intro q h; exact absurd rfl h
  | succ n ih =>
    intro q h
    cases q with
    | nil => exact absurd rfl h
    | cons g r =>
      simp only [runQ] at h ⊢
      by_cases h1 : (oneH env tod g).1 = 0
      · simp only [h1, ne_eq, not_true_eq_false, if_false] at h ⊢
        unfold comb at h ⊢
        simp only [ne_eq, not_true_eq_false, if_false] at h ⊢
        split
        · rfl
        · rename_i h2; simp [h2] at h
      · simp only [h1, ne_eq, not_false_eq_true, if_true]
theorem hd_first (hG : Good ts T) (hm : makesI T.root.op = 2) {day : Int} (h0 : 0 ≤ day) (h1 : day ≤ 73048) : HdOk ts ⟨T, 0, day, 1, 1⟩ :=
  ⟨hG.at.1, hG.sorted, hm, h0, h1, (⟨by decide, by decide, by decide, by decide, by decide⟩ : Valid 1 1)⟩
theorem runT_den (hG : Good ts T) (hok : ∀ x ∈ ts, x.ok) (hE : EnvOk env) (hm : makesI T.root.op = 2) {day : Int} (h0 : 0 ≤ day) (h1 : day ≤ 73048) :
    (runT env tod T day).1 = (den env tod ⟨T, 0, day, 1, 1⟩).1 ∧ sortL ordF (runT env tod T day).2.1 = sortL ordF (den env tod ⟨T, 0, day, 1, 1⟩).2.1 ∧ waitL (runT env tod T day).2.2 = waitL (den env tod ⟨T, 0, day, 1, 1⟩).2.2 := by
  have hh := hd_first hG hm h0 h1
  have hs : Sim (runT env tod T day) (den env tod ⟨T, 0, day, 1, 1⟩) := by
    refine (run_den env tod T.size [⟨T, 0, day, 1, 1⟩] (by simp [sizesH])).trans ?_
    show Sim (comb (den env tod ⟨T, 0, day, 1, 1⟩) (0, [], [])) _
    exact (comb_comm _ _).trans (comb_nil _)
  have c1 := run_code (tod := tod) hG hok hE T.size [⟨T, 0, day, 1, 1⟩] (fun h hm => by rw [List.mem_singleton.1 hm]; exact hh)
  have c2 := den_code (tod := tod) hG hok hE _ hh
  have e1 : (runT env tod T day).1 = (den env tod ⟨T, 0, day, 1, 1⟩).1 := by
    have := hs.1
    unfold runT at this ⊢
    rcases c1 with c1 | c1 <;> rcases c2 with c2 | c2
    · rw [c1, c2]
    · rw [c1, c2] at this; exact absurd (this.1 rfl) (by decide)
    · rw [c1, c2] at this; exact absurd (this.2 rfl) (by decide)
    · rw [c1, c2]
  refine ⟨e1, ?_⟩
  by_cases hz : (runT env tod T day).1 = 0
  · obtain ⟨p1, p2⟩ := hs.2 hz
    exact ⟨sort_same swoF totF p1, waitL_same (fun x => p2.mem_iff)⟩
  · have h2 := run_err (env := env) (tod := tod) T.size [⟨T, 0, day, 1, 1⟩] hz
    have h3 := den_err (env := env) (tod := tod) (h := ⟨T, 0, day, 1, 1⟩) (by rw [← e1]; exact hz)
    unfold runT
    rw [h2, h3]
    exact ⟨rfl, rfl⟩
end
noncomputable def outT (env : Env) (ts : List Nd) (day tod : Int) : Rs :=
  if ctE ts ≠ 0 then (ctE ts, [], []) else if day < 0 ∨ 73048 < day ∨ tod < -1 ∨ 73048 < tod then (18, [], []) else
    match treeOf ts with
    | none => (0, [], [])
    | some T => den env tod ⟨T, 0, day, 1, 1⟩
theorem out_wrong {env : Env} {ts : List Nd} {day tod : Int} (h : ctE ts ≠ 0) : outT env ts day tod = (ctE ts, [], []) := by unfold outT; rw [if_pos h]
theorem out_day {env : Env} {ts : List Nd} {day tod : Int} (h : ctE ts = 0) (hd : day < 0 ∨ 73048 < day ∨ tod < -1 ∨ 73048 < tod) : outT env ts day tod = (18, [], []) := by unfold outT; rw [if_neg (by simpa using h), if_pos hd]
theorem out_den {env : Env} {ts : List Nd} {day tod : Int} {T : Tm} (h : ctE ts = 0) (hd : ¬ (day < 0 ∨ 73048 < day ∨ tod < -1 ∨ 73048 < tod)) (hT : treeOf ts = some T) : outT env ts day tod = den env tod ⟨T, 0, day, 1, 1⟩ := by unfold outT; rw [if_neg (by simpa using h), if_neg hd, hT]
theorem out_err {env : Env} {ts : List Nd} {day tod : Int} (h : (outT env ts day tod).1 ≠ 0) : (outT env ts day tod).2 = ([], []) := by
  unfold outT at h ⊢
  split
  · rfl
  · rename_i h1
    rw [if_neg h1] at h
    split
    · rfl
    · rename_i h2
      rw [if_neg h2] at h
      split
      · rfl
      · rename_i T hT
        rw [hT] at h
        exact den_err h
theorem ct_good {ts : List Nd} (h : ctE ts = 0) : ∃ T, Good ts T ∧ makesI T.root.op = 2 := by
  have h1 : ofE ts = 0 := by
    unfold ctE at h
    split at h
    · cases h
    · exact h
  obtain ⟨T, hG⟩ := good_of h1
  refine ⟨T, hG, ?_⟩
  have h2 : ofS ts = 2 := by
    apply Classical.byContradiction
    intro hc
    unfold ctE at h
    rw [if_pos ⟨h1, hc⟩] at h
    cases h
  unfold ofS at h2
  rw [h1, hG.tree] at h2
  simpa using h2
theorem ct_of_good {ts : List Nd} {T : Tm} (hG : Good ts T) (hm : makesI T.root.op = 2) : ctE ts = 0 := by
  have h2 : ofS ts = 2 := by
    unfold ofS
    rw [hG.ofE, hG.tree]
    simpa using hm
  unfold ctE
  rw [if_neg (fun e => e.2 h2)]
  exact hG.ofE
end Go.Proofs.YtkjabiabeemfhaaGreatDoor
end
section
namespace Go.Proofs.YtkjabiabeemfhaaGreatDoor
open Go.RowKit
set_option maxRecDepth 100000
theorem step_past {env : Env} {tod : Int} {h : Hd} (hd : ¬ tod < h.day) : oneH env tod h = stepT env tod h.T.root h.T.kids h.pl h.day h.n h.d := by unfold oneH; rw [if_neg hd]
theorem sone_any {w0 : World} {ts : List Nd} {T : Tm} {tv : Value} {fx : FxL} {ch : ChL} {p m1 m2 : Nat} (hJ : JobAt w0 ts T tv fx ch p m1 m2) (w : World) (hw0 : Later w0 w) (b : Nat) (tod : Int) (ht0 : -1 ≤ tod) (ht1 : tod ≤ 73048) (rv fv wv : Value) (H : List Hd) (F : List Fl) (W : List Wt)
    (hst : StudyAt w0.heap.size w b tv tod (.pointer (some ⟨p, 0, none⟩)) rv fv wv H F W) (hH : H.length ≤ 1000) (hF : F.length ≤ 1000) (hW : W.length ≤ 100000) (h : Hd) (hh : HdOk ts h) (hd : ¬ tod < h.day) :
    Calls Tryz.prog 93 #[.pointer (some ⟨b, 0, none⟩), .agg #[.int .i64 h.pl, .int .i64 h.day, .int .i64 h.n, .int .i64 h.d]] w (OneEnd (oneH (envT fx ch) tod h) w0 b tv tod (.pointer (some ⟨p, 0, none⟩)) H F W) := by
  rw [step_past hd]
  obtain ⟨⟨⟨op, a, b', vn, vd⟩, l⟩, pl, day, n, d⟩ := h
  have hops := contract_ops hh.mc
  show Calls _ _ _ _ (OneEnd (stepT (envT fx ch) tod ⟨op, a, b', vn, vd⟩ l pl day n d) w0 b tv tod _ H F W)
  have : op = 9 ∨ op = 10 ∨ op = 11 ∨ op = 12 ∨ op = 13 ∨ op = 14 ∨ op = 15 ∨ op = 16 ∨ op = 17 := by have h1 := hops.1; have h2 := hops.2; simp only [Tm.root] at h1 h2; omega
  rcases this with rfl | rfl | rfl | rfl | rfl | rfl | rfl | rfl | rfl
  · exact sone_9 hJ w hw0 b tod ht0 ht1 rv fv wv H F W hst hH hF hW a b' vn vd l pl day n d hh
  · exact sone_10 hJ w hw0 b tod ht0 ht1 rv fv wv H F W hst hH hF hW a b' vn vd l pl day n d hh
  · exact sone_11 hJ w hw0 b tod ht0 ht1 rv fv wv H F W hst hH hF hW a b' vn vd l pl day n d hh
  · exact sone_12 hJ w hw0 b tod ht0 ht1 rv fv wv H F W hst hH hF hW a b' vn vd l pl day n d hh
  · exact sone_13 hJ w hw0 b tod ht0 ht1 rv fv wv H F W hst hH hF hW a b' vn vd l pl day n d hh
  · exact sone_14 hJ w hw0 b tod ht0 ht1 rv fv wv H F W hst hH hF hW a b' vn vd l pl day n d hh
  · exact sone_15 hJ w hw0 b tod ht0 ht1 rv fv wv H F W hst hH hF hW a b' vn vd l pl day n d hh
  · exact sone_16 hJ w hw0 b tod ht0 ht1 rv fv wv H F W hst hH hF hW a b' vn vd l pl day n d hh
  · exact sone_17 hJ w hw0 b tod ht0 ht1 rv fv wv H F W hst hH hF hW a b' vn vd l pl day n d hh
theorem rest_cut (q : Option Addr) (n c : Nat) (hn : 1 ≤ n) (hc : n ≤ c) (W : World) : (Instr.slice 103 (.slice q n c) (some (.int .i64 1)) none none).run Tryz.prog W = .ok (sliced q 1 n c 4) W := by
  rw [run_slice_l _ _ _ _ _ (by kernel_rfl) _ _ (by omega) (by omega)]
  have e : (sizeOf (Tryz.prog.elem 103)).run Tryz.prog W = .ok 4 W := by kernel_rfl
  rw [e]; rfl
def AllEnd (R : Rs) (w : World) (tv : Value) (tod : Int) (fp : Value) (e : Ending) (w' : World) : Prop :=
  Later w w' ∧ ∃ b, e = .returned (.tuple #[.pointer (some ⟨b, 0, none⟩), .int .i64 R.1]) ∧ (R.1 = 0 → ∃ rv fv wv H, StudyAt w.heap.size w' b tv tod fp rv fv wv H R.2.1 R.2.2 ∧ R.2.1.length ≤ 1000 ∧ R.2.2.length ≤ 100000)
set_option maxHeartbeats 1600000 in
theorem all_wrong (ts : List Nd) (hlen : ts.length ≤ 100000) (hok : ∀ x ∈ ts, x.ok) (tv : Value) (day tod : Int) (fp : Value) (w : World) (hS : Shapes w) (hN : IsNodes w tv ts) (h0 : ctE ts ≠ 0) :
    Calls Tryz.prog 47 #[tv, .int .i64 day, .int .i64 tod, fp] w fun e w' => e = .returned (.tuple #[.pointer none, .int .i64 (ctE ts)]) ∧ Later w w' := by
  have HC := Lib.hid (fun W (hl : Later w W) => tcheck_any ts hlen hok tv W (hS.later hl) (hN.later hl))
  obtain ⟨E, hE⟩ : ∃ E, ctE ts = E := ⟨_, rfl⟩
  rw [hE] at HC h0 ⊢
  have he1 : (E == 0) = false := by simpa using h0
  have he2 : (E != 0) = true := by simpa using h0
  clear hS hN hE h0 hok
  go_enter Tryz.func47, Tryz.ntmps47
  go_wp2
  go_step3
  go_wp2_with (go_at_call 80; go_must (refine (HC.out _ (by repeat (first | with_reducible exact Later.refl _ | with_reducible assumption | with_reducible refine Later.ofdrew ?_ | with_reducible refine Later.ofdrewN ?_ | with_reducible refine Later.setCell ?_ ?_ _ | with_reducible refine Later.alloc ?_ _ | with_reducible refine Later.drewN ?_ _ | with_reducible refine Later.drew ?_ | (with_reducible refine Later.trans ?_ (by assumption)) | (simp only [World.size_setCell, World.size_alloc, World.heap_drewN]; omega) | (simp; done) | (simp; omega)))).mono ?_; rintro e w1 ⟨rfl, hb1⟩))
  rw [Exit.noGoto_ret]
  go_ret2
  exact ⟨rfl, hb1⟩
set_option maxHeartbeats 1600000 in
theorem all_day (ts : List Nd) (hlen : ts.length ≤ 100000) (hok : ∀ x ∈ ts, x.ok) (tv : Value) (day tod : Int) (fp : Value) (w : World) (hS : Shapes w) (hN : IsNodes w tv ts) (h0 : ctE ts = 0) (hd : day < 0 ∨ 73048 < day ∨ tod < -1 ∨ 73048 < tod) :
    Calls Tryz.prog 47 #[tv, .int .i64 day, .int .i64 tod, fp] w fun e w' => e = .returned (.tuple #[.pointer none, .int .i64 18]) ∧ Later w w' := by
  have HC := Lib.hid (fun W (hl : Later w W) => tcheck_any ts hlen hok tv W (hS.later hl) (hN.later hl))
  rw [h0] at HC
  clear hS hN h0 hok
  by_cases h1 : day < 0
  · clear hd
    go_enter Tryz.func47, Tryz.ntmps47
    go_wp2
    go_step3
    go_wp2_with (go_at_call 80; go_must (refine (HC.out _ (by repeat (first | with_reducible exact Later.refl _ | with_reducible assumption | with_reducible refine Later.ofdrew ?_ | with_reducible refine Later.ofdrewN ?_ | with_reducible refine Later.setCell ?_ ?_ _ | with_reducible refine Later.alloc ?_ _ | with_reducible refine Later.drewN ?_ _ | with_reducible refine Later.drew ?_ | (with_reducible refine Later.trans ?_ (by assumption)) | (simp only [World.size_setCell, World.size_alloc, World.heap_drewN]; omega) | (simp; done) | (simp; omega)))).mono ?_; rintro e w1 ⟨rfl, hb1⟩))
    rw [Exit.noGoto_ret]
    go_ret2
    exact ⟨rfl, hb1⟩
  by_cases h2 : 73048 < day
  · clear hd
    go_enter Tryz.func47, Tryz.ntmps47
    go_wp2
    go_step3
    go_wp2_with (go_at_call 80; go_must (refine (HC.out _ (by repeat (first | with_reducible exact Later.refl _ | with_reducible assumption | with_reducible refine Later.ofdrew ?_ | with_reducible refine Later.ofdrewN ?_ | with_reducible refine Later.setCell ?_ ?_ _ | with_reducible refine Later.alloc ?_ _ | with_reducible refine Later.drewN ?_ _ | with_reducible refine Later.drew ?_ | (with_reducible refine Later.trans ?_ (by assumption)) | (simp only [World.size_setCell, World.size_alloc, World.heap_drewN]; omega) | (simp; done) | (simp; omega)))).mono ?_; rintro e w1 ⟨rfl, hb1⟩))
    rw [Exit.noGoto_ret]
    go_ret2
    exact ⟨rfl, hb1⟩
  by_cases h3 : tod < -1
  · clear hd
    go_enter Tryz.func47, Tryz.ntmps47
    go_wp2
    go_step3
    go_wp2_with (go_at_call 80; go_must (refine (HC.out _ (by repeat (first | with_reducible exact Later.refl _ | with_reducible assumption | with_reducible refine Later.ofdrew ?_ | with_reducible refine Later.ofdrewN ?_ | with_reducible refine Later.setCell ?_ ?_ _ | with_reducible refine Later.alloc ?_ _ | with_reducible refine Later.drewN ?_ _ | with_reducible refine Later.drew ?_ | (with_reducible refine Later.trans ?_ (by assumption)) | (simp only [World.size_setCell, World.size_alloc, World.heap_drewN]; omega) | (simp; done) | (simp; omega)))).mono ?_; rintro e w1 ⟨rfl, hb1⟩))
    rw [Exit.noGoto_ret]
    go_ret2
    exact ⟨rfl, hb1⟩
  · have h4 : 73048 < tod := by omega
    clear hd
    go_enter Tryz.func47, Tryz.ntmps47
    go_wp2
    go_step3
    go_wp2_with (go_at_call 80; go_must (refine (HC.out _ (by repeat (first | with_reducible exact Later.refl _ | with_reducible assumption | with_reducible refine Later.ofdrew ?_ | with_reducible refine Later.ofdrewN ?_ | with_reducible refine Later.setCell ?_ ?_ _ | with_reducible refine Later.alloc ?_ _ | with_reducible refine Later.drewN ?_ _ | with_reducible refine Later.drew ?_ | (with_reducible refine Later.trans ?_ (by assumption)) | (simp only [World.size_setCell, World.size_alloc, World.heap_drewN]; omega) | (simp; done) | (simp; omega)))).mono ?_; rintro e w1 ⟨rfl, hb1⟩))
    rw [Exit.noGoto_ret]
    go_ret2
    exact ⟨rfl, hb1⟩
set_option maxHeartbeats 8000000 in
theorem all_run {w0 : World} {ts : List Nd} {T : Tm} {tv : Value} {fx : FxL} {ch : ChL} {p m1 m2 : Nat} (hJ : JobAt w0 ts T tv fx ch p m1 m2) (hm : makesI T.root.op = 2) (day tod : Int) (hd0 : 0 ≤ day) (hd1 : day ≤ 73048) (ht0 : -1 ≤ tod) (ht1 : tod ≤ 73048) :
    Calls Tryz.prog 47 #[tv, .int .i64 day, .int .i64 tod, .pointer (some ⟨p, 0, none⟩)] w0 (AllEnd (runT (envT fx ch) tod T day) w0 tv tod (.pointer (some ⟨p, 0, none⟩))) := by
  have HC := Lib.hid (fun W (hl : Later w0 W) => tcheck_any ts hJ.len hJ.ok tv W (hJ.sh.later hl) (hJ.nodes.later hl))
  rw [ct_of_good hJ.good hm] at HC
  obtain ⟨R, hR⟩ : ∃ R, runT (envT fx ch) tod T day = R := ⟨_, rfl⟩
  have HLF : Hid (Left (envT fx ch) tod R [] [] [⟨T, 0, day, 1, 1⟩]) := Lib.hid (by rw [← hR]; exact left_first _ _ _)
  obtain ⟨P, hP⟩ : ∃ P, AllEnd R w0 tv tod (.pointer (some ⟨p, 0, none⟩)) = P := ⟨_, rfl⟩
  rw [hR, hP]
  have HP := Lib.hid hP
  have HH1 := Lib.hid (hd_first hJ.good hm hd0 hd1)
  have HSZ : Hid (T.size ≤ 64) := Lib.hid (by rw [hJ.good.at.2]; exact hJ.good.len)
  have HJ := Lib.hid hJ
  have n0 : ¬ day < 0 := by omega
  have n1 : ¬ 73048 < day := by omega
  have n2 : ¬ tod < -1 := by omega
  have n3 : ¬ 73048 < tod := by omega
  have hsl := fun q n c hn hc W => rest_cut q n c hn hc W
  obtain ⟨tb, tq, tc, htv, -, -, -⟩ := hJ.nodes.full (i := 0) (by rw [← hJ.good.at.2]; exact T.size_pos)
  subst htv
  clear hR hP hJ hm hsl
  go_enter Tryz.func47, Tryz.ntmps47
  go_wp2
  go_step3
  go_upto_region 6 with (go_at_call 80; go_must (refine (HC.out _ (by repeat (first | with_reducible exact Later.refl _ | with_reducible assumption | with_reducible refine Later.ofdrew ?_ | with_reducible refine Later.ofdrewN ?_ | with_reducible refine Later.setCell ?_ ?_ _ | with_reducible refine Later.alloc ?_ _ | with_reducible refine Later.drewN ?_ _ | with_reducible refine Later.drew ?_ | (with_reducible refine Later.trans ?_ (by assumption)) | (simp only [World.size_setCell, World.size_alloc, World.heap_drewN]; omega) | (simp; done) | (simp; omega)))).mono ?_; rintro e w1 ⟨rfl, hb1⟩))
  go_upto_region 7 with (fail)
  refine wp_opaque (fun w2 hb2 => ?_)
  have hO2 := Own.one hb2
  have hl2 : Later w0 w2 := hb1.trans hb2.un1
  have hz1 := hb1.size
  obtain ⟨b, hbb⟩ : ∃ b, w1.heap.size = b := ⟨_, rfl⟩
  rw [hbb] at hO2 hz1 ⊢
  have HS2 : Hid (StudyAt w0.heap.size w2 b (.slice (some ⟨tb, tq, none⟩) ts.length tc) tod (.pointer (some ⟨p, 0, none⟩)) (.slice none 0 0) (.slice none 0 0) (.slice none 0 0) [] [] []) := Lib.hid ⟨hO2, hz1, B.Que.nil _ _ _, B.Que.nil _ _ _, B.Que.nil _ _ _, (by simp [Value.ownBlock]), (by simp [Value.ownBlock]), (by simp [Value.ownBlock]), B.Apart.none _, B.Apart.none _, B.Apart.none _⟩
  have HPUT := Lib.hid (fun W1 (hl : Later w2 W1) => sput_later (b := b) hl2.size (by simp) HS2.out ⟨T, 0, day, 1, 1⟩ 0 rfl W1 hl)
  clear hb1 hb2 hO2 hbb HC n0 n1 n2 n3
  go_wp2_with (go_at_call 92; go_must (refine (HPUT.out _ (by repeat (first | with_reducible exact Later.refl _ | with_reducible assumption | with_reducible refine Later.ofdrew ?_ | with_reducible refine Later.ofdrewN ?_ | with_reducible refine Later.setCell ?_ ?_ _ | with_reducible refine Later.alloc ?_ _ | with_reducible refine Later.drewN ?_ _ | with_reducible refine Later.drew ?_ | (with_reducible refine Later.trans ?_ (by assumption)) | (simp only [World.size_setCell, World.size_alloc, World.heap_drewN]; omega) | (simp; done) | (simp; omega)))).mono ?_; rintro e w3 ⟨rfl, rv3, hs3, hz3, hf3⟩))
  have hl3 : Later w0 w3 := lat_base hz3 hl2 (fun k hk => hk.elim (fun e => e ▸ hz1) (fun e => by cases e))
  have HS3 := Lib.hid hs3
  clear hz3 hf3 hs3 HPUT HS2
  go_step3
  go_wp2
  go_loopg [12] T.size (fun g s12 wr => s12 = .int .i64 0 ∧ Later w0 wr ∧ ∃ (rv fv wv : Value) (H : List Hd) (F : List Fl) (W : List Wt), Hid (StudyAt w0.heap.size wr b (.slice (some ⟨tb, tq, none⟩) ts.length tc) tod (.pointer (some ⟨p, 0, none⟩)) rv fv wv H F W) ∧ Hid ((∀ h ∈ H, HdOk ts h) ∧ Left (envT fx ch) tod R F W H ∧ sizesH H = g ∧ F.length + g ≤ 64 ∧ W.length + 128 * g ≤ 8192))
  case atStart => exact ⟨rfl, hl3, rv3, _, _, _, _, _, HS3, Lib.hid ⟨fun h hh => by rw [List.mem_singleton.1 hh]; exact HH1.out, HLF.out, by simp [sizesH], by have := HSZ.out; simp; omega, by have := HSZ.out; simp; omega⟩⟩
  case round =>
    obtain ⟨rfl, hlr, rv, fv, wv, H, F, W, HS, HX⟩ := hrel
    obtain ⟨⟨zb, cb, fb⟩, -⟩ := id HS.out.own
    have c3 : wr.cell? ⟨b, 3, none⟩ = some rv := cb 3
    have f3 : wr.frozen? ⟨b, 3, none⟩ = false := fb 3 (by simp)
    clear cb fb hl3 HS3
    have HS8 := Lib.hid HS.out
    have HX8 := HX
    clear HS HX
    cases H with
    | nil =>
      obtain ⟨rp, rc, rfl⟩ := HS8.out.rest.form
      have HR : Hid (R = (0, F, W)) := Lib.hid (left_nil HX8.out.2.1)
      simp only [List.length_nil] at c3 HS8
      go_wp2
      rw [← HP.out]
      have hx := HX8.out.2.2
      exact ⟨hlr, b, by rw [HR.out]; rfl, fun _ => ⟨_, _, _, _, by rw [HR.out]; exact HS8.out, by rw [HR.out]; simp only; omega, by rw [HR.out]; simp only; omega⟩⟩
    | cons h r =>
      obtain ⟨hH, hL, hsz, hfl, hwl⟩ := HX8.out
      obtain ⟨N, hN⟩ : ∃ N, r.length + 1 = N := ⟨_, rfl⟩
      have HQ := HS8.out.rest
      rw [List.length_cons, hN] at HQ
      obtain ⟨g, o, rc, hrv, hg1, hg2, hcap⟩ : ∃ g o rc, rv = .slice (some ⟨g, o, none⟩) N rc ∧ g < wr.heap.size ∧ N ≤ rc ∧ ∀ j, j < 4 → wr.cell? ⟨g, o + j, none⟩ = (hdCs h)[j]? := by
        rcases HQ.2 with ⟨_, h2⟩ | ⟨g, o, rc, h1, _, h3, h4, _, h6, _⟩
        · omega
        · refine ⟨g, o, rc, h1, h3, h4, fun j hj => ?_⟩
          rw [h6 j (by omega), List.flatMap_cons, List.getElem?_append_left (by rw [hdCs_len]; exact hj)]
      subst hrv
      have q0 := hcap 0 (by decide)
      have q1 := hcap 1 (by decide)
      have q2 := hcap 2 (by decide)
      have q3 := hcap 3 (by decide)
      simp only [hdCs, List.getElem?_cons_zero, List.getElem?_cons_succ, Nat.add_zero] at q0 q1 q2 q3
      have hsl := fun W => rest_cut (some ⟨g, o, none⟩) N rc (by omega) hg2 W
      have HC9 := Lib.hid (fun w1 (hl : Later wr w1) => StudyAt.cut HS8.out hN.symm hl)
      have HQ9 := Lib.hid (que_pop HQ hN.symm)
      obtain ⟨M9, hM9⟩ : ∃ m, N - 1 = m := ⟨_, rfl⟩
      obtain ⟨q9, c9, hV9⟩ : ∃ q c, sliced (some ⟨g, o, none⟩) 1 N rc 4 = .slice q M9 c := ⟨_, _, by unfold sliced; rw [hM9]⟩
      rw [hV9] at HC9 HQ9
      simp only [hV9] at hsl
      have hgt : 0 < (N : Int) := by omega
      have hmem : Hid (HdOk ts h ∧ (∀ x ∈ r, HdOk ts x) ∧ r.length ≤ 64) := Lib.hid ⟨hH h List.mem_cons_self, fun x hx => hH x (List.mem_cons_of_mem _ hx), by
        have : ∀ l : List Hd, l.length ≤ sizesH l := fun l => by
          induction l with
          | nil => exact Nat.le_refl _
          | cons a l ih => have := a.T.size_pos; simp only [sizesH, List.map_cons, List.sum_cons, List.length_cons] at ih ⊢; omega
        have := this (h :: r)
        simp only [List.length_cons] at this
        omega⟩
      have HLFT := Lib.hid hL
      have HNN := Lib.hid (show sizesH (h :: r) = gk ∧ F.length + gk ≤ 64 ∧ W.length + 128 * gk ≤ 8192 from ⟨hsz, hfl, hwl⟩)
      clear hcap HQ hV9 hM9 hH hL hsz hfl hwl HX8 hN
      obtain ⟨hday, hhd⟩ : ∃ x, h.day = x := ⟨_, rfl⟩
      obtain ⟨hpl, hhp⟩ : ∃ x : Int, (h.pl : Int) = x := ⟨_, rfl⟩
      obtain ⟨hn, hhn⟩ : ∃ x, h.n = x := ⟨_, rfl⟩
      obtain ⟨hdn, hhe⟩ : ∃ x, h.d = x := ⟨_, rfl⟩
      rw [hhp] at q0
      rw [hhd] at q1
      rw [hhn] at q2
      rw [hhe] at q3
      have HEQ := Lib.hid (show h.day = hday ∧ (h.pl : Int) = hpl ∧ h.n = hn ∧ h.d = hdn from ⟨hhd, hhp, hhn, hhe⟩)
      clear hhd hhp hhn hhe
      go_upto_region 11 with (fail)
      refine wp_opaque (fun wa hba => ?_)
      have hOa := Own.one hba
      have hla := hba.un1
      obtain ⟨A, hA⟩ : ∃ A, wr.heap.size = A := ⟨_, rfl⟩
      rw [hA] at hOa ⊢
      have c3a := ((bcell hla).1 _ 3 zb).trans c3
      have f3a := ((bcell hla).2 _ 3 zb).trans f3
      have zba := Nat.lt_of_lt_of_le zb hla.size
      clear hba c3 f3 q0 q1 q2 q3
      go_upto_region 12 with (fail)
      obtain ⟨hs9, hl9⟩ := HC9.out wa hla
      have hOb := B.own_far hOa (b := b) (k := 3) (fun z hz e => by
        simp only [List.mem_cons, List.not_mem_nil, or_false] at hz
        subst hz
        simp only at e
        omega) (.slice q9 M9 c9)
      obtain ⟨wb, hwb⟩ : ∃ x, wa.setCell ⟨b, 3, none⟩ (.slice q9 M9 c9) = x := ⟨_, rfl⟩
      rw [hwb] at hs9 hl9 hOb ⊢
      have hlb : Later w0 wb := lat_base hl9 hlr (fun k hk => by rw [hk]; exact HS8.out.lob)
      have HSB := Lib.hid hs9
      obtain ⟨⟨zA, cA, -⟩, -⟩ := hOb
      have a0 := cA 0
      have a1 := cA 1
      have a2 := cA 2
      have a3 := cA 3
      simp only [List.getElem?_toArray, List.getElem?_cons_zero, List.getElem?_cons_succ] at a0 a1 a2 a3
      clear hs9 hl9 hwb c3a f3a cA HC9 hOa hsl HS8
      by_cases htd : tod < hday
      · have hone : oneH (envT fx ch) tod h = (0, [], [], []) := by unfold oneH; rw [if_pos (by rw [HEQ.out.1]; exact htd)]
        have hst := left_step HLFT.out (by rw [hone])
        rw [hone] at hst
        simp only [List.append_nil] at hst
        have HST := Lib.hid hst
        clear hone hst
        go_wp2
        go_roundg (sizesH r)
        case measure => obtain ⟨e1, -, -⟩ := HNN.out; have e4 := h.T.size_pos; simp only [sizesH, List.map_cons, List.sum_cons] at e1 ⊢; omega
        case rel => exact ⟨rfl, hlb, _, _, _, _, _, _, HSB, Lib.hid ⟨hmem.out.2.1, HST.out, rfl, by obtain ⟨e1, e2, e3⟩ := HNN.out; have e4 := h.T.size_pos; simp only [sizesH, List.map_cons, List.sum_cons] at e1 ⊢; omega, by obtain ⟨e1, e2, e3⟩ := HNN.out; have e4 := h.T.size_pos; simp only [sizesH, List.map_cons, List.sum_cons] at e1 ⊢; omega⟩⟩
      · have HONE := Lib.hid (sone_any HJ.out wb hlb b tod ht0 ht1 (.slice q9 M9 c9) fv wv r F W HSB.out (by have := hmem.out.2.2; omega) (by have := HNN.out; omega) (by have := HNN.out; omega) h hmem.out.1 (by rw [HEQ.out.1]; exact htd))
        rw [HEQ.out.1, HEQ.out.2.1, HEQ.out.2.2.1, HEQ.out.2.2.2] at HONE
        unfold OneEnd at HONE
        obtain ⟨O, hO⟩ : ∃ O, oneH (envT fx ch) tod h = O := ⟨_, rfl⟩
        rw [hO] at HONE
        have HO := Lib.hid hO
        clear hO
        by_cases h0 : O.1 = 0
        · rw [h0] at HONE
          go_wp2_with (go_at_call 93; go_must (refine HONE.out.mono ?_; rintro e w5 ⟨rfl, rv5, fv5, wv5, hs5, hl5⟩))
          have hlt := one_lt (envT fx ch) tod h
          have hfw := one_few (envT fx ch) tod h
          rw [HO.out] at hlt hfw
          have hok5 := one_ok HJ.out.good HJ.out.ok (envT_ok HJ.out.fo HJ.out.co) (tod := tod) hmem.out.1
          have hst := left_step HLFT.out (by rw [HO.out]; exact h0)
          rw [HO.out] at hok5 hst
          go_roundg (sizesH (r ++ O.2.1))
          case measure => obtain ⟨e1, -, -⟩ := HNN.out; simp only [sizesH, List.map_cons, List.sum_cons, List.map_append, List.sum_append] at e1 hlt ⊢; omega
          case rel => exact ⟨rfl, hl5, _, _, _, _, _, _, Lib.hid hs5, Lib.hid ⟨fun x hx => (List.mem_append.1 hx).elim (hmem.out.2.1 x) (hok5 x), hst, rfl, by obtain ⟨e1, e2, e3⟩ := HNN.out; simp only [sizesH, List.map_cons, List.sum_cons, List.map_append, List.sum_append, List.length_append] at e1 hlt ⊢; omega, by obtain ⟨e1, e2, e3⟩ := HNN.out; simp only [sizesH, List.map_cons, List.sum_cons, List.map_append, List.sum_append, List.length_append] at e1 hlt ⊢; omega⟩⟩
        · have hR := left_err HLFT.out (by rw [HO.out]; exact h0)
          rw [HO.out] at hR
          have HR := Lib.hid hR
          obtain ⟨E, hE⟩ : ∃ E, O.1 = E := ⟨_, rfl⟩
          rw [hE] at HONE HR h0
          have he1 : (E == 0) = false := by simpa using h0
          have he2 : (E != 0) = true := by simpa using h0
          clear hR h0 hE
          go_wp2_with (go_at_call 93; go_must (refine HONE.out.mono ?_; rintro e w5 ⟨rfl, rv5, fv5, wv5, hs5, hl5⟩))
          rw [← HP.out]
          exact ⟨hl5, b, by rw [HR.out]; rfl, fun hz => absurd (show R.1 = 0 from hz) (by rw [HR.out]; exact fun e => by rw [show E = 0 from e] at he1; cases he1)⟩
end Go.Proofs.YtkjabiabeemfhaaGreatDoor
end
