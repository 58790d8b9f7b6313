/- plain: numbers as rows of bits; what a slice of them is in a world. -/
import Derived.Deep.Quiet
import Derived.BigQuiet
import Derived.Below
import Derived.OrdersHeld
import Derived.WalkKit
import Derived.Test.YtkjabiabeemfhaaGreatDoorRows
import Derived.Test.YtkjabiabeemfhaaGreatDoorZ1
import Derived.Shelf.Spec.BitsCarry
import Derived.WalkSpells
import Derived.WalkSmall
import Derived.WalkLawsBesides
import Derived.Lib.Hide
set_option linter.all false
set_option linter.all false
section
namespace Go.Proofs.YtkjabiabeemfhaaGreatDoor
open Go Go.RowKit
def Later (w w' : World) : Prop := Below w.heap.size w w'
theorem Later.refl (w : World) : Later w w := Below.refl _ _
theorem Later.trans {a b c : World} (h : Later a b) (k : Later b c) : Later a c := Below.trans h (Below.mono k h.size)
theorem Later.drewN {a b : World} (h : Later a b) (n : Nat) : Later a (b.drewN n) := Below.trans h ⟨rfl, rfl, rfl, Nat.le_refl _, fun _ _ => rfl⟩
theorem Later.drew {a b : World} (h : Later a b) : Later a b.drew := Below.drew h
theorem Later.alloc {a b : World} (h : Later a b) (o : Obj) : Later a (b.alloc o) := Below.alloc h h.size o
open Classical in
noncomputable def after (w u : World) : World := if Later w u then u else w
theorem after_later (w u : World) : Later w (after w u) := by
 unfold after
 split
 ·assumption
 ·exact Later.refl w
theorem after_of {w u : World} (h : Later w u) : after w u = u := by unfold after; rw [if_pos h]
@[go_sem] theorem after_cell (w u : World) (a : Addr) (h : (w.cell? a).isSome = true) : (after w u).cell? a = w.cell? a := by
 obtain ⟨v, hv⟩ := Option.isSome_iff_exists.1 h
 exact (after_later w u).cell (World.block_lt_of_cell? w a hv)
@[go_sem] theorem after_heap (w u : World) (k : Nat) (h : (w.heap[k]?).isSome = true) : (after w u).heap[k]? = w.heap[k]? := by
 refine (after_later w u).block k ?_
 rcases Nat.lt_or_ge k w.heap.size with h' | h'
 ·exact h'
 ·simp [Array.getElem?_eq_none h'] at h
def Aft (w : World) : World → Prop := fun w' => ∃ u, w' = after w u
theorem aft_iff {w w' : World} : Aft w w' ↔ Later w w' :=
 ⟨fun ⟨u, h⟩ => by rw [h]; exact after_later w u, fun h => ⟨w', (after_of h).symm⟩⟩
section
variable {P : Program} {ops : Array Oper} {Q : Exit → Act → World → Prop} {md : Region.Mode}
def readerKind (o : Oper) : Bool :=
 match o.op with
 | .move _ | .assign _ | .pick .. | .build .. | .load .. | .binOp .. | .unOp .. | .convert .. | .slice .. | .fieldAddr .. | .field .. | .indexAddr .. | .index .. | .lookup .. | .extract .. | .makeInterface .. | .makeFunc .. => true
 | _ => false
theorem Sem_bind_value {α : Type} {s : Sem α} {f : α → Value} {w w' : World} {n : Next} (h : (do pure (Next.value (f (← s))) : Sem Next).run P w = .ok n w') : ∃ v, n = .value v := by
 simp only [Sem.run_bind] at h
 generalize s.run P w = r at h
 cases r with
 | ok x w'' => simp at h; exact ⟨f x, h.1.symm⟩
 | halt x w'' => simp at h
theorem reader_value {o : Oper} (ho : readerKind o = true) {ρ : Operand → Value} {w w' : World} {n : Next} (h : (execOp ρ o).run P w = .ok n w') : ∃ v, n = .value v := by
 unfold readerKind at ho
 unfold execOp at h
 generalize o.op = op at *
 cases op <;> simp only [Bool.false_eq_true] at ho <;> simp only at h <;> first | exact Sem_bind_value (f := fun x => x) h | exact Sem_bind_value h | (simp at h; exact ⟨_, h.1.symm⟩)
theorem reader_quiet {o : Oper} (ho : readerKind o = true) {a : Act} {C : World → Prop} {w : World} {v : Value} (h : o.quietAt P a C w v) : (execOp a.eval o).run P w = .ok (.value v) w := by
 unfold Oper.quietAt at h
 generalize hr : (execOp a.eval o).run P w = r at h
 cases r with
 | ok n w' =>
  obtain ⟨u, rfl⟩ := reader_value ho hr
  simp only [Oper.quietUpon] at h
  rw [h.1, h.2]
 | halt x w' => simp only [Oper.quietUpon] at h
def Past (t : Nat) (l : Array Bool) : Prop := ∀ j, j ≤ t → l.getD j false = true
theorem Past.set {t : Nat} {l : Array Bool} (h : Past t l) (i : Nat) : Past t (l.setIfInBounds i true) := fun j hj => getD_set_true (h j hj)
def wpAnyT (P : Program) (md : Region.Mode) (ops : Array Oper) (Q : Exit → Act → World → Prop) (C : World → Prop) (t : Nat) : Nat → Array Bool → Act → World → Prop
 | 0, listed, a, w => Region.ready md ops listed = [] ∧ Q .normal a w
 | fuel + 1, listed, a, w =>
  (Region.ready md ops listed = [] → Q .normal a w) ∧
  ∀ i ∈ Region.ready md ops listed, wpOp P ops Q i (fun a' w' => (Past t (listed.setIfInBounds i true) ∨ C w') ∧ wpAnyT P md ops Q C t fuel (listed.setIfInBounds i true) a' w') a w
theorem wpAny_of_T {C : World → Prop} {t : Nat} : ∀ (fuel : Nat) (listed : Array Bool) (a : Act) (w : World), wpAnyT P md ops Q C t fuel listed a w → wpAny P md ops Q fuel listed a w
 | 0, _, _, _, h => h
 | fuel + 1, _, _, _, h => ⟨h.1, fun i hi => wpOp_mono (fun a' w' h' => wpAny_of_T fuel _ a' w' h'.2) (h.2 i hi)⟩
theorem wpAnyT_mono {C C' : World → Prop} {t : Nat} (hC : ∀ w, C w → C' w) : ∀ (fuel : Nat) (listed : Array Bool) (a : Act) (w : World), wpAnyT P md ops Q C t fuel listed a w → wpAnyT P md ops Q C' t fuel listed a w
 | 0, _, _, _, h => h
 | fuel + 1, _, _, _, h => ⟨h.1, fun i hi => wpOp_mono (fun a' w' h' => ⟨h'.1.imp id (hC w'), wpAnyT_mono hC fuel _ a' w' h'.2⟩) (h.2 i hi)⟩
theorem wpAnyT_first {C : World → Prop} {t i : Nat} {oi : Oper} {v : Value} (hi : ops[i]? = some oi) (hwt : ∀ ot, ops[t]? = some ot → ∃ e ∈ ot.after, Region.binds md e = true ∧ e.on = i) (hsel : ∀ (j : Nat) (o : Oper) cs b, ops[j]? = some o → o.op ≠ .select cs b)
  (hQ : ∀ c a w, Q (.panic c) (a.put oi.dst v) w → Q (.panic c) a w) :
  ∀ (fuel : Nat) (listed : Array Bool) (a : Act) (w : World),
   (∀ j oj, ops[j]? = some oj → j ≠ i → listed.getD j true = false → (∀ e ∈ oj.after, Region.binds md e = true → e.on ≠ i) → oi.apart ops oj = true) →
   i ∈ Region.ready md ops listed → listed.getD t false = false → YieldsIf P ops C oi v a → C w →
   wpAnyT P md ops Q C t fuel (listed.setIfInBounds i true) (a.put oi.dst v) w → wpAnyT P md ops Q C t (fuel + 1) listed a w := by
 intro fuel
 induction fuel with
 | zero =>
  intro listed a w _ hr _ hy hS H
  refine ⟨fun h => (by rw [h] at hr; cases hr), fun j hj => ?_⟩
  by_cases hji : j = i
  ·subst hji; exact hy.wpOp hi hS ⟨.inr hS, H⟩
  ·have := ready_mono hj hji
   rw [H.1] at this
   cases this
 | succ fuel ih =>
  intro listed a w hfree hr ht hy hS H
  refine ⟨fun h => (by rw [h] at hr; cases hr), fun j hj => ?_⟩
  by_cases hji : j = i
  ·subst hji; exact hy.wpOp hi hS ⟨.inr hS, H⟩
  ·have h1 := H.2 j (ready_mono hj hji)
   obtain ⟨hjun, oj, hoj, hall⟩ := mem_ready.1 hj
   have hiun : listed.getD i true = false := (mem_ready.1 hr).1
   have hiun' : (listed.setIfInBounds j true).getD i false = false := by
    rw [getD_set_ne false hji]
    rcases Nat.lt_or_ge i listed.size with h' | h'
    ·simp [h'] at hiun ⊢; exact hiun
    ·simp [Array.getElem?_eq_none h'] at hiun
   have hnot : ∀ e ∈ oj.after, Region.binds md e = true → e.on ≠ i := fun e he hb heq => by
    have h1 := hall e he hb
    rw [heq] at h1
    rcases Nat.lt_or_ge i listed.size with h' | h'
    ·simp [h'] at hiun h1; rw [hiun] at h1; cases h1
    ·simp [Array.getElem?_eq_none h'] at h1
   have h2 := wpOp_putIf hoj (hfree j oj hoj hji hjun hnot) (fun cs b => hsel i oi cs b hi) (fun cs b => hsel j oj cs b hoj) hQ hy h1
   have hfree' : ∀ k ok, ops[k]? = some ok → k ≠ i → (listed.setIfInBounds j true).getD k true = false →
     (∀ e ∈ ok.after, Region.binds md e = true → e.on ≠ i) → oi.apart ops ok = true := fun k ok hk hki hun hno => by
    refine hfree k ok hk hki ?_ hno
    by_cases hjk : j = k
    ·subst hjk; exact hjun
    ·rw [getD_set_ne true hjk] at hun; exact hun
   have hjt : j ≠ t := fun e => by
    subst e
    obtain ⟨e, he, hb, ho⟩ := hwt oj hoj
    exact hnot e he hb ho
   have hit : i ≠ t := fun e => by
    subst e
    obtain ⟨e, he, hb, ho⟩ := hwt oi hi
    obtain ⟨_, o', ho', hall'⟩ := mem_ready.1 hr
    rw [hi] at ho'
    cases ho'
    have := hall' e he hb
    rw [ho] at this
    rw [this] at ht
    cases ht
   refine wpOp_mono (fun a' w' h3 => ?_) h2
   have hC' : C w' := by
    refine h3.2.1.resolve_left fun hp => ?_
    have := hp t (Nat.le_refl t)
    rw [getD_set_ne false hjt, getD_set_ne false hit, ht] at this
    cases this
   have ht' : (listed.setIfInBounds j true).getD t false = false := by rw [getD_set_ne false hjt]; exact ht
   refine ⟨.inr hC', ih (listed.setIfInBounds j true) a' w' hfree' (ready_mono hr (Ne.symm hji)) ht' h3.1 hC' ?_⟩
   rw [Array.setIfInBounds_comm _ _ hji]
   exact h3.2.2
inductive Plan where
 | done (last : List Nat)
 | one (row : List Nat) (i : Nat) (ri : Plan)
 | two (row : List Nat) (i : Nat) (ri : Plan) (j : Nat) (rj : Plan)
 | three (row : List Nat) (i : Nat) (ri : Plan) (j : Nat) (rj : Plan) (k : Nat) (rk : Plan)
def pick (ops : Array Oper) : List Nat → List Oper
 | [] => []
 | i :: l => (ops[i]?).toList ++ pick ops l
theorem pick_nil : pick ops [] = [] := rfl
theorem pick_cons (i : Nat) (l : List Nat) : pick ops (i :: l) = (ops[i]?).toList ++ pick ops l := rfl
theorem toList_some_append {α : Type} (x : α) (l : List α) : (some x).toList ++ l = x :: l := rfl
def stagePost (Q : Exit → Act → World → Prop) (R : Act → World → Prop) : Exit → Act → World → Prop
 | .normal, a, w => R a w
 | e, a, w => Q e a w
def wpPlan (P : Program) (ops : Array Oper) (t : Nat) (Q : Exit → Act → World → Prop) : Plan → Act → World → Prop
 | .done last, a, w => wpQuiet P ops (Aft w) (fun a' => Q .normal a' w) (pick ops last) a
 | .one l i ri, a, w =>
  wpQuiet P ops (Aft w) (fun a' => wpList P ops (stagePost Q fun a'' w'' => (i < t → Later w w'') ∧ wpPlan P ops t Q ri a'' w'') (pick ops [i]) a' w) (pick ops l) a
 | .two l i ri j rj, a, w =>
  wpQuiet P ops (Aft w) (fun a' => wpList P ops (stagePost Q fun a'' w'' => (i < t → Later w w'') ∧ wpPlan P ops t Q ri a'' w'') (pick ops [i]) a' w ∧
   wpList P ops (stagePost Q fun a'' w'' => (j < t → Later w w'') ∧ wpPlan P ops t Q rj a'' w'') (pick ops [j]) a' w) (pick ops l) a
 | .three l i ri j rj k rk, a, w =>
  wpQuiet P ops (Aft w) (fun a' => wpList P ops (stagePost Q fun a'' w'' => (i < t → Later w w'') ∧ wpPlan P ops t Q ri a'' w'') (pick ops [i]) a' w ∧
   wpList P ops (stagePost Q fun a'' w'' => (j < t → Later w w'') ∧ wpPlan P ops t Q rj a'' w'') (pick ops [j]) a' w ∧
   wpList P ops (stagePost Q fun a'' w'' => (k < t → Later w w'') ∧ wpPlan P ops t Q rk a'' w'') (pick ops [k]) a' w) (pick ops l) a
def okRow (md : Region.Mode) (ops : Array Oper) (t : Nat) : List Nat → Array Bool → Bool
 | [], _ => true
 | i :: l, listed =>
  ((Region.ready md ops listed).contains i && Region.free md ops listed i && decide (i < ops.size) && (match ops[i]? with | some o => readerKind o | none => false) &&
   (match ops[t]? with | some ot => ot.after.any (fun e => Region.binds md e && e.on == i) | none => true) && !listed.getD t false) && okRow md ops t l (listed.setIfInBounds i true)
def setAll (l : List Nat) (listed : Array Bool) : Array Bool := l.foldl (fun x i => x.setIfInBounds i true) listed
def okTail (md : Region.Mode) (ops : Array Oper) : List Nat → Array Bool → Bool
 | [], listed => Region.ready md ops listed == []
 | i :: l, listed => Region.ready md ops listed == [i] && (match ops[i]? with | some o => readerKind o | none => false) && okTail md ops l (listed.setIfInBounds i true)
def okEff (t : Nat) (l : List Nat) (i : Nat) (listed : Array Bool) : Bool :=
 decide (i < t) || (List.range (t + 1)).all (fun j => (setAll (l ++ [i]) listed).getD j false)
def okPlan (md : Region.Mode) (ops : Array Oper) (t : Nat) : Plan → Array Bool → Bool
 | .done last, listed => okTail md ops last listed || (okRow md ops t last listed && Region.ready md ops (setAll last listed) == [])
 | .one l i ri, listed => okRow md ops t l listed && (Region.ready md ops (setAll l listed) == [i]) && okEff t l i listed && okPlan md ops t ri (setAll (l ++ [i]) listed)
 | .two l i ri j rj, listed => okRow md ops t l listed && (Region.ready md ops (setAll l listed) == [i, j]) && okEff t l i listed && okPlan md ops t ri (setAll (l ++ [i]) listed) &&
   okEff t l j listed && okPlan md ops t rj (setAll (l ++ [j]) listed)
 | .three l i ri j rj k rk, listed => okRow md ops t l listed && (Region.ready md ops (setAll l listed) == [i, j, k]) && okEff t l i listed && okPlan md ops t ri (setAll (l ++ [i]) listed) &&
   okEff t l j listed && okPlan md ops t rj (setAll (l ++ [j]) listed) && okEff t l k listed && okPlan md ops t rk (setAll (l ++ [k]) listed)
def Plan.has (n : Nat) : Plan → Bool
 | .done last => last.length == n
 | .one l _ ri => decide (l.length + 1 ≤ n) && ri.has (n - (l.length + 1))
 | .two l _ ri _ rj => decide (l.length + 1 ≤ n) && ri.has (n - (l.length + 1)) && rj.has (n - (l.length + 1))
 | .three l _ ri _ rj _ rk => decide (l.length + 1 ≤ n) && ri.has (n - (l.length + 1)) && rj.has (n - (l.length + 1)) && rk.has (n - (l.length + 1))
theorem quiet_yields {o : Oper} (ho : readerKind o = true) {a : Act} {w : World} {K : Act → Prop} (hw : Region.wanted o (yielded ops a.tmps) = true) (h : o.quiet P a (Aft w) K) :
  ∃ v, YieldsIf P ops (Later w) o v a ∧ K (a.put o.dst v) := by
 obtain ⟨v, h1, h2⟩ := h
 exact ⟨v, .inl ⟨hw, fun w' hw' => reader_quiet ho (h1 w' (aft_iff.2 hw'))⟩, h2⟩
theorem wpQuiet_head {o : Oper} (ho : readerKind o = true) {a : Act} {w : World} {K : Act → Prop} {l : List Oper} (h : wpQuiet P ops (Aft w) K (o :: l) a) :
  ∃ v, YieldsIf P ops (Later w) o v a ∧ wpQuiet P ops (Aft w) K l (a.put o.dst v) := by
 by_cases hw : Region.wanted o (yielded ops a.tmps) = true
 ·simp only [wpQuiet, hw, if_true] at h
  exact quiet_yields ho hw h
 ·simp only [wpQuiet, hw] at h
  exact ⟨undef, .inr ⟨by simpa using hw, rfl⟩, h⟩
theorem run_row {t : Nat} {w : World} {K : Act → Prop} {f : Nat} (hs : Region.noSelect ops = true) (hQ : ∀ c a d v w, Q (.panic c) (Act.put a d v) w → Q (.panic c) a w) :
  ∀ (l : List Nat) (listed : Array Bool) (a : Act), okRow md ops t l listed = true → wpQuiet P ops (Aft w) K (pick ops l) a →
   (∀ a', K a' → wpAnyT P md ops Q (Later w) t f (setAll l listed) a' w) → wpAnyT P md ops Q (Later w) t (l.length + f) listed a w
 | [], listed, a, _, h, hk => by simpa [setAll] using hk a h
 | i :: l, listed, a, hb, h, hk => by
  simp only [okRow, Bool.and_eq_true, decide_eq_true_eq] at hb
  obtain ⟨⟨⟨⟨⟨⟨hr, hf⟩, hlt⟩, hk1⟩, hw1⟩, ht⟩, hb'⟩ := hb
  obtain ⟨o, ho⟩ : ∃ o, ops[i]? = some o := ⟨_, Array.getElem?_eq_getElem hlt⟩
  simp only [ho] at hk1
  have hp : pick ops (i :: l) = o :: pick ops l := by simp [pick, ho]
  rw [hp] at h
  obtain ⟨v, hy, h'⟩ := wpQuiet_head hk1 h
  have ih := run_row hs hQ l (listed.setIfInBounds i true) _ hb' h' (by simpa [setAll] using hk)
  have := wpAnyT_first (C := Later w) (t := t) (fuel := l.length + f) ho (fun ot hot => by
    simp only [hot] at hw1
    obtain ⟨e, he, hb⟩ := Array.any_eq_true'.1 hw1
    simp only [Bool.and_eq_true, beq_iff_eq] at hb
    exact ⟨e, he, hb.1, hb.2⟩) (Region.noSelect_spec hs) (fun c a w => hQ c a _ v w) listed a w (Region.free_spec ho hf) (by simpa using hr) (by simpa using ht) hy (Later.refl w) ih
  simpa [Nat.add_right_comm] using this
theorem wpAnyT_past {C C' : World → Prop} {t : Nat} : ∀ (fuel : Nat) (listed : Array Bool) (a : Act) (w : World), Past t listed → wpAnyT P md ops Q C t fuel listed a w → wpAnyT P md ops Q C' t fuel listed a w
 | 0, _, _, _, _, h => h
 | fuel + 1, _, _, _, hp, h => ⟨h.1, fun i hi => wpOp_mono (fun a' w' h' => ⟨.inl (hp.set i), wpAnyT_past fuel _ a' w' (hp.set i) h'.2⟩) (h.2 i hi)⟩
theorem letsOut_stage {R : Act → World → Prop} (h : LetsOut (stagePost Q R)) : LetsOut Q := h
theorem wp_of_stage {o : Oper} {a : Act} {w : World} {K : Act → World → Prop} {R : Act → World → Prop} (h : o.wp P a w K (stagePost Q R)) : o.wp P a w K Q := by
 unfold Oper.wp at *
 generalize (execOp a.eval o).run P w = r at *
 cases r with
 | ok n w' =>
  cases n <;> simp only [Oper.upon] at h ⊢ <;>
   first
    | exact h
    | exact Calls.mono h (fun e w'' he => by cases e <;> exact he)
 | halt x w' => cases x <;> simp only [Oper.upon] at h ⊢ <;> exact h
theorem run_one {i : Nat} {a : Act} {w : World} {C : World → Prop} {t f : Nat} {listed : Array Bool} {R : Act → World → Prop} (hi : i ∈ Region.ready md ops listed)
  (h : wpList P ops (stagePost Q R) (pick ops [i]) a w) (hR : ∀ a' w', R a' w' → (Past t (listed.setIfInBounds i true) ∨ C w') ∧ wpAnyT P md ops Q C t f (listed.setIfInBounds i true) a' w') :
  wpOp P ops Q i (fun a' w' => (Past t (listed.setIfInBounds i true) ∨ C w') ∧ wpAnyT P md ops Q C t f (listed.setIfInBounds i true) a' w') a w := by
 obtain ⟨_, o, ho, _⟩ := mem_ready.1 hi
 have hp : pick ops [i] = [o] := by simp [pick, ho]
 rw [hp] at h
 unfold wpOp
 simp only [ho]
 simp only [wpList] at h
 split
 ·rename_i hw
  simp only [hw, if_true] at h
  rcases h with h | ⟨h1, h2⟩
  ·exact .inl (wp_of_stage (Oper.wp_mono (fun a' w' h' => hR a' w' h') h))
  ·exact .inr ⟨h1, letsOut_stage h2⟩
 ·rename_i hw
  simp only [hw] at h
  exact hR _ _ h
theorem eff_next {i : Nat} {t f : Nat} {l : List Nat} {listed : Array Bool} {w : World} {R : Act → World → Prop} (hp : okEff t l i listed = true)
  (ih : ∀ a'' w'', R a'' w'' → wpAnyT P md ops Q (Later w'') t f (setAll (l ++ [i]) listed) a'' w'') (a'' : Act) (w'' : World) (h : (i < t → Later w w'') ∧ R a'' w'') :
  (Past t ((setAll l listed).setIfInBounds i true) ∨ Later w w'') ∧ wpAnyT P md ops Q (Later w) t f ((setAll l listed).setIfInBounds i true) a'' w'' := by
 have e1 : setAll (l ++ [i]) listed = (setAll l listed).setIfInBounds i true := by simp [setAll]
 have ih' := ih a'' w'' h.2
 unfold okEff at hp
 rw [e1] at ih' hp
 simp only [Bool.or_eq_true, decide_eq_true_eq, List.all_eq_true, List.mem_range] at hp
 rcases hp with hp | hp
 ·exact ⟨.inr (h.1 hp), wpAnyT_mono (fun x hx => (h.1 hp).trans hx) _ _ _ _ ih'⟩
 ·have hpast : Past t ((setAll l listed).setIfInBounds i true) := fun j hj => hp j (by omega)
  exact ⟨.inl hpast, wpAnyT_past _ _ _ _ hpast ih'⟩
theorem run_tail {w : World} {K : Act → Prop} {C : World → Prop} {t : Nat} (hC : C w) :
  ∀ (l : List Nat) (listed : Array Bool) (a : Act), okTail md ops l listed = true → wpQuiet P ops (Aft w) K (pick ops l) a → (∀ a', K a' → Q .normal a' w) → wpAnyT P md ops Q C t l.length listed a w
 | [], listed, a, hb, h, hk => ⟨by simpa [okTail] using hb, hk a h⟩
 | i :: l, listed, a, hb, h, hk => by
  simp only [okTail, Bool.and_eq_true, beq_iff_eq] at hb
  obtain ⟨⟨hr, hk1⟩, hb'⟩ := hb
  obtain ⟨_, o, ho, _⟩ := mem_ready.1 (show i ∈ Region.ready md ops listed by rw [hr]; simp)
  simp only [ho] at hk1
  have hp : pick ops (i :: l) = o :: pick ops l := by simp [pick, ho]
  rw [hp] at h
  obtain ⟨v, hy, h'⟩ := wpQuiet_head hk1 h
  have ih := run_tail (t := t) hC l (listed.setIfInBounds i true) _ hb' h' hk
  show wpAnyT P md ops Q C t (l.length + 1) listed a w
  unfold wpAnyT
  refine ⟨fun h0 => (by rw [h0] at hr; cases hr), fun j hj => ?_⟩
  rw [hr] at hj
  obtain rfl : j = i := by simpa using hj
  exact hy.wpOp ho (Later.refl w) ⟨.inr hC, ih⟩
theorem run_plan {t : Nat} (hs : Region.noSelect ops = true) (hQ : ∀ c a d v w, Q (.panic c) (Act.put a d v) w → Q (.panic c) a w) :
  ∀ (p : Plan) (n : Nat) (listed : Array Bool) (a : Act) (w : World), p.has n = true → okPlan md ops t p listed = true → wpPlan P ops t Q p a w → wpAnyT P md ops Q (Later w) t n listed a w
 | .done last, n, listed, a, w, hn, hb, h => by
  simp only [okPlan, Bool.or_eq_true, Bool.and_eq_true, beq_iff_eq] at hb
  simp only [Plan.has, beq_iff_eq] at hn
  simp only [wpPlan] at h
  subst hn
  rcases hb with hb | ⟨hb, he⟩
  ·exact run_tail (C := Later w) (t := t) (Later.refl w) last listed a hb h (fun a' h => h)
  ·exact run_row (f := 0) hs hQ last listed a hb h (fun a' h => ⟨he, h⟩)
 | .one l i ri, n, listed, a, w, hn, hb, h => by
  simp only [okPlan, Bool.and_eq_true, beq_iff_eq] at hb
  simp only [Plan.has, Bool.and_eq_true, decide_eq_true_eq] at hn
  obtain ⟨⟨⟨hrow, hr⟩, hp⟩, hi⟩ := hb
  obtain ⟨hn1, hn2⟩ := hn
  simp only [wpPlan] at h
  have := run_row (f := n - (l.length + 1) + 1) hs hQ l listed a hrow h (fun a' ha' => by
   unfold wpAnyT
   refine ⟨fun h0 => (by rw [h0] at hr; cases hr), fun j hj => ?_⟩
   have hj0 := hj
   rw [hr] at hj
   obtain rfl : j = i := by simpa using hj
   exact run_one hj0 ha' (eff_next hp (fun a'' w'' h' => run_plan hs hQ ri _ _ a'' w'' hn2 hi h')))
  rwa [show l.length + (n - (l.length + 1) + 1) = n by omega] at this
 | .two l i ri j rj, n, listed, a, w, hn, hb, h => by
  simp only [okPlan, Bool.and_eq_true, beq_iff_eq] at hb
  simp only [Plan.has, Bool.and_eq_true, decide_eq_true_eq] at hn
  obtain ⟨⟨⟨⟨⟨hrow, hr⟩, hp⟩, hi⟩, hp2⟩, hi2⟩ := hb
  obtain ⟨⟨hn1, hn2⟩, hn3⟩ := hn
  simp only [wpPlan] at h
  have := run_row (f := n - (l.length + 1) + 1) hs hQ l listed a hrow h (fun a' ha' => by
   unfold wpAnyT
   refine ⟨fun h0 => (by rw [h0] at hr; cases hr), fun k hk => ?_⟩
   have hk0 := hk
   rw [hr] at hk
   simp only [List.mem_cons, List.not_mem_nil, or_false] at hk
   rcases hk with rfl | rfl
   ·exact run_one hk0 ha'.1 (eff_next hp (fun a'' w'' h' => run_plan hs hQ ri _ _ a'' w'' hn2 hi h'))
   ·exact run_one hk0 ha'.2 (eff_next hp2 (fun a'' w'' h' => run_plan hs hQ rj _ _ a'' w'' hn3 hi2 h')))
  rwa [show l.length + (n - (l.length + 1) + 1) = n by omega] at this
 | .three l i ri j rj m rm, n, listed, a, w, hn, hb, h => by
  simp only [okPlan, Bool.and_eq_true, beq_iff_eq] at hb
  simp only [Plan.has, Bool.and_eq_true, decide_eq_true_eq] at hn
  obtain ⟨⟨⟨⟨⟨⟨⟨hrow, hr⟩, hp⟩, hi⟩, hp2⟩, hi2⟩, hp3⟩, hi3⟩ := hb
  obtain ⟨⟨⟨hn1, hn2⟩, hn3⟩, hn4⟩ := hn
  simp only [wpPlan] at h
  have := run_row (f := n - (l.length + 1) + 1) hs hQ l listed a hrow h (fun a' ha' => by
   unfold wpAnyT
   refine ⟨fun h0 => (by rw [h0] at hr; cases hr), fun k hk => ?_⟩
   have hk0 := hk
   rw [hr] at hk
   simp only [List.mem_cons, List.not_mem_nil, or_false] at hk
   rcases hk with rfl | rfl | rfl
   ·exact run_one hk0 ha'.1 (eff_next hp (fun a'' w'' h' => run_plan hs hQ ri _ _ a'' w'' hn2 hi h'))
   ·exact run_one hk0 ha'.2.1 (eff_next hp2 (fun a'' w'' h' => run_plan hs hQ rj _ _ a'' w'' hn3 hi2 h'))
   ·exact run_one hk0 ha'.2.2 (eff_next hp3 (fun a'' w'' h' => run_plan hs hQ rm _ _ a'' w'' hn4 hi3 h')))
  rwa [show l.length + (n - (l.length + 1) + 1) = n by omega] at this
theorem wp_region_plan {id : Nat} {a : Act} {w : World} (t : Nat) (p : Plan) (hm : P.follows .mixedOrders = true)
  (hB : (Region.noSelect ops && p.has ops.size && okPlan .any ops t p (Array.replicate ops.size false)) = true)
  (hQ : ∀ c a d v w, Q (.panic c) (Act.put a d v) w → Q (.panic c) a w) (h : wpPlan P ops t Q p a w.drew) : (Code.region id ops true).wp P Q a w := by
 simp only [Bool.and_eq_true] at hB
 obtain ⟨⟨hs, hn⟩, hb⟩ := hB
 exact wp_region_any hm (wpAny_of_T (C := Later w.drew) (t := t) _ _ _ _ (run_plan hs hQ p _ _ a _ hn hb h))
theorem plan_done {t : Nat} {a : Act} {w : World} {last : List Nat}
  (h : ∀ K : Act → Prop, (∀ a', Q .normal a' w → K a') → wpQuiet P ops (fun x => ∃ u, x = after w u) K (pick ops last) a) : wpPlan P ops t Q (.done last) a w := by
 exact h _ (fun _ h => h)
def Behind (P : Program) (ops : Array Oper) (t i : Nat) (Q : Exit → Act → World → Prop) (w : World) (p : Plan) : Exit → Act → World → Prop :=
 stagePost Q fun a'' w'' => (i < t → Later w w'') ∧ wpPlan P ops t Q p a'' w''
theorem plan_one {t i : Nat} {a : Act} {w : World} {l : List Nat} {p : Plan} {o : Oper} (ho : ops[i]? = some o)
  (h : ∀ K : Act → Prop, (∀ a', wpList P ops (Behind P ops t i Q w p) [o] a' w → K a') → wpQuiet P ops (fun x => ∃ u, x = after w u) K (pick ops l) a) : wpPlan P ops t Q (.one l i p) a w := by
 refine h _ (fun a' h' => ?_)
 have hp : pick ops [i] = [o] := by simp [pick, ho]
 rw [hp]; exact h'
theorem plan_two {t i j : Nat} {a : Act} {w : World} {l : List Nat} {p q : Plan} {o u : Oper} (ho : ops[i]? = some o) (hu : ops[j]? = some u)
  (h : ∀ K : Act → Prop, (∀ a', (wpList P ops (Behind P ops t i Q w p) [o] a' w ∧ wpList P ops (Behind P ops t j Q w q) [u] a' w) → K a') → wpQuiet P ops (fun x => ∃ u, x = after w u) K (pick ops l) a) : wpPlan P ops t Q (.two l i p j q) a w := by
 refine h _ (fun a' h' => ?_)
 have hp : pick ops [i] = [o] := by simp [pick, ho]
 have hq : pick ops [j] = [u] := by simp [pick, hu]
 rw [hp, hq]; exact h'
theorem plan_three {t i j k : Nat} {a : Act} {w : World} {l : List Nat} {p q r : Plan} {o u x : Oper} (ho : ops[i]? = some o) (hu : ops[j]? = some u) (hx : ops[k]? = some x)
  (h : ∀ K : Act → Prop, (∀ a', (wpList P ops (Behind P ops t i Q w p) [o] a' w ∧ wpList P ops (Behind P ops t j Q w q) [u] a' w ∧ wpList P ops (Behind P ops t k Q w r) [x] a' w) → K a') → wpQuiet P ops (fun x => ∃ u, x = after w u) K (pick ops l) a) :
  wpPlan P ops t Q (.three l i p j q k r) a w := by
 refine h _ (fun a' h' => ?_)
 have hp : pick ops [i] = [o] := by simp [pick, ho]
 have hq : pick ops [j] = [u] := by simp [pick, hu]
 have hr : pick ops [k] = [x] := by simp [pick, hx]
 rw [hp, hq, hr]; exact h'
theorem behind {t i : Nat} {a : Act} {w w' : World} {p : Plan} (h1 : Later w w') (h2 : wpPlan P ops t Q p a w') : Behind P ops t i Q w p .normal a w' := ⟨fun _ => h1, h2⟩
theorem behind_store {t i : Nat} {a : Act} {w w' : World} {p : Plan} (h1 : ¬ i < t) (h2 : wpPlan P ops t Q p a w') : Behind P ops t i Q w p .normal a w' := ⟨fun h => absurd h h1, h2⟩
theorem at_list {l : List Oper} {a : Act} {w : World} (h : wpList P ops Q l a w) : wpList P ops Q l a w := h
end
end Go.Proofs.YtkjabiabeemfhaaGreatDoor
end
section
namespace Go.Proofs.YtkjabiabeemfhaaGreatDoor
open Go.RowKit
set_option maxRecDepth 100000
theorem ret_int {k : IntKind} {a b : Int} (h : a = b) : Ending.returned (.int k a) = .returned (.int k b) := by rw [h]
theorem bcell {W w1 : World} (hb : Later W w1) : (∀ b o, b < W.heap.size → w1.cell? ⟨b, o, none⟩ = W.cell? ⟨b, o, none⟩) ∧ (∀ b o, b < W.heap.size → w1.frozen? ⟨b, o, none⟩ = W.frozen? ⟨b, o, none⟩) :=
 ⟨fun b o h => hb.cell (p := ⟨b, o, none⟩) h, fun b o h => hb.frozen (p := ⟨b, o, none⟩) h⟩
theorem Later.setCell {a b : World} (h : Later a b) {p : Addr} (hp : a.heap.size ≤ p.block) (u : Value) : Later a (b.setCell p u) := Below.setCell h hp u
theorem Later.size {a b : World} (h : Later a b) : a.heap.size ≤ b.heap.size := Below.size h
theorem Later.ofdrew {a b : World} (h : Later a b) : Later a.drew b := ⟨h.os, h.tape, h.output, Later.size (a := a) h, h.block⟩
theorem Later.undrew {a b : World} (h : Later a.drew b) : Later a b := ⟨h.os, h.tape, h.output, Later.size (a := a.drew) h, h.block⟩
theorem Later.unalloc {a b : World} {o : Obj} (h : Later (a.alloc o) b) : Later a b := Later.trans ((Later.refl _).alloc _) h
theorem own_block {W w' : World} (h : Later W w') {k : Nat} {A : Array Value} {t : TypeId} (hk : W.heap[k]? = some (.cells A t (0, 0))) : (∀ i, w'.cell? ⟨k, i, none⟩ = A[i]?) ∧ (∀ i, i < A.size → w'.frozen? ⟨k, i, none⟩ = false) := by
 have hlt : k < W.heap.size := by
  rcases Nat.lt_or_ge k W.heap.size with h' | h'
  ·exact h'
  ·simp [Array.getElem?_eq_none h'] at hk
 have e : w'.heap[k]? = some (.cells A t (0, 0)) := (h.block k hlt).trans hk
 refine ⟨fun i => ?_, fun i hi => ?_⟩
 ·simp [World.cell?, e]
 ·simp [World.frozen?, e]
theorem own1 {w w' : World} {A : Array Value} {ta : TypeId} (h : Later (w.alloc (.cells A ta)) w') :
  (∀ i, w'.cell? ⟨w.heap.size, i, none⟩ = A[i]?) ∧ (∀ i, i < A.size → w'.frozen? ⟨w.heap.size, i, none⟩ = false) ∧ w.heap.size + 1 ≤ w'.heap.size := by
 have h0 := own_block (A := A) (t := ta) (k := w.heap.size) h (MapKept.heap_alloc w _).1
 exact ⟨h0.1, h0.2, by simpa using h.size⟩
theorem use_of {p q : Prop} (h : p) (k : p → q) : q := k h
theorem use_own1 {w w' : World} {A : Array Value} {ta : TypeId} {q : Prop} (h : Later (w.alloc (.cells A ta)) w')
  (k : (∀ i, w'.cell? ⟨w.heap.size, i, none⟩ = A[i]?) → (∀ i, i < A.size → w'.frozen? ⟨w.heap.size, i, none⟩ = false) → w.heap.size < w'.heap.size → q) : q := k (own1 h).1 (own1 h).2.1 (own1 h).2.2
theorem own2 {w w' : World} {A B : Array Value} {ta tb : TypeId} (h : Later ((w.alloc (.cells A ta)).alloc (.cells B tb)) w') :
  (∀ i, w'.cell? ⟨w.heap.size, i, none⟩ = A[i]?) ∧ (∀ i, i < A.size → w'.frozen? ⟨w.heap.size, i, none⟩ = false) ∧
  (∀ i, w'.cell? ⟨w.heap.size + 1, i, none⟩ = B[i]?) ∧ (∀ i, i < B.size → w'.frozen? ⟨w.heap.size + 1, i, none⟩ = false) ∧ w.heap.size + 1 + 1 ≤ w'.heap.size := by
 have h1 := own1 h
 have h0 := own1 (w := w) (w' := w') (A := A) (ta := ta) (Later.trans ((Later.refl _).alloc _) h)
 simp only [World.size_alloc] at h1
 exact ⟨h0.1, h0.2.1, h1⟩
theorem own3 {w w' : World} {A B C : Array Value} {ta tb tc : TypeId} (h : Later (((w.alloc (.cells A ta)).alloc (.cells B tb)).alloc (.cells C tc)) w') :
  (∀ i, w'.cell? ⟨w.heap.size, i, none⟩ = A[i]?) ∧ (∀ i, i < A.size → w'.frozen? ⟨w.heap.size, i, none⟩ = false) ∧
  (∀ i, w'.cell? ⟨w.heap.size + 1, i, none⟩ = B[i]?) ∧ (∀ i, i < B.size → w'.frozen? ⟨w.heap.size + 1, i, none⟩ = false) ∧
  (∀ i, w'.cell? ⟨w.heap.size + 1 + 1, i, none⟩ = C[i]?) ∧ (∀ i, i < C.size → w'.frozen? ⟨w.heap.size + 1 + 1, i, none⟩ = false) ∧ w.heap.size + 1 + 1 + 1 ≤ w'.heap.size := by
 have h1 := own2 h
 have h0 := own1 (w := w) (w' := w') (A := A) (ta := ta) (Later.trans (((Later.refl _).alloc _).alloc _) h)
 simp only [World.size_alloc] at h1
 exact ⟨h0.1, h0.2.1, h1⟩
theorem wp_opaque {P : Program} {c : Code} {Q : Exit → Act → World → Prop} {a : Act} {W : World} (h : ∀ W', Later W W' → c.wp P Q a W') : c.wp P Q a W := h W (Later.refl W)
theorem set_own {w : World} {p k : Nat} {A : Array Value} (hc : ∀ i, w.cell? ⟨p, i, none⟩ = A[i]?) (x : Value) (hk : k < A.size) (i : Nat) : (w.setCell ⟨p, k, none⟩ x).cell? ⟨p, i, none⟩ = (A.setIfInBounds k x)[i]? := by
 by_cases h : k = i
 ·subst h
  rw [World.cell?_setCell_same' _ _ _ (by rw [hc]; simp [hk])]
  simp [hk]
 ·rw [World.cell?_setCell_other _ _ _ _ (fun e => h (by cases e; rfl)), hc]
  simp [Array.getElem?_setIfInBounds_ne h]
theorem set_far {w : World} {p b k : Nat} {A : Array Value} (hc : ∀ i, w.cell? ⟨b, i, none⟩ = A[i]?) (x : Value) (hb : p ≠ b) (i : Nat) : (w.setCell ⟨p, k, none⟩ x).cell? ⟨b, i, none⟩ = A[i]? := by
 rw [World.cell?_setCell_other _ _ _ _ (fun e => hb (by cases e; rfl)), hc]
theorem set_frozen {w : World} {p b k : Nat} {n : Nat} (hf : ∀ i, i < n → w.frozen? ⟨b, i, none⟩ = false) (x : Value) (i : Nat) (hi : i < n) : (w.setCell ⟨p, k, none⟩ x).frozen? ⟨b, i, none⟩ = false := by
 rw [World.frozen?_setCell, hf i hi]
def hi64 (M : Int) : Int := M / 18446744073709551616
def lo64 (M : Int) : Int := M % 18446744073709551616
def bor (x y : Int) : Int := if x < y then 1 else 0
theorem lo_bd (M : Int) : 0 ≤ lo64 M ∧ lo64 M ≤ 18446744073709551615 := by unfold lo64; omega
theorem hi_bd (M : Int) (h0 : 0 ≤ M) (h1 : M ≤ 340282366920938463463374607431768211455) : 0 ≤ hi64 M ∧ hi64 M ≤ 18446744073709551615 := by unfold hi64; omega
theorem bor_bd (x y : Int) : 0 ≤ bor x y ∧ bor x y ≤ 1 := by unfold bor; split <;> omega
theorem mul_bd {a b : Int} (a0 : 0 ≤ a) (a1 : a ≤ 18446744073709551615) (b0 : 0 ≤ b) (b1 : b ≤ 18446744073709551615) : 0 ≤ a * b ∧ a * b ≤ 340282366920938463426481119284349108225 :=
 ⟨Int.mul_nonneg a0 b0, Int.le_trans (Int.mul_le_mul a1 b1 b0 (by omega)) (by omega)⟩
theorem add64 (x y c : Int) (hx : 0 ≤ x) (hx' : x ≤ 18446744073709551615) (hy : 0 ≤ y) (hy' : y ≤ 18446744073709551615) (hc0 : 0 ≤ c) (hc : c ≤ 1) (w : World) : (callFunc 115 #[.int .u64 x, .int .u64 y, .int .u64 c]).run Tryz.prog w =
  .ok (.value (.tuple #[.int .u64 (lo64 (x + y + c)), .int .u64 (hi64 (x + y + c))])) w := by
 obtain ⟨x, rfl⟩ := Int.eq_ofNat_of_zero_le hx
 obtain ⟨y, rfl⟩ := Int.eq_ofNat_of_zero_le hy
 obtain ⟨c, rfl⟩ := Int.eq_ofNat_of_zero_le hc0
 rw [run_callFunc_extern Tryz.func115 (by kernel_rfl) (by kernel_rfl) (by kernel_rfl) (e := add64Entry) (by kernel_rfl), run_add64 x y c (by omega) (by omega) (by omega) (by omega)]
 simp only [Result.andThen]
 congr 5 <;> (unfold hi64 <;> unfold lo64 <;> omega)
theorem sub64 (x y b : Int) (hx : 0 ≤ x) (hx' : x ≤ 18446744073709551615) (hy : 0 ≤ y) (hy' : y ≤ 18446744073709551615) (hb0 : 0 ≤ b) (hb : b ≤ 1) (w : World) : (callFunc 195 #[.int .u64 x, .int .u64 y, .int .u64 b]).run Tryz.prog w =
  .ok (.value (.tuple #[.int .u64 (lo64 (x - y - b)), .int .u64 (bor x (y + b))])) w := by
 obtain ⟨x, rfl⟩ := Int.eq_ofNat_of_zero_le hx
 obtain ⟨y, rfl⟩ := Int.eq_ofNat_of_zero_le hy
 obtain ⟨b, rfl⟩ := Int.eq_ofNat_of_zero_le hb0
 have e1 : (((x + 18446744073709551616 - y - b) % 18446744073709551616 : Nat) : Int) = lo64 ((x : Int) - y - b) := by unfold lo64; omega
 have e2 : ((if x < y + b then 1 else 0 : Nat) : Int) = bor (x : Int) (y + b) := by unfold bor; split <;> split <;> omega
 rw [← e1, ← e2]
 rw [run_callFunc_extern Tryz.func195 (by kernel_rfl) (by kernel_rfl) (by kernel_rfl) (e := sub64Entry) (by kernel_rfl), run_sub64 x y b (by omega)]
 rfl
theorem add64_0 (x y : Int) (hx : 0 ≤ x) (hx' : x ≤ 18446744073709551615) (hy : 0 ≤ y) (hy' : y ≤ 18446744073709551615) (w : World) : (callFunc 115 #[.int .u64 x, .int .u64 y, .int .u64 0]).run Tryz.prog w =
  .ok (.value (.tuple #[.int .u64 (lo64 (x + y)), .int .u64 (hi64 (x + y))])) w := by
 simpa using add64 x y 0 hx hx' hy hy' (Int.le_refl 0) (by decide) w
theorem sub64_0 (x y : Int) (hx : 0 ≤ x) (hx' : x ≤ 18446744073709551615) (hy : 0 ≤ y) (hy' : y ≤ 18446744073709551615) (w : World) : (callFunc 195 #[.int .u64 x, .int .u64 y, .int .u64 0]).run Tryz.prog w =
  .ok (.value (.tuple #[.int .u64 (lo64 (x - y)), .int .u64 (bor x y)])) w := by
 simpa using sub64 x y 0 hx hx' hy hy' (Int.le_refl 0) (by decide) w
theorem mul64 (x y : Int) (w : World) (hx : 0 ≤ x) (hx' : x ≤ 18446744073709551615) (hy : 0 ≤ y) (hy' : y ≤ 18446744073709551615) :
  Calls Tryz.prog 202 #[.int .u64 x, .int .u64 y] w fun e w' => e = .returned (.tuple #[.int .u64 (hi64 (x * y)), .int .u64 (lo64 (x * y))]) ∧ w' = w := by
 obtain ⟨x, rfl⟩ := Int.eq_ofNat_of_zero_le hx
 obtain ⟨y, rfl⟩ := Int.eq_ofNat_of_zero_le hy
 refine (Tryz.bits_Mul64 x y (by omega) (by omega) w).mono fun e w' ⟨he, hw⟩ => ⟨?_, hw⟩
 rw [he]
 have e1 : hi64 ((x : Int) * y) = ((x * y / 18446744073709551616 : Nat) : Int) := by unfold hi64; simp
 have e2 : lo64 ((x : Int) * y) = ((x * y % 18446744073709551616 : Nat) : Int) := by unfold lo64; simp
 rw [e1, e2]
def two64 (h l : Int) : Int := h * 18446744073709551616 + l
theorem two_parts (M : Int) : two64 (hi64 M) (lo64 M) = M := by unfold two64 hi64 lo64; omega
theorem div64 (hi lo y : Int) (w : World) (h1 : 0 ≤ hi) (h2 : hi < y) (h3 : 0 ≤ lo) (h4 : lo ≤ 18446744073709551615) (h5 : y ≤ 18446744073709551615) :
  Calls Tryz.prog 203 #[.int .u64 hi, .int .u64 lo, .int .u64 y] w fun e w' => e = .returned (.tuple #[.int .u64 (two64 hi lo / y), .int .u64 (two64 hi lo % y)]) ∧ Later w w' := by
 refine (div64_any hi lo y w h1 h2 h3 h4 h5).mono fun e w' ⟨he, n, hw⟩ => ⟨he, ?_⟩
 rw [hw]; exact (Later.refl w).drewN n
theorem dq_bd {hi lo y : Int} (h1 : 0 ≤ hi) (h2 : hi < y) (h3 : 0 ≤ lo) (h4 : lo ≤ 18446744073709551615) : 0 ≤ two64 hi lo / y ∧ two64 hi lo / y ≤ 18446744073709551615 ∧ 0 ≤ two64 hi lo % y ∧ two64 hi lo % y < y := by
 have hy : 0 < y := by omega
 unfold two64
 refine ⟨Int.ediv_nonneg (by omega) (by omega), ?_, Int.emod_nonneg _ (by omega), Int.emod_lt_of_pos _ hy⟩
 have : (hi * 18446744073709551616 + lo) / y < 18446744073709551616 := Int.ediv_lt_of_lt_mul hy (by omega)
 omega
theorem Later.grown {w w1 w2 : World} {row : Option Nat} (h : Later w w1) (hg : w1.grownBy w2 row) (hr : ∀ k, row = some k → w.heap.size ≤ k) : Later w w2 := by
 have hs := Later.size h
 refine ⟨hg.os.trans h.os, hg.tape.trans h.tape, hg.output.trans h.output, ?_, fun k hk => ?_⟩
 ·have := hg.size; omega
 ·exact (hg.block k (by omega) (fun e => by have := hr k e.symm; omega)).trans (h.block k hk)
theorem zq1 (w : World) : Later w w := Later.refl w
theorem zq2 {a b : World} (h : Later a b) : Later a.drew b := Later.ofdrew h
theorem zq4 {a b : World} (h : Later a b) {p : Addr} (hp : a.heap.size ≤ p.block) (u : Value) : Later a (b.setCell p u) := Later.setCell h hp u
theorem zq5 {a b : World} (h : Later a b) (o : Obj) : Later a (b.alloc o) := Later.alloc h o
theorem zq6 {a b : World} (h : Later a b) (n : Nat) : Later a (b.drewN n) := Later.drewN h n
theorem zq7 {a b : World} (h : Later a b) : Later a b.drew := Later.drew h
theorem zq8 {a b c : World} (h : Later a b) (k : Later b c) : Later a c := Later.trans h k
theorem zq9 : (∀ (ops : Array Oper) i l, pick ops (i :: l) = (ops[i]?).toList ++ pick ops l) ∧ (∀ ops : Array Oper, pick ops [] = []) ∧ (∀ (x : Oper) l, (some x).toList ++ l = x :: l) ∧ (∀ (xs : List Oper) (i : Nat), xs.toArray[i]? = xs[i]?) ∧ (∀ (x : Oper) xs, (x :: xs)[0]? = some x) ∧ (∀ (x : Oper) xs (i : Nat), (x :: xs)[i + 1]? = xs[i]?) :=
 ⟨fun _ _ _ => rfl, fun _ => rfl, fun _ _ => rfl, fun _ _ => List.getElem?_toArray, fun _ _ => List.getElem?_cons_zero, fun _ _ _ => List.getElem?_cons_succ⟩
theorem zq10 : (∀ (w : World) (p : Addr) (v : Value), (w.setCell p v).heap.size = w.heap.size) ∧ (∀ (w : World) (o : Obj), (w.alloc o).heap.size = w.heap.size + 1) ∧ (∀ (w : World) (n : Nat), (w.drewN n).heap = w.heap) :=
 ⟨fun _ _ _ => World.size_setCell .., fun _ _ => World.size_alloc .., fun _ _ => World.heap_drewN ..⟩
end Go.Proofs.YtkjabiabeemfhaaGreatDoor
end
