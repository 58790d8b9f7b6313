/- A region that draws its order, once more: what neither reads nor writes memory may come up at whatever time, behind a store too. -/
import Derived.Test.YtkjabiabeemfhaaGreatDoorZ2
set_option linter.all false
set_option linter.all false
section
namespace Go.Proofs.YtkjabiabeemfhaaGreatDoor
namespace U
open Go Go.RowKit
section
variable {P : Program} {ops : Array Oper} {Q : Exit → Act → World → Prop} {md : Region.Mode}
def pureKind (o : Oper) : Bool :=
 match o.op with
 | .move _ | .assign _ | .extract .. | .pick .. => true
 | _ => false
theorem pure_value {o : Oper} (ho : pureKind o = true) {ρ : Operand → Value} {w : World} {v : Value} (h : (execOp ρ o).run P w = .ok (.value v) w) (w' : World) : (execOp ρ o).run P w' = .ok (.value v) w' := by
 unfold pureKind at ho
 unfold execOp at h ⊢
 generalize o.op = op at *
 cases op <;> simp only [Bool.false_eq_true] at ho <;> simp only at h ⊢
 case move x => simp at h ⊢; exact h
 case assign x => simp at h ⊢; exact h
 case pick c a b =>
  generalize ρ c = cv at *
  cases cv <;> simp [asBool] at h ⊢ <;> first | exact h | skip
 case extract x i =>
  generalize ρ x = xv at *
  unfold Instr.extract at h ⊢
  cases xv <;> simp at h ⊢
  rename_i vs
  generalize vs[i]? = ov at *
  cases ov <;> simp at h ⊢ <;> exact h
def Past (t : Nat) (l : Array Bool) : Prop := l.getD t false = true
theorem Past.set {t : Nat} {l : Array Bool} (h : Past t l) (i : Nat) : Past t (l.setIfInBounds i true) := getD_set_true h
def wpAnyT (P : Program) (md : Region.Mode) (ops : Array Oper) (Q : Exit → Act → World → Prop) (C : World → Prop) (t : Nat) : Nat → Array Bool → Act → World → Prop
 | 0, listed, a, w => Region.ready md ops listed = [] ∧ Q .normal a w
 | fuel + 1, listed, a, w =>
  (Region.ready md ops listed = [] → Q .normal a w) ∧
  ∀ i ∈ Region.ready md ops listed, wpOp P ops Q i (fun a' w' => (Past t (listed.setIfInBounds i true) ∨ C w') ∧ wpAnyT P md ops Q C t fuel (listed.setIfInBounds i true) a' w') a w
theorem wpAny_of_T {C : World → Prop} {t : Nat} : ∀ (fuel : Nat) (listed : Array Bool) (a : Act) (w : World), wpAnyT P md ops Q C t fuel listed a w → wpAny P md ops Q fuel listed a w
 | 0, _, _, _, h => h
 | fuel + 1, _, _, _, h => ⟨h.1, fun i hi => wpOp_mono (fun a' w' h' => wpAny_of_T fuel _ a' w' h'.2) (h.2 i hi)⟩
theorem wpAnyT_mono {C C' : World → Prop} {t : Nat} (hC : ∀ w, C w → C' w) : ∀ (fuel : Nat) (listed : Array Bool) (a : Act) (w : World), wpAnyT P md ops Q C t fuel listed a w → wpAnyT P md ops Q C' t fuel listed a w
 | 0, _, _, _, h => h
 | fuel + 1, _, _, _, h => ⟨h.1, fun i hi => wpOp_mono (fun a' w' h' => ⟨h'.1.imp id (hC w'), wpAnyT_mono hC fuel _ a' w' h'.2⟩) (h.2 i hi)⟩
theorem wpAnyT_first {C : World → Prop} {t i : Nat} {oi : Oper} {v : Value} (hi : ops[i]? = some oi) (hwt : ∀ ot, ops[t]? = some ot → ∃ e ∈ ot.after, Region.binds md e = true ∧ e.on = i) (hsel : ∀ (j : Nat) (o : Oper) cs b, ops[j]? = some o → o.op ≠ .select cs b)
  (hQ : ∀ c a w, Q (.panic c) (a.put oi.dst v) w → Q (.panic c) a w) :
  ∀ (fuel : Nat) (listed : Array Bool) (a : Act) (w : World),
   (∀ j oj, ops[j]? = some oj → j ≠ i → listed.getD j true = false → (∀ e ∈ oj.after, Region.binds md e = true → e.on ≠ i) → oi.apart ops oj = true) →
   i ∈ Region.ready md ops listed → listed.getD t false = false → YieldsIf P ops C oi v a → C w →
   wpAnyT P md ops Q C t fuel (listed.setIfInBounds i true) (a.put oi.dst v) w → wpAnyT P md ops Q C t (fuel + 1) listed a w := by
 intro fuel
 induction fuel with
 | zero =>
  intro listed a w _ hr _ hy hS H
  refine ⟨fun h => (by rw [h] at hr; cases hr), fun j hj => ?_⟩
  by_cases hji : j = i
  ·subst hji; exact hy.wpOp hi hS ⟨.inr hS, H⟩
  ·have := ready_mono hj hji
   rw [H.1] at this
   cases this
 | succ fuel ih =>
  intro listed a w hfree hr ht hy hS H
  refine ⟨fun h => (by rw [h] at hr; cases hr), fun j hj => ?_⟩
  by_cases hji : j = i
  ·subst hji; exact hy.wpOp hi hS ⟨.inr hS, H⟩
  ·have h1 := H.2 j (ready_mono hj hji)
   obtain ⟨hjun, oj, hoj, hall⟩ := mem_ready.1 hj
   have hiun : listed.getD i true = false := (mem_ready.1 hr).1
   have hiun' : (listed.setIfInBounds j true).getD i false = false := by
    rw [getD_set_ne false hji]
    rcases Nat.lt_or_ge i listed.size with h' | h'
    ·simp [h'] at hiun ⊢; exact hiun
    ·simp [Array.getElem?_eq_none h'] at hiun
   have hnot : ∀ e ∈ oj.after, Region.binds md e = true → e.on ≠ i := fun e he hb heq => by
    have h1 := hall e he hb
    rw [heq] at h1
    rcases Nat.lt_or_ge i listed.size with h' | h'
    ·simp [h'] at hiun h1; rw [hiun] at h1; cases h1
    ·simp [Array.getElem?_eq_none h'] at h1
   have h2 := wpOp_putIf hoj (hfree j oj hoj hji hjun hnot) (fun cs b => hsel i oi cs b hi) (fun cs b => hsel j oj cs b hoj) hQ hy h1
   have hfree' : ∀ k ok, ops[k]? = some ok → k ≠ i → (listed.setIfInBounds j true).getD k true = false →
     (∀ e ∈ ok.after, Region.binds md e = true → e.on ≠ i) → oi.apart ops ok = true := fun k ok hk hki hun hno => by
    refine hfree k ok hk hki ?_ hno
    by_cases hjk : j = k
    ·subst hjk; exact hjun
    ·rw [getD_set_ne true hjk] at hun; exact hun
   have hjt : j ≠ t := fun e => by
    subst e
    obtain ⟨e, he, hb, ho⟩ := hwt oj hoj
    exact hnot e he hb ho
   have hit : i ≠ t := fun e => by
    subst e
    obtain ⟨e, he, hb, ho⟩ := hwt oi hi
    obtain ⟨_, o', ho', hall'⟩ := mem_ready.1 hr
    rw [hi] at ho'
    cases ho'
    have := hall' e he hb
    rw [ho] at this
    rw [this] at ht
    cases ht
   refine wpOp_mono (fun a' w' h3 => ?_) h2
   have hC' : C w' := by
    refine h3.2.1.resolve_left fun hp => ?_
    have := hp
    unfold Past at this
    rw [getD_set_ne false hjt, getD_set_ne false hit, ht] at this
    cases this
   have ht' : (listed.setIfInBounds j true).getD t false = false := by rw [getD_set_ne false hjt]; exact ht
   refine ⟨.inr hC', ih (listed.setIfInBounds j true) a' w' hfree' (ready_mono hr (Ne.symm hji)) ht' h3.1 hC' ?_⟩
   rw [Array.setIfInBounds_comm _ _ hji]
   exact h3.2.2
theorem wpAnyT_pure {C : World → Prop} {t i : Nat} {oi : Oper} {v : Value} (hi : ops[i]? = some oi) (hit : i ≠ t) (hsel : ∀ (j : Nat) (o : Oper) cs b, ops[j]? = some o → o.op ≠ .select cs b)
  (hQ : ∀ c a w, Q (.panic c) (a.put oi.dst v) w → Q (.panic c) a w) :
  ∀ (fuel : Nat) (listed : Array Bool) (a : Act) (w : World),
   (∀ j oj, ops[j]? = some oj → j ≠ i → listed.getD j true = false → (∀ e ∈ oj.after, Region.binds md e = true → e.on ≠ i) → oi.apart ops oj = true) →
   i ∈ Region.ready md ops listed → YieldsIf P ops (fun _ => True) oi v a → (Past t (listed.setIfInBounds i true) ∨ C w) →
   wpAnyT P md ops Q C t fuel (listed.setIfInBounds i true) (a.put oi.dst v) w → wpAnyT P md ops Q C t (fuel + 1) listed a w := by
 intro fuel
 induction fuel with
 | zero =>
  intro listed a w _ hr hy hS H
  refine ⟨fun h => (by rw [h] at hr; cases hr), fun j hj => ?_⟩
  by_cases hji : j = i
  ·subst hji; exact hy.wpOp hi trivial ⟨hS, H⟩
  ·have := ready_mono hj hji
   rw [H.1] at this
   cases this
 | succ fuel ih =>
  intro listed a w hfree hr hy hS H
  refine ⟨fun h => (by rw [h] at hr; cases hr), fun j hj => ?_⟩
  by_cases hji : j = i
  ·subst hji; exact hy.wpOp hi trivial ⟨hS, H⟩
  ·have h1 := H.2 j (ready_mono hj hji)
   obtain ⟨hjun, oj, hoj, hall⟩ := mem_ready.1 hj
   have hiun : listed.getD i true = false := (mem_ready.1 hr).1
   have hiun' : (listed.setIfInBounds j true).getD i false = false := by
    rw [getD_set_ne false hji]
    rcases Nat.lt_or_ge i listed.size with h' | h'
    ·simp [h'] at hiun ⊢; exact hiun
    ·simp [Array.getElem?_eq_none h'] at hiun
   have hnot : ∀ e ∈ oj.after, Region.binds md e = true → e.on ≠ i := fun e he hb heq => by
    have h1 := hall e he hb
    rw [heq] at h1
    rcases Nat.lt_or_ge i listed.size with h' | h'
    ·simp [h'] at hiun h1; rw [hiun] at h1; cases h1
    ·simp [Array.getElem?_eq_none h'] at h1
   have h2 := wpOp_putIf hoj (hfree j oj hoj hji hjun hnot) (fun cs b => hsel i oi cs b hi) (fun cs b => hsel j oj cs b hoj) hQ hy h1
   have hfree' : ∀ k ok, ops[k]? = some ok → k ≠ i → (listed.setIfInBounds j true).getD k true = false →
     (∀ e ∈ ok.after, Region.binds md e = true → e.on ≠ i) → oi.apart ops ok = true := fun k ok hk hki hun hno => by
    refine hfree k ok hk hki ?_ hno
    by_cases hjk : j = k
    ·subst hjk; exact hjun
    ·rw [getD_set_ne true hjk] at hun; exact hun
   refine wpOp_mono (fun a' w' h3 => ?_) h2
   have hst : ∀ l : Array Bool, Past t (l.setIfInBounds i true) → Past t l := fun l hp => by
    unfold Past at hp ⊢
    rw [getD_set_ne false hit] at hp
    exact hp
   have hC' : Past t (listed.setIfInBounds j true) ∨ C w' := by
    refine h3.2.1.imp (fun hp => ?_) id
    rw [Array.setIfInBounds_comm _ _ (Ne.symm hji)] at hp
    exact hst _ hp
   refine ⟨hC', ih (listed.setIfInBounds j true) a' w' hfree' (ready_mono hr (Ne.symm hji)) h3.1 (hC'.imp (fun hp => hp.set i) id) ?_⟩
   rw [Array.setIfInBounds_comm _ _ hji]
   exact h3.2.2
def okRow (md : Region.Mode) (ops : Array Oper) (t : Nat) : List Nat → Array Bool → Bool
 | [], _ => true
 | i :: l, listed =>
  ((Region.ready md ops listed).contains i && Region.free md ops listed i && decide (i < ops.size) && (match ops[i]? with | some o => readerKind o | none => false) &&
   (((match ops[t]? with | some ot => ot.after.any (fun e => Region.binds md e && e.on == i) | none => true) && !listed.getD t false) || ((match ops[i]? with | some o => pureKind o | none => false) && i != t))) && okRow md ops t l (listed.setIfInBounds i true)
def okEff (t : Nat) (l : List Nat) (i : Nat) (listed : Array Bool) : Bool :=
 decide (i < t) || (setAll (l ++ [i]) listed).getD t false
def okPlan (md : Region.Mode) (ops : Array Oper) (t : Nat) : Plan → Array Bool → Bool
 | .done last, listed => okTail md ops last listed || (okRow md ops t last listed && Region.ready md ops (setAll last listed) == [])
 | .one l i ri, listed => okRow md ops t l listed && (Region.ready md ops (setAll l listed) == [i]) && okEff t l i listed && okPlan md ops t ri (setAll (l ++ [i]) listed)
 | .two l i ri j rj, listed => okRow md ops t l listed && (Region.ready md ops (setAll l listed) == [i, j]) && okEff t l i listed && okPlan md ops t ri (setAll (l ++ [i]) listed) &&
   okEff t l j listed && okPlan md ops t rj (setAll (l ++ [j]) listed)
 | .three l i ri j rj k rk, listed => okRow md ops t l listed && (Region.ready md ops (setAll l listed) == [i, j, k]) && okEff t l i listed && okPlan md ops t ri (setAll (l ++ [i]) listed) &&
   okEff t l j listed && okPlan md ops t rj (setAll (l ++ [j]) listed) && okEff t l k listed && okPlan md ops t rk (setAll (l ++ [k]) listed)
theorem run_row {t : Nat} {w : World} {K : Act → Prop} {f : Nat} (hs : Region.noSelect ops = true) (hQ : ∀ c a d v w, Q (.panic c) (Act.put a d v) w → Q (.panic c) a w) :
  ∀ (l : List Nat) (listed : Array Bool) (a : Act), okRow md ops t l listed = true → wpQuiet P ops (Aft w) K (pick ops l) a →
   (∀ a', K a' → wpAnyT P md ops Q (Later w) t f (setAll l listed) a' w) → wpAnyT P md ops Q (Later w) t (l.length + f) listed a w
 | [], listed, a, _, h, hk => by simpa [setAll] using hk a h
 | i :: l, listed, a, hb, h, hk => by
  simp only [okRow, Bool.and_eq_true, decide_eq_true_eq] at hb
  obtain ⟨⟨⟨⟨⟨hr, hf⟩, hlt⟩, hk1⟩, hcase⟩, hb'⟩ := hb
  obtain ⟨o, ho⟩ : ∃ o, ops[i]? = some o := ⟨_, Array.getElem?_eq_getElem hlt⟩
  simp only [ho] at hk1
  have hp : pick ops (i :: l) = o :: pick ops l := by simp [pick, ho]
  rw [hp] at h
  obtain ⟨v, hy, h'⟩ := wpQuiet_head hk1 h
  have ih := run_row hs hQ l (listed.setIfInBounds i true) _ hb' h' (by simpa [setAll] using hk)
  simp only [Bool.or_eq_true, Bool.and_eq_true] at hcase
  rcases hcase with ⟨hw1, ht⟩ | ⟨hpk, hit⟩
  ·have := wpAnyT_first (C := Later w) (t := t) (fuel := l.length + f) ho (fun ot hot => by
     simp only [hot] at hw1
     obtain ⟨e, he, hb⟩ := Array.any_eq_true'.1 hw1
     simp only [Bool.and_eq_true, beq_iff_eq] at hb
     exact ⟨e, he, hb.1, hb.2⟩) (Region.noSelect_spec hs) (fun c a w => hQ c a _ v w) listed a w (Region.free_spec ho hf) (by simpa using hr) (by simpa using ht) hy (Later.refl w) ih
   simpa [Nat.add_right_comm] using this
  ·simp only [ho] at hpk
   have hy' : YieldsIf P ops (fun _ => True) o v a := hy.imp (fun ⟨h1, h2⟩ => ⟨h1, fun w' _ => pure_value hpk (h2 w (Later.refl w)) w'⟩) id
   have := wpAnyT_pure (C := Later w) (t := t) (fuel := l.length + f) ho (by simpa using hit) (Region.noSelect_spec hs) (fun c a w => hQ c a _ v w) listed a w (Region.free_spec ho hf) (by simpa using hr) hy' (.inr (Later.refl w)) ih
   simpa [Nat.add_right_comm] using this
theorem wpAnyT_past {C C' : World → Prop} {t : Nat} : ∀ (fuel : Nat) (listed : Array Bool) (a : Act) (w : World), Past t listed → wpAnyT P md ops Q C t fuel listed a w → wpAnyT P md ops Q C' t fuel listed a w
 | 0, _, _, _, _, h => h
 | fuel + 1, _, _, _, hp, h => ⟨h.1, fun i hi => wpOp_mono (fun a' w' h' => ⟨.inl (hp.set i), wpAnyT_past fuel _ a' w' (hp.set i) h'.2⟩) (h.2 i hi)⟩
theorem run_one {i : Nat} {a : Act} {w : World} {C : World → Prop} {t f : Nat} {listed : Array Bool} {R : Act → World → Prop} (hi : i ∈ Region.ready md ops listed)
  (h : wpList P ops (stagePost Q R) (pick ops [i]) a w) (hR : ∀ a' w', R a' w' → (Past t (listed.setIfInBounds i true) ∨ C w') ∧ wpAnyT P md ops Q C t f (listed.setIfInBounds i true) a' w') :
  wpOp P ops Q i (fun a' w' => (Past t (listed.setIfInBounds i true) ∨ C w') ∧ wpAnyT P md ops Q C t f (listed.setIfInBounds i true) a' w') a w := by
 obtain ⟨_, o, ho, _⟩ := mem_ready.1 hi
 have hp : pick ops [i] = [o] := by simp [pick, ho]
 rw [hp] at h
 unfold wpOp
 simp only [ho]
 simp only [wpList] at h
 split
 ·rename_i hw
  simp only [hw, if_true] at h
  rcases h with h | ⟨h1, h2⟩
  ·exact .inl (wp_of_stage (Oper.wp_mono (fun a' w' h' => hR a' w' h') h))
  ·exact .inr ⟨h1, letsOut_stage h2⟩
 ·rename_i hw
  simp only [hw] at h
  exact hR _ _ h
theorem eff_next {i : Nat} {t f : Nat} {l : List Nat} {listed : Array Bool} {w : World} {R : Act → World → Prop} (hp : okEff t l i listed = true)
  (ih : ∀ a'' w'', R a'' w'' → wpAnyT P md ops Q (Later w'') t f (setAll (l ++ [i]) listed) a'' w'') (a'' : Act) (w'' : World) (h : (i < t → Later w w'') ∧ R a'' w'') :
  (Past t ((setAll l listed).setIfInBounds i true) ∨ Later w w'') ∧ wpAnyT P md ops Q (Later w) t f ((setAll l listed).setIfInBounds i true) a'' w'' := by
 have e1 : setAll (l ++ [i]) listed = (setAll l listed).setIfInBounds i true := by simp [setAll]
 have ih' := ih a'' w'' h.2
 unfold okEff at hp
 rw [e1] at ih' hp
 simp only [Bool.or_eq_true, decide_eq_true_eq] at hp
 rcases hp with hp | hp
 ·exact ⟨.inr (h.1 hp), wpAnyT_mono (fun x hx => (h.1 hp).trans hx) _ _ _ _ ih'⟩
 ·have hpast : Past t ((setAll l listed).setIfInBounds i true) := hp
  exact ⟨.inl hpast, wpAnyT_past _ _ _ _ hpast ih'⟩
theorem run_tail {w : World} {K : Act → Prop} {C : World → Prop} {t : Nat} (hC : C w) :
  ∀ (l : List Nat) (listed : Array Bool) (a : Act), okTail md ops l listed = true → wpQuiet P ops (Aft w) K (pick ops l) a → (∀ a', K a' → Q .normal a' w) → wpAnyT P md ops Q C t l.length listed a w
 | [], listed, a, hb, h, hk => ⟨by simpa [okTail] using hb, hk a h⟩
 | i :: l, listed, a, hb, h, hk => by
  simp only [okTail, Bool.and_eq_true, beq_iff_eq] at hb
  obtain ⟨⟨hr, hk1⟩, hb'⟩ := hb
  obtain ⟨_, o, ho, _⟩ := mem_ready.1 (show i ∈ Region.ready md ops listed by rw [hr]; simp)
  simp only [ho] at hk1
  have hp : pick ops (i :: l) = o :: pick ops l := by simp [pick, ho]
  rw [hp] at h
  obtain ⟨v, hy, h'⟩ := wpQuiet_head hk1 h
  have ih := run_tail (t := t) hC l (listed.setIfInBounds i true) _ hb' h' hk
  show wpAnyT P md ops Q C t (l.length + 1) listed a w
  unfold wpAnyT
  refine ⟨fun h0 => (by rw [h0] at hr; cases hr), fun j hj => ?_⟩
  rw [hr] at hj
  obtain rfl : j = i := by simpa using hj
  exact hy.wpOp ho (Later.refl w) ⟨.inr hC, ih⟩
theorem run_plan {t : Nat} (hs : Region.noSelect ops = true) (hQ : ∀ c a d v w, Q (.panic c) (Act.put a d v) w → Q (.panic c) a w) :
  ∀ (p : Plan) (n : Nat) (listed : Array Bool) (a : Act) (w : World), p.has n = true → okPlan md ops t p listed = true → wpPlan P ops t Q p a w → wpAnyT P md ops Q (Later w) t n listed a w
 | .done last, n, listed, a, w, hn, hb, h => by
  simp only [okPlan, Bool.or_eq_true, Bool.and_eq_true, beq_iff_eq] at hb
  simp only [Plan.has, beq_iff_eq] at hn
  simp only [wpPlan] at h
  subst hn
  rcases hb with hb | ⟨hb, he⟩
  ·exact run_tail (C := Later w) (t := t) (Later.refl w) last listed a hb h (fun a' h => h)
  ·exact run_row (f := 0) hs hQ last listed a hb h (fun a' h => ⟨he, h⟩)
 | .one l i ri, n, listed, a, w, hn, hb, h => by
  simp only [okPlan, Bool.and_eq_true, beq_iff_eq] at hb
  simp only [Plan.has, Bool.and_eq_true, decide_eq_true_eq] at hn
  obtain ⟨⟨⟨hrow, hr⟩, hp⟩, hi⟩ := hb
  obtain ⟨hn1, hn2⟩ := hn
  simp only [wpPlan] at h
  have := run_row (f := n - (l.length + 1) + 1) hs hQ l listed a hrow h (fun a' ha' => by
   unfold wpAnyT
   refine ⟨fun h0 => (by rw [h0] at hr; cases hr), fun j hj => ?_⟩
   have hj0 := hj
   rw [hr] at hj
   obtain rfl : j = i := by simpa using hj
   exact run_one hj0 ha' (eff_next hp (fun a'' w'' h' => run_plan hs hQ ri _ _ a'' w'' hn2 hi h')))
  rwa [show l.length + (n - (l.length + 1) + 1) = n by omega] at this
 | .two l i ri j rj, n, listed, a, w, hn, hb, h => by
  simp only [okPlan, Bool.and_eq_true, beq_iff_eq] at hb
  simp only [Plan.has, Bool.and_eq_true, decide_eq_true_eq] at hn
  obtain ⟨⟨⟨⟨⟨hrow, hr⟩, hp⟩, hi⟩, hp2⟩, hi2⟩ := hb
  obtain ⟨⟨hn1, hn2⟩, hn3⟩ := hn
  simp only [wpPlan] at h
  have := run_row (f := n - (l.length + 1) + 1) hs hQ l listed a hrow h (fun a' ha' => by
   unfold wpAnyT
   refine ⟨fun h0 => (by rw [h0] at hr; cases hr), fun k hk => ?_⟩
   have hk0 := hk
   rw [hr] at hk
   simp only [List.mem_cons, List.not_mem_nil, or_false] at hk
   rcases hk with rfl | rfl
   ·exact run_one hk0 ha'.1 (eff_next hp (fun a'' w'' h' => run_plan hs hQ ri _ _ a'' w'' hn2 hi h'))
   ·exact run_one hk0 ha'.2 (eff_next hp2 (fun a'' w'' h' => run_plan hs hQ rj _ _ a'' w'' hn3 hi2 h')))
  rwa [show l.length + (n - (l.length + 1) + 1) = n by omega] at this
 | .three l i ri j rj m rm, n, listed, a, w, hn, hb, h => by
  simp only [okPlan, Bool.and_eq_true, beq_iff_eq] at hb
  simp only [Plan.has, Bool.and_eq_true, decide_eq_true_eq] at hn
  obtain ⟨⟨⟨⟨⟨⟨⟨hrow, hr⟩, hp⟩, hi⟩, hp2⟩, hi2⟩, hp3⟩, hi3⟩ := hb
  obtain ⟨⟨⟨hn1, hn2⟩, hn3⟩, hn4⟩ := hn
  simp only [wpPlan] at h
  have := run_row (f := n - (l.length + 1) + 1) hs hQ l listed a hrow h (fun a' ha' => by
   unfold wpAnyT
   refine ⟨fun h0 => (by rw [h0] at hr; cases hr), fun k hk => ?_⟩
   have hk0 := hk
   rw [hr] at hk
   simp only [List.mem_cons, List.not_mem_nil, or_false] at hk
   rcases hk with rfl | rfl | rfl
   ·exact run_one hk0 ha'.1 (eff_next hp (fun a'' w'' h' => run_plan hs hQ ri _ _ a'' w'' hn2 hi h'))
   ·exact run_one hk0 ha'.2.1 (eff_next hp2 (fun a'' w'' h' => run_plan hs hQ rj _ _ a'' w'' hn3 hi2 h'))
   ·exact run_one hk0 ha'.2.2 (eff_next hp3 (fun a'' w'' h' => run_plan hs hQ rm _ _ a'' w'' hn4 hi3 h')))
  rwa [show l.length + (n - (l.length + 1) + 1) = n by omega] at this
theorem wp_region_plan {id : Nat} {a : Act} {w : World} (t : Nat) (p : Plan) (hm : P.follows .mixedOrders = true)
  (hB : (Region.noSelect ops && p.has ops.size && okPlan .any ops t p (Array.replicate ops.size false)) = true)
  (hQ : ∀ c a d v w, Q (.panic c) (Act.put a d v) w → Q (.panic c) a w) (h : wpPlan P ops t Q p a w.drew) : (Code.region id ops true).wp P Q a w := by
 simp only [Bool.and_eq_true] at hB
 obtain ⟨⟨hs, hn⟩, hb⟩ := hB
 exact wp_region_any hm (wpAny_of_T (C := Later w.drew) (t := t) _ _ _ _ (run_plan hs hQ p _ _ a _ hn hb h))
end
end U
end Go.Proofs.YtkjabiabeemfhaaGreatDoor
end
