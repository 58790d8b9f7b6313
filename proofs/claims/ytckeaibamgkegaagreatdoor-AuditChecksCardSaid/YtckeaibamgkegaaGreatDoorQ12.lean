/- periods: New, Span, Locked and what they call -/
import Derived.Test.YtckeaibamgkegaaGreatDoorQ11
import Derived.Test.YtckeaibamgkegaaGreatDoorQ3
set_option linter.all false
set_option linter.all false
section
/- A region that draws its order, a fourth time: as XRegionV, but what is behind the sealed operation may be more of them, and pure ones may come up whenever. -/
namespace Go.Proofs.YtckeaibamgkegaaGreatDoor
namespace W
open Go Go.RowKit
open Go.Proofs.YtckeaibamgkegaaGreatDoor.U (pureKind pure_reader pure_value)
open Go.Proofs.YtckeaibamgkegaaGreatDoor.V (Closed reachB reach_ready)
section
variable {P : Program} {ops : Array Oper} {Q : Exit → Act → World → Prop} {md : Region.Mode}

/-- The store that all loads wait for has come up. -/
def Past (t : Nat) (l : Array Bool) : Prop := l.getD t false = true

theorem Past.set {t : Nat} {l : Array Bool} (h : Past t l) (i : Nat) : Past t (l.setIfInBounds i true) := getD_set_true h

/-- Whatever order is picked from here on, and the world is of the class till index t has come up. -/
def wpAnyT (P : Program) (md : Region.Mode) (ops : Array Oper) (Q : Exit → Act → World → Prop) (C : World → Prop) (t : Nat) : Nat → Array Bool → Act → World → Prop
  | 0, listed, a, w => Region.ready md ops listed = [] ∧ Q .normal a w
  | fuel + 1, listed, a, w =>
    (Region.ready md ops listed = [] → Q .normal a w) ∧
    ∀ i ∈ Region.ready md ops listed, wpOp P ops Q i (fun a' w' => (Past t (listed.setIfInBounds i true) ∨ C w') ∧ wpAnyT P md ops Q C t fuel (listed.setIfInBounds i true) a' w') a w

theorem wpAny_of_T {C : World → Prop} {t : Nat} : ∀ (fuel : Nat) (listed : Array Bool) (a : Act) (w : World), wpAnyT P md ops Q C t fuel listed a w → wpAny P md ops Q fuel listed a w
  | 0, _, _, _, h => h
  | fuel + 1, _, _, _, h => ⟨h.1, fun i hi => wpOp_mono (fun a' w' h' => wpAny_of_T fuel _ a' w' h'.2) (h.2 i hi)⟩

theorem wpAnyT_mono {C C' : World → Prop} {t : Nat} (hC : ∀ w, C w → C' w) : ∀ (fuel : Nat) (listed : Array Bool) (a : Act) (w : World), wpAnyT P md ops Q C t fuel listed a w → wpAnyT P md ops Q C' t fuel listed a w
  | 0, _, _, _, h => h
  | fuel + 1, _, _, _, h => ⟨h.1, fun i hi => wpOp_mono (fun a' w' h' => ⟨h'.1.imp id (hC w'), wpAnyT_mono hC fuel _ a' w' h'.2⟩) (h.2 i hi)⟩

/-- A reader may be taken first. -/
theorem wpAnyT_first {C : World → Prop} {t i : Nat} {oi : Oper} {v : Value} (hi : ops[i]? = some oi) (hre : ∀ l', Closed md ops l' → t ∈ Region.ready md ops l' → l'.getD i false = true) (hsel : ∀ (j : Nat) (o : Oper) cs b, ops[j]? = some o → o.op ≠ .select cs b)
    (hQ : ∀ c a w, Q (.panic c) (a.put oi.dst v) w → Q (.panic c) a w) :
    ∀ (fuel : Nat) (listed : Array Bool) (a : Act) (w : World), Closed md ops listed →
      (∀ j oj, ops[j]? = some oj → j ≠ i → listed.getD j true = false → (∀ e ∈ oj.after, Region.binds md e = true → e.on ≠ i) → oi.apart ops oj = true) →
      i ∈ Region.ready md ops listed → listed.getD t false = false → YieldsIf P ops C oi v a → C w →
      wpAnyT P md ops Q C t fuel (listed.setIfInBounds i true) (a.put oi.dst v) w → wpAnyT P md ops Q C t (fuel + 1) listed a w := by
  intro fuel
  induction fuel with
  | zero =>
    intro listed a w _ _ hr _ hy hS H
    refine ⟨fun h => (by rw [h] at hr; cases hr), fun j hj => ?_⟩
    by_cases hji : j = i
    · subst hji; exact hy.wpOp hi hS ⟨.inr hS, H⟩
    · have := ready_mono hj hji
      rw [H.1] at this
      cases this
  | succ fuel ih =>
    intro listed a w hcl hfree hr ht hy hS H
    refine ⟨fun h => (by rw [h] at hr; cases hr), fun j hj => ?_⟩
    by_cases hji : j = i
    · subst hji; exact hy.wpOp hi hS ⟨.inr hS, H⟩
    · have h1 := H.2 j (ready_mono hj hji)
      obtain ⟨hjun, oj, hoj, hall⟩ := mem_ready.1 hj
      have hiun : listed.getD i true = false := (mem_ready.1 hr).1
      have hiun' : (listed.setIfInBounds j true).getD i false = false := by
        rw [getD_set_ne false hji]
        rcases Nat.lt_or_ge i listed.size with h' | h'
        · simp [h'] at hiun ⊢; exact hiun
        · simp [Array.getElem?_eq_none h'] at hiun
      have hnot : ∀ e ∈ oj.after, Region.binds md e = true → e.on ≠ i := fun e he hb heq => by
        have h1 := hall e he hb
        rw [heq] at h1
        rcases Nat.lt_or_ge i listed.size with h' | h'
        · simp [h'] at hiun h1; rw [hiun] at h1; cases h1
        · simp [Array.getElem?_eq_none h'] at h1
      have h2 := wpOp_putIf hoj (hfree j oj hoj hji hjun hnot) (fun cs b => hsel i oi cs b hi) (fun cs b => hsel j oj cs b hoj) hQ hy h1
      have hfree' : ∀ k ok, ops[k]? = some ok → k ≠ i → (listed.setIfInBounds j true).getD k true = false →
          (∀ e ∈ ok.after, Region.binds md e = true → e.on ≠ i) → oi.apart ops ok = true := fun k ok hk hki hun hno => by
        refine hfree k ok hk hki ?_ hno
        by_cases hjk : j = k
        · subst hjk; exact hjun
        · rw [getD_set_ne true hjk] at hun; exact hun
      have hjt : j ≠ t := fun e => by
        subst e
        have h1 := hre listed hcl hj
        rcases Nat.lt_or_ge i listed.size with h' | h'
        · simp [h'] at hiun h1; rw [hiun] at h1; cases h1
        · simp [Array.getElem?_eq_none h'] at h1
      have hit : i ≠ t := fun e => by
        subst e
        have h1 := hre listed hcl hr
        rw [h1] at ht
        cases ht
      refine wpOp_mono (fun a' w' h3 => ?_) h2
      have hC' : C w' := by
        refine h3.2.1.resolve_left fun hp => ?_
        have := hp
        unfold Past at this
        rw [getD_set_ne false hjt, getD_set_ne false hit, ht] at this
        cases this
      have ht' : (listed.setIfInBounds j true).getD t false = false := by rw [getD_set_ne false hjt]; exact ht
      refine ⟨.inr hC', ih (listed.setIfInBounds j true) a' w' (hcl.set hj) hfree' (ready_mono hr (Ne.symm hji)) ht' h3.1 hC' ?_⟩
      rw [Array.setIfInBounds_comm _ _ hji]
      exact h3.2.2

/-- A pure one may be taken first, whatever the others do. -/
theorem wpAnyT_pure {C : World → Prop} {t i : Nat} {oi : Oper} {v : Value} (hi : ops[i]? = some oi) (hit : i ≠ t) (hsel : ∀ (j : Nat) (o : Oper) cs b, ops[j]? = some o → o.op ≠ .select cs b)
    (hQ : ∀ c a w, Q (.panic c) (a.put oi.dst v) w → Q (.panic c) a w) :
    ∀ (fuel : Nat) (listed : Array Bool) (a : Act) (w : World),
      (∀ j oj, ops[j]? = some oj → j ≠ i → listed.getD j true = false → (∀ e ∈ oj.after, Region.binds md e = true → e.on ≠ i) → oi.apart ops oj = true) →
      i ∈ Region.ready md ops listed → YieldsIf P ops (fun _ => True) oi v a → (Past t (listed.setIfInBounds i true) ∨ C w) →
      wpAnyT P md ops Q C t fuel (listed.setIfInBounds i true) (a.put oi.dst v) w → wpAnyT P md ops Q C t (fuel + 1) listed a w := by
  intro fuel
  induction fuel with
  | zero =>
    intro listed a w _ hr hy hS H
    refine ⟨fun h => (by rw [h] at hr; cases hr), fun j hj => ?_⟩
    by_cases hji : j = i
    · subst hji; exact hy.wpOp hi trivial ⟨hS, H⟩
    · have := ready_mono hj hji
      rw [H.1] at this
      cases this
  | succ fuel ih =>
    intro listed a w hfree hr hy hS H
    refine ⟨fun h => (by rw [h] at hr; cases hr), fun j hj => ?_⟩
    by_cases hji : j = i
    · subst hji; exact hy.wpOp hi trivial ⟨hS, H⟩
    · have h1 := H.2 j (ready_mono hj hji)
      obtain ⟨hjun, oj, hoj, hall⟩ := mem_ready.1 hj
      have hiun : listed.getD i true = false := (mem_ready.1 hr).1
      have hiun' : (listed.setIfInBounds j true).getD i false = false := by
        rw [getD_set_ne false hji]
        rcases Nat.lt_or_ge i listed.size with h' | h'
        · simp [h'] at hiun ⊢; exact hiun
        · simp [Array.getElem?_eq_none h'] at hiun
      have hnot : ∀ e ∈ oj.after, Region.binds md e = true → e.on ≠ i := fun e he hb heq => by
        have h1 := hall e he hb
        rw [heq] at h1
        rcases Nat.lt_or_ge i listed.size with h' | h'
        · simp [h'] at hiun h1; rw [hiun] at h1; cases h1
        · simp [Array.getElem?_eq_none h'] at h1
      have h2 := wpOp_putIf hoj (hfree j oj hoj hji hjun hnot) (fun cs b => hsel i oi cs b hi) (fun cs b => hsel j oj cs b hoj) hQ hy h1
      have hfree' : ∀ k ok, ops[k]? = some ok → k ≠ i → (listed.setIfInBounds j true).getD k true = false →
          (∀ e ∈ ok.after, Region.binds md e = true → e.on ≠ i) → oi.apart ops ok = true := fun k ok hk hki hun hno => by
        refine hfree k ok hk hki ?_ hno
        by_cases hjk : j = k
        · subst hjk; exact hjun
        · rw [getD_set_ne true hjk] at hun; exact hun
      refine wpOp_mono (fun a' w' h3 => ?_) h2
      have hst : ∀ l : Array Bool, Past t (l.setIfInBounds i true) → Past t l := fun l hp => by
        unfold Past at hp ⊢
        rw [getD_set_ne false hit] at hp
        exact hp
      have hC' : Past t (listed.setIfInBounds j true) ∨ C w' := by
        refine h3.2.1.imp (fun hp => ?_) id
        rw [Array.setIfInBounds_comm _ _ (Ne.symm hji)] at hp
        exact hst _ hp
      refine ⟨hC', ih (listed.setIfInBounds j true) a' w' hfree' (ready_mono hr (Ne.symm hji)) h3.1 (hC'.imp (fun hp => hp.set i) id) ?_⟩
      rw [Array.setIfInBounds_comm _ _ hji]
      exact h3.2.2

/-- The Bool over the steps: of a row of readers. -/
def okRow (md : Region.Mode) (ops : Array Oper) (t : Nat) : List Nat → Array Bool → Bool
  | [], _ => true
  | i :: l, listed =>
    ((Region.ready md ops listed).contains i && Region.free md ops listed i && decide (i < ops.size) && (match ops[i]? with | some o => readerKind o | none => false) &&
      ((reachB md ops 12 t i && !listed.getD t false) || ((match ops[i]? with | some o => pureKind o | none => false) && i != t))) && okRow md ops t l (listed.setIfInBounds i true)
theorem closed_row {t : Nat} : ∀ (l : List Nat) (listed : Array Bool), Closed md ops listed → okRow md ops t l listed = true → Closed md ops (setAll l listed)
  | [], _, h, _ => h
  | i :: l, listed, h, hb => by
    simp only [okRow, Bool.and_eq_true] at hb
    exact closed_row l _ (h.set (by simpa using hb.1.1.1.1.1)) hb.2
theorem closed_next {t i : Nat} {l : List Nat} {listed : Array Bool} (h : Closed md ops listed) (hb : okRow md ops t l listed = true) (hi : i ∈ Region.ready md ops (setAll l listed)) : Closed md ops (setAll (l ++ [i]) listed) := by
  have e : setAll (l ++ [i]) listed = (setAll l listed).setIfInBounds i true := by simp [setAll]
  rw [e]
  exact (closed_row l listed h hb).set hi

def okEff (t : Nat) (l : List Nat) (i : Nat) (listed : Array Bool) : Bool :=
  decide (i < t) || (setAll (l ++ [i]) listed).getD t false

def okPlan (md : Region.Mode) (ops : Array Oper) (t : Nat) : Plan → Array Bool → Bool
  | .done last, listed => okTail md ops last listed || (okRow md ops t last listed && Region.ready md ops (setAll last listed) == [])
  | .one l i ri, listed => okRow md ops t l listed && (Region.ready md ops (setAll l listed) == [i]) && okEff t l i listed && okPlan md ops t ri (setAll (l ++ [i]) listed)
  | .two l i ri j rj, listed => okRow md ops t l listed && (Region.ready md ops (setAll l listed) == [i, j]) && okEff t l i listed && okPlan md ops t ri (setAll (l ++ [i]) listed) &&
      okEff t l j listed && okPlan md ops t rj (setAll (l ++ [j]) listed)
  | .three l i ri j rj k rk, listed => okRow md ops t l listed && (Region.ready md ops (setAll l listed) == [i, j, k]) && okEff t l i listed && okPlan md ops t ri (setAll (l ++ [i]) listed) &&
      okEff t l j listed && okPlan md ops t rj (setAll (l ++ [j]) listed) && okEff t l k listed && okPlan md ops t rk (setAll (l ++ [k]) listed)

theorem run_row {t : Nat} {w : World} {K : Act → Prop} {f : Nat} (hs : Region.noSelect ops = true) (hQ : ∀ c a d v w, Q (.panic c) (Act.put a d v) w → Q (.panic c) a w) :
    ∀ (l : List Nat) (listed : Array Bool) (a : Act), Closed md ops listed → okRow md ops t l listed = true → wpQuiet P ops (Aft w) K (pick ops l) a →
      (∀ a', K a' → wpAnyT P md ops Q (Later w) t f (setAll l listed) a' w) → wpAnyT P md ops Q (Later w) t (l.length + f) listed a w
  | [], listed, a, _, _, h, hk => by simpa [setAll] using hk a h
  | i :: l, listed, a, hcl, hb, h, hk => by
    simp only [okRow, Bool.and_eq_true, decide_eq_true_eq] at hb
    obtain ⟨⟨⟨⟨⟨hr, hf⟩, hlt⟩, hk1⟩, hcase⟩, hb'⟩ := hb
    obtain ⟨o, ho⟩ : ∃ o, ops[i]? = some o := ⟨_, Array.getElem?_eq_getElem hlt⟩
    simp only [ho] at hk1
    have hp : pick ops (i :: l) = o :: pick ops l := by simp [pick, ho]
    rw [hp] at h
    obtain ⟨v, hy, h'⟩ := wpQuiet_head hk1 h
    have ih := run_row hs hQ l (listed.setIfInBounds i true) _ (hcl.set (by simpa using hr)) hb' h' (by simpa [setAll] using hk)
    simp only [Bool.or_eq_true, Bool.and_eq_true] at hcase
    rcases hcase with ⟨hw1, ht⟩ | ⟨hpk, hit⟩
    · have := wpAnyT_first (C := Later w) (t := t) (fuel := l.length + f) ho (fun l' h1 h2 => reach_ready h1 h2 hw1) (Region.noSelect_spec hs) (fun c a w => hQ c a _ v w) listed a w hcl (Region.free_spec ho hf) (by simpa using hr) (by simpa using ht) hy (Later.refl w) ih
      simpa [Nat.add_right_comm] using this
    · simp only [ho] at hpk
      have hy' : YieldsIf P ops (fun _ => True) o v a := hy.imp (fun ⟨h1, h2⟩ => ⟨h1, fun w' _ => pure_value hpk (h2 w (Later.refl w)) w'⟩) id
      have := wpAnyT_pure (C := Later w) (t := t) (fuel := l.length + f) ho (by simpa using hit) (Region.noSelect_spec hs) (fun c a w => hQ c a _ v w) listed a w (Region.free_spec ho hf) (by simpa using hr) hy' (.inr (Later.refl w)) ih
      simpa [Nat.add_right_comm] using this

theorem wpAnyT_past {C C' : World → Prop} {t : Nat} : ∀ (fuel : Nat) (listed : Array Bool) (a : Act) (w : World), Past t listed → wpAnyT P md ops Q C t fuel listed a w → wpAnyT P md ops Q C' t fuel listed a w
  | 0, _, _, _, _, h => h
  | fuel + 1, _, _, _, hp, h => ⟨h.1, fun i hi => wpOp_mono (fun a' w' h' => ⟨.inl (hp.set i), wpAnyT_past fuel _ a' w' (hp.set i) h'.2⟩) (h.2 i hi)⟩

theorem run_one {i : Nat} {a : Act} {w : World} {C : World → Prop} {t f : Nat} {listed : Array Bool} {R : Act → World → Prop} (hi : i ∈ Region.ready md ops listed)
    (h : wpList P ops (stagePost Q R) (pick ops [i]) a w) (hR : ∀ a' w', R a' w' → (Past t (listed.setIfInBounds i true) ∨ C w') ∧ wpAnyT P md ops Q C t f (listed.setIfInBounds i true) a' w') :
    wpOp P ops Q i (fun a' w' => (Past t (listed.setIfInBounds i true) ∨ C w') ∧ wpAnyT P md ops Q C t f (listed.setIfInBounds i true) a' w') a w := by
  obtain ⟨_, o, ho, _⟩ := mem_ready.1 hi
  have hp : pick ops [i] = [o] := by simp [pick, ho]
  rw [hp] at h
  unfold wpOp
  simp only [ho]
  simp only [wpList] at h
  split
  · rename_i hw
    simp only [hw, if_true] at h
    rcases h with h | ⟨h1, h2⟩
    · exact .inl (wp_of_stage (Oper.wp_mono (fun a' w' h' => hR a' w' h') h))
    · exact .inr ⟨h1, letsOut_stage h2⟩
  · rename_i hw
    simp only [hw] at h
    exact hR _ _ h

theorem eff_next {i : Nat} {t f : Nat} {l : List Nat} {listed : Array Bool} {w : World} {R : Act → World → Prop} (hp : okEff t l i listed = true)
    (ih : ∀ a'' w'', R a'' w'' → wpAnyT P md ops Q (Later w'') t f (setAll (l ++ [i]) listed) a'' w'') (a'' : Act) (w'' : World) (h : (i < t → Later w w'') ∧ R a'' w'') :
    (Past t ((setAll l listed).setIfInBounds i true) ∨ Later w w'') ∧ wpAnyT P md ops Q (Later w) t f ((setAll l listed).setIfInBounds i true) a'' w'' := by
  have e1 : setAll (l ++ [i]) listed = (setAll l listed).setIfInBounds i true := by simp [setAll]
  have ih' := ih a'' w'' h.2
  unfold okEff at hp
  rw [e1] at ih' hp
  simp only [Bool.or_eq_true, decide_eq_true_eq] at hp
  rcases hp with hp | hp
  · exact ⟨.inr (h.1 hp), wpAnyT_mono (fun x hx => (h.1 hp).trans hx) _ _ _ _ ih'⟩
  · have hpast : Past t ((setAll l listed).setIfInBounds i true) := hp
    exact ⟨.inl hpast, wpAnyT_past _ _ _ _ hpast ih'⟩

theorem run_tail {w : World} {K : Act → Prop} {C : World → Prop} {t : Nat} (hC : C w) :
    ∀ (l : List Nat) (listed : Array Bool) (a : Act), okTail md ops l listed = true → wpQuiet P ops (Aft w) K (pick ops l) a → (∀ a', K a' → Q .normal a' w) → wpAnyT P md ops Q C t l.length listed a w
  | [], listed, a, hb, h, hk => ⟨by simpa [okTail] using hb, hk a h⟩
  | i :: l, listed, a, hb, h, hk => by
    simp only [okTail, Bool.and_eq_true, beq_iff_eq] at hb
    obtain ⟨⟨hr, hk1⟩, hb'⟩ := hb
    obtain ⟨_, o, ho, _⟩ := mem_ready.1 (show i ∈ Region.ready md ops listed by rw [hr]; simp)
    simp only [ho] at hk1
    have hp : pick ops (i :: l) = o :: pick ops l := by simp [pick, ho]
    rw [hp] at h
    obtain ⟨v, hy, h'⟩ := wpQuiet_head hk1 h
    have ih := run_tail (t := t) hC l (listed.setIfInBounds i true) _ hb' h' hk
    show wpAnyT P md ops Q C t (l.length + 1) listed a w
    unfold wpAnyT
    refine ⟨fun h0 => (by rw [h0] at hr; cases hr), fun j hj => ?_⟩
    rw [hr] at hj
    obtain rfl : j = i := by simpa using hj
    exact hy.wpOp ho (Later.refl w) ⟨.inr hC, ih⟩

theorem run_plan {t : Nat} (hs : Region.noSelect ops = true) (hQ : ∀ c a d v w, Q (.panic c) (Act.put a d v) w → Q (.panic c) a w) :
    ∀ (p : Plan) (n : Nat) (listed : Array Bool) (a : Act) (w : World), Closed md ops listed → p.has n = true → okPlan md ops t p listed = true → wpPlan P ops t Q p a w → wpAnyT P md ops Q (Later w) t n listed a w
  | .done last, n, listed, a, w, hcl, hn, hb, h => by
    simp only [okPlan, Bool.or_eq_true, Bool.and_eq_true, beq_iff_eq] at hb
    simp only [Plan.has, beq_iff_eq] at hn
    simp only [wpPlan] at h
    subst hn
    rcases hb with hb | ⟨hb, he⟩
    · exact run_tail (C := Later w) (t := t) (Later.refl w) last listed a hb h (fun a' h => h)
    · exact run_row (f := 0) hs hQ last listed a hcl hb h (fun a' h => ⟨he, h⟩)
  | .one l i ri, n, listed, a, w, hcl, hn, hb, h => by
    simp only [okPlan, Bool.and_eq_true, beq_iff_eq] at hb
    simp only [Plan.has, Bool.and_eq_true, decide_eq_true_eq] at hn
    obtain ⟨⟨⟨hrow, hr⟩, hp⟩, hi⟩ := hb
    obtain ⟨hn1, hn2⟩ := hn
    simp only [wpPlan] at h
    have := run_row (f := n - (l.length + 1) + 1) hs hQ l listed a hcl hrow h (fun a' ha' => by
      unfold wpAnyT
      refine ⟨fun h0 => (by rw [h0] at hr; cases hr), fun j hj => ?_⟩
      have hj0 := hj
      rw [hr] at hj
      obtain rfl : j = i := by simpa using hj
      exact run_one hj0 ha' (eff_next hp (fun a'' w'' h' => run_plan hs hQ ri _ _ a'' w'' (closed_next hcl hrow hj0) hn2 hi h')))
    rwa [show l.length + (n - (l.length + 1) + 1) = n by omega] at this
  | .two l i ri j rj, n, listed, a, w, hcl, hn, hb, h => by
    simp only [okPlan, Bool.and_eq_true, beq_iff_eq] at hb
    simp only [Plan.has, Bool.and_eq_true, decide_eq_true_eq] at hn
    obtain ⟨⟨⟨⟨⟨hrow, hr⟩, hp⟩, hi⟩, hp2⟩, hi2⟩ := hb
    obtain ⟨⟨hn1, hn2⟩, hn3⟩ := hn
    simp only [wpPlan] at h
    have := run_row (f := n - (l.length + 1) + 1) hs hQ l listed a hcl hrow h (fun a' ha' => by
      unfold wpAnyT
      refine ⟨fun h0 => (by rw [h0] at hr; cases hr), fun k hk => ?_⟩
      have hk0 := hk
      rw [hr] at hk
      simp only [List.mem_cons, List.not_mem_nil, or_false] at hk
      rcases hk with rfl | rfl
      · exact run_one hk0 ha'.1 (eff_next hp (fun a'' w'' h' => run_plan hs hQ ri _ _ a'' w'' (closed_next hcl hrow hk0) hn2 hi h'))
      · exact run_one hk0 ha'.2 (eff_next hp2 (fun a'' w'' h' => run_plan hs hQ rj _ _ a'' w'' (closed_next hcl hrow hk0) hn3 hi2 h')))
    rwa [show l.length + (n - (l.length + 1) + 1) = n by omega] at this
  | .three l i ri j rj m rm, n, listed, a, w, hcl, hn, hb, h => by
    simp only [okPlan, Bool.and_eq_true, beq_iff_eq] at hb
    simp only [Plan.has, Bool.and_eq_true, decide_eq_true_eq] at hn
    obtain ⟨⟨⟨⟨⟨⟨⟨hrow, hr⟩, hp⟩, hi⟩, hp2⟩, hi2⟩, hp3⟩, hi3⟩ := hb
    obtain ⟨⟨⟨hn1, hn2⟩, hn3⟩, hn4⟩ := hn
    simp only [wpPlan] at h
    have := run_row (f := n - (l.length + 1) + 1) hs hQ l listed a hcl hrow h (fun a' ha' => by
      unfold wpAnyT
      refine ⟨fun h0 => (by rw [h0] at hr; cases hr), fun k hk => ?_⟩
      have hk0 := hk
      rw [hr] at hk
      simp only [List.mem_cons, List.not_mem_nil, or_false] at hk
      rcases hk with rfl | rfl | rfl
      · exact run_one hk0 ha'.1 (eff_next hp (fun a'' w'' h' => run_plan hs hQ ri _ _ a'' w'' (closed_next hcl hrow hk0) hn2 hi h'))
      · exact run_one hk0 ha'.2.1 (eff_next hp2 (fun a'' w'' h' => run_plan hs hQ rj _ _ a'' w'' (closed_next hcl hrow hk0) hn3 hi2 h'))
      · exact run_one hk0 ha'.2.2 (eff_next hp3 (fun a'' w'' h' => run_plan hs hQ rm _ _ a'' w'' (closed_next hcl hrow hk0) hn4 hi3 h')))
    rwa [show l.length + (n - (l.length + 1) + 1) = n by omega] at this

/-- **A region that asks the tape, by a plan of ours.** -/
theorem wp_region_plan {id : Nat} {a : Act} {w : World} (t : Nat) (p : Plan) (hm : P.follows .mixedOrders = true)
    (hB : (Region.noSelect ops && p.has ops.size && okPlan .any ops t p (Array.replicate ops.size false)) = true)
    (hQ : ∀ c a d v w, Q (.panic c) (Act.put a d v) w → Q (.panic c) a w) (h : wpPlan P ops t Q p a w.drew) : (Code.region id ops true).wp P Q a w := by
  simp only [Bool.and_eq_true] at hB
  obtain ⟨⟨hs, hn⟩, hb⟩ := hB
  exact wp_region_any hm (wpAny_of_T (C := Later w.drew) (t := t) _ _ _ _ (run_plan hs hQ p _ _ a _ (Closed.start _) hn hb h))


/-- The world of a drawn region, by a name. -/
theorem open_drew {t : Nat} {a : Act} {w : World} {p : Plan} (h : ∀ D, Later w D → wpPlan P ops t Q p a D) : wpPlan P ops t Q p a w.drew := h _ ((Later.refl w).drew)
end
end W
end Go.Proofs.YtckeaibamgkegaaGreatDoor
end
section
/- periods: New, Span, Locked and what they call -/
namespace Go.Proofs.YtckeaibamgkegaaGreatDoor
open Go.RowKit
set_option maxRecDepth 100000

/-- Periods at a pointer: how many days each has, and how many are locked. -/
structure PerAt (w : World) (q b : Nat) (sz lk : Int) : Prop where
  c0 : w.cell? ⟨q, 0, none⟩ = some (.pointer (some ⟨b, 0, none⟩))
  c1 : w.cell? ⟨q, 1, none⟩ = some (.int .i64 lk)
  c2 : w.cell? ⟨b, 0, none⟩ = some (.int .i64 sz)
  s1 : 1 ≤ sz
  s2 : sz ≤ 400
theorem PerAt.later {w w' : World} {q b : Nat} {sz lk : Int} (h : PerAt w q b sz lk) (hb : Later w w') : PerAt w' q b sz lk :=
  ⟨((bcell hb).1 _ _ (World.block_lt_of_cell? _ _ h.c0)).trans h.c0, ((bcell hb).1 _ _ (World.block_lt_of_cell? _ _ h.c1)).trans h.c1, ((bcell hb).1 _ _ (World.block_lt_of_cell? _ _ h.c2)).trans h.c2, h.s1, h.s2⟩
def lastP (sz : Int) : Int := Int.tdiv 73048 sz
theorem lastP_le {sz : Int} (h : 1 ≤ sz) : 0 ≤ lastP sz ∧ lastP sz ≤ 73048 := by
  unfold lastP
  obtain ⟨n, rfl⟩ : ∃ n : Nat, sz = n := ⟨sz.toNat, by omega⟩
  have e : Int.tdiv 73048 (n : Int) = ((73048 / n : Nat) : Int) := rfl
  rw [e]
  have := Nat.div_le_self 73048 n
  generalize 73048 / n = m at *
  omega
/-- What is wrong with a period. -/
def perE (sz period : Int) : Int := if period < 0 ∨ lastP sz < period then 10 else 0

set_option maxHeartbeats 800000 in
theorem spof_any (sz : Int) (h1 : 1 ≤ sz) (w : World) : Calls Tryz.prog 98 #[.agg #[.int .i64 sz], .int .i64 73048] w fun e w' => e = .returned (.int .i64 (lastP sz)) ∧ Later w w' := by
  have hw : IntKind.i64.wrap (Int.tdiv 73048 sz) = lastP sz := by
    have := lastP_le h1
    exact IntWalk.i64_in _ (by unfold lastP at this; omega)
  have h0 : (sz == 0) = false := by simp; omega
  go_enter Tryz.func98, Tryz.ntmps98
  go_wp2
  go_ret
  exact ⟨rfl, by repeat (first | with_reducible exact Later.refl _ | with_reducible assumption | with_reducible refine Later.ofdrew ?_ | with_reducible refine Later.ofdrewN ?_ | with_reducible refine Later.setCell ?_ ?_ _ | with_reducible refine Later.alloc ?_ _ | with_reducible refine Later.drewN ?_ _ | with_reducible refine Later.drew ?_ | (with_reducible refine Later.trans ?_ (by assumption)) | (simp only [World.size_setCell, World.size_alloc, World.heap_drewN]; omega) | (simp; done) | (simp; omega))⟩

set_option maxHeartbeats 800000 in
theorem splast_any (sz : Int) (h1 : 1 ≤ sz) (w : World) : Calls Tryz.prog 92 #[.agg #[.int .i64 sz]] w fun e w' => e = .returned (.int .i64 (lastP sz)) ∧ Later w w' := by
  go_enter Tryz.func92, Tryz.ntmps92
  go_wp2_with (go_at_call 98; go_must (refine (spof_any sz h1 _).mono ?_; rintro e w2 ⟨rfl, hb2⟩))
  go_ret
  exact ⟨rfl, by repeat (first | with_reducible exact Later.refl _ | with_reducible assumption | with_reducible refine Later.ofdrew ?_ | with_reducible refine Later.ofdrewN ?_ | with_reducible refine Later.setCell ?_ ?_ _ | with_reducible refine Later.alloc ?_ _ | with_reducible refine Later.drewN ?_ _ | with_reducible refine Later.drew ?_ | (with_reducible refine Later.trans ?_ (by assumption)) | (simp only [World.size_setCell, World.size_alloc, World.heap_drewN]; omega) | (simp; done) | (simp; omega))⟩

set_option maxHeartbeats 800000 in
theorem plast_any (q b : Nat) (sz lk : Int) (w : World) (h : PerAt w q b sz lk) : Calls Tryz.prog 79 #[.pointer (some ⟨q, 0, none⟩)] w fun e w' => e = .returned (.int .i64 (lastP sz)) ∧ Later w w' := by
  obtain ⟨c0, c1, c2, s1, s2⟩ := h
  go_enter Tryz.func79, Tryz.ntmps79
  go_wp2_with (go_at_call 92; go_must (refine (splast_any sz s1 _).mono ?_; rintro e w2 ⟨rfl, hb2⟩))
  go_ret
  exact ⟨rfl, by repeat (first | with_reducible exact Later.refl _ | with_reducible assumption | with_reducible refine Later.ofdrew ?_ | with_reducible refine Later.ofdrewN ?_ | with_reducible refine Later.setCell ?_ ?_ _ | with_reducible refine Later.alloc ?_ _ | with_reducible refine Later.drewN ?_ _ | with_reducible refine Later.drew ?_ | (with_reducible refine Later.trans ?_ (by assumption)) | (simp only [World.size_setCell, World.size_alloc, World.heap_drewN]; omega) | (simp; done) | (simp; omega))⟩

set_option maxHeartbeats 800000 in
theorem pcheck_any (q b : Nat) (sz lk period : Int) (w : World) (h : PerAt w q b sz lk) : Calls Tryz.prog 60 #[.pointer (some ⟨q, 0, none⟩), .int .i64 period] w fun e w' => e = .returned (.int .i64 (perE sz period)) ∧ Later w w' := by
  have HL := Lib.hid (fun W (hl : Later w W) => plast_any q b sz lk W (h.later hl))
  have hp : perE sz period = if period < 0 ∨ lastP sz < period then 10 else 0 := rfl
  generalize lastP sz = l at *
  generalize perE sz period = r at *
  clear h
  by_cases h1 : period < 0
  · rw [if_pos (.inl h1)] at hp
    subst hp
    go_enter Tryz.func60, Tryz.ntmps60
    go_wp2
    go_ret
    exact ⟨rfl, Later.refl _⟩
  · by_cases h2 : l < period
    · rw [if_pos (.inr h2)] at hp
      subst hp
      go_enter Tryz.func60, Tryz.ntmps60
      go_wp2_with (go_at_call 79; go_must (refine (HL.out _ (by repeat (first | with_reducible exact Later.refl _ | with_reducible assumption | with_reducible refine Later.ofdrew ?_ | with_reducible refine Later.ofdrewN ?_ | with_reducible refine Later.setCell ?_ ?_ _ | with_reducible refine Later.alloc ?_ _ | with_reducible refine Later.drewN ?_ _ | with_reducible refine Later.drew ?_ | (with_reducible refine Later.trans ?_ (by assumption)) | (simp only [World.size_setCell, World.size_alloc, World.heap_drewN]; omega) | (simp; done) | (simp; omega)))).mono ?_; rintro e w2 ⟨rfl, hb2⟩))
      go_ret
      exact ⟨rfl, by repeat (first | with_reducible exact Later.refl _ | with_reducible assumption | with_reducible refine Later.ofdrew ?_ | with_reducible refine Later.ofdrewN ?_ | with_reducible refine Later.setCell ?_ ?_ _ | with_reducible refine Later.alloc ?_ _ | with_reducible refine Later.drewN ?_ _ | with_reducible refine Later.drew ?_ | (with_reducible refine Later.trans ?_ (by assumption)) | (simp only [World.size_setCell, World.size_alloc, World.heap_drewN]; omega) | (simp; done) | (simp; omega))⟩
    · rw [if_neg (by omega)] at hp
      subst hp
      go_enter Tryz.func60, Tryz.ntmps60
      go_wp2_with (go_at_call 79; go_must (refine (HL.out _ (by repeat (first | with_reducible exact Later.refl _ | with_reducible assumption | with_reducible refine Later.ofdrew ?_ | with_reducible refine Later.ofdrewN ?_ | with_reducible refine Later.setCell ?_ ?_ _ | with_reducible refine Later.alloc ?_ _ | with_reducible refine Later.drewN ?_ _ | with_reducible refine Later.drew ?_ | (with_reducible refine Later.trans ?_ (by assumption)) | (simp only [World.size_setCell, World.size_alloc, World.heap_drewN]; omega) | (simp; done) | (simp; omega)))).mono ?_; rintro e w2 ⟨rfl, hb2⟩))
      go_ret
      exact ⟨rfl, by repeat (first | with_reducible exact Later.refl _ | with_reducible assumption | with_reducible refine Later.ofdrew ?_ | with_reducible refine Later.ofdrewN ?_ | with_reducible refine Later.setCell ?_ ?_ _ | with_reducible refine Later.alloc ?_ _ | with_reducible refine Later.drewN ?_ _ | with_reducible refine Later.drew ?_ | (with_reducible refine Later.trans ?_ (by assumption)) | (simp only [World.size_setCell, World.size_alloc, World.heap_drewN]; omega) | (simp; done) | (simp; omega))⟩

set_option maxHeartbeats 1600000 in
theorem span_any (q b : Nat) (sz lk period : Int) (w : World) (h : PerAt w q b sz lk) : Calls Tryz.prog 36 #[.pointer (some ⟨q, 0, none⟩), .int .i64 period] w fun e w' => (∃ x y : Int, e = .returned (.tuple #[.int .i64 x, .int .i64 y, .int .i64 (perE sz period)])) ∧ Later w w' := by
  have HC := Lib.hid (fun W (hl : Later w W) => pcheck_any q b sz lk period W (h.later hl))
  have HK := Lib.hid (fun W (hl : Later w W) => h.later hl)
  have s1 := h.s1
  have s2 := h.s2
  have hll := lastP_le s1
  have hp : perE sz period = if period < 0 ∨ lastP sz < period then 10 else 0 := rfl
  generalize perE sz period = r at *
  clear h
  by_cases h1 : period < 0 ∨ lastP sz < period
  · rw [if_pos h1] at hp
    subst hp
    clear h1
    go_enter Tryz.func36, Tryz.ntmps36
    go_wp2_with (go_at_call 60; go_must (refine (HC.out _ (by repeat (first | with_reducible exact Later.refl _ | with_reducible assumption | with_reducible refine Later.ofdrew ?_ | with_reducible refine Later.ofdrewN ?_ | with_reducible refine Later.setCell ?_ ?_ _ | with_reducible refine Later.alloc ?_ _ | with_reducible refine Later.drewN ?_ _ | with_reducible refine Later.drew ?_ | (with_reducible refine Later.trans ?_ (by assumption)) | (simp only [World.size_setCell, World.size_alloc, World.heap_drewN]; omega) | (simp; done) | (simp; omega)))).mono ?_; rintro e w2 ⟨rfl, hb2⟩))
    go_ret3
    exact ⟨⟨_, _, rfl⟩, by repeat (first | with_reducible exact Later.refl _ | with_reducible assumption | with_reducible refine Later.ofdrew ?_ | with_reducible refine Later.ofdrewN ?_ | with_reducible refine Later.setCell ?_ ?_ _ | with_reducible refine Later.alloc ?_ _ | with_reducible refine Later.drewN ?_ _ | with_reducible refine Later.drew ?_ | (with_reducible refine Later.trans ?_ (by assumption)) | (simp only [World.size_setCell, World.size_alloc, World.heap_drewN]; omega) | (simp; done) | (simp; omega))⟩
  · rw [if_neg h1] at hp
    subst hp
    have hb0 : 0 ≤ period * sz := Int.mul_nonneg (by omega) (by omega)
    have hb1 : period * sz ≤ 73048 * 400 := Int.mul_le_mul (by omega) s2 (by omega) (by omega)
    obtain ⟨m, hm⟩ : ∃ m, period * sz = m := ⟨_, rfl⟩
    have hw : IntKind.i64.wrap (period * sz) = m := by rw [hm]; exact IntWalk.i64_in _ (by omega)
    rw [hm] at hb0 hb1
    clear h1 hll
    go_enter Tryz.func36, Tryz.ntmps36
    go_upto_region 4 with (go_at_call 60; go_must (refine (HC.out _ (by repeat (first | with_reducible exact Later.refl _ | with_reducible assumption | with_reducible refine Later.ofdrew ?_ | with_reducible refine Later.ofdrewN ?_ | with_reducible refine Later.setCell ?_ ?_ _ | with_reducible refine Later.alloc ?_ _ | with_reducible refine Later.drewN ?_ _ | with_reducible refine Later.drew ?_ | (with_reducible refine Later.trans ?_ (by assumption)) | (simp only [World.size_setCell, World.size_alloc, World.heap_drewN]; omega) | (simp; done) | (simp; omega)))).mono ?_; rintro e w2 ⟨rfl, hb2⟩))
    obtain ⟨c0, c1, c2, -, -⟩ := HK.out _ hb2
    go_upto_region 5 with (fail)
    refine wp_region_plan 15 (.one [0, 1, 2, 12] 3 (.one [4, 5] 6 (.one [7, 8, 9, 10] 11 (.done [13, 14])))) (by kernel_rfl) (by kernel_rfl) (fun _ _ d _ _ h => by cases d <;> exact h) ?_
    repeat' (first
      | (refine plan_done (fun K hK => ?_); (first | (simp only [pick_cons, pick_nil, toList_some_append, List.getElem?_toArray, List.getElem?_cons_zero, List.getElem?_cons_succ]; repeat (go_big_quiet_step (fail))) | simp only [pick_nil]); refine wpQuiet_nil (hK _ ?_); clear hK K)
      | (refine plan_one (by rfl) (fun K hK => ?_); (first | (simp only [pick_cons, pick_nil, toList_some_append, List.getElem?_toArray, List.getElem?_cons_zero, List.getElem?_cons_succ]; repeat (go_big_quiet_step (fail))) | simp only [pick_nil]); refine wpQuiet_nil (hK _ ?_); clear hK K)
      | ((with_reducible refine at_list ?_); go_wp2_with (fail); first | refine behind_store (t := 15) (by decide) ?_ | refine behind (by repeat (first | with_reducible exact Later.refl _ | with_reducible assumption | with_reducible refine Later.ofdrew ?_ | with_reducible refine Later.ofdrewN ?_ | with_reducible refine Later.alloc ?_ _ | with_reducible refine Later.drewN ?_ _ | with_reducible refine Later.drew ?_ | (with_reducible refine Later.trans ?_ (by assumption)))) ?_))
    go_wp2
    go_ret3
    exact ⟨⟨_, _, rfl⟩, by repeat (first | with_reducible exact Later.refl _ | with_reducible assumption | with_reducible refine Later.ofdrew ?_ | with_reducible refine Later.ofdrewN ?_ | with_reducible refine Later.setCell ?_ ?_ _ | with_reducible refine Later.alloc ?_ _ | with_reducible refine Later.drewN ?_ _ | with_reducible refine Later.drew ?_ | (with_reducible refine Later.trans ?_ (by assumption)) | (simp only [World.size_setCell, World.size_alloc, World.heap_drewN]; omega) | (simp; done) | (simp; omega))⟩

set_option maxHeartbeats 800000 in
theorem plocked_any (q b : Nat) (sz lk period : Int) (w : World) (h : PerAt w q b sz lk) : Calls Tryz.prog 37 #[.pointer (some ⟨q, 0, none⟩), .int .i64 period] w fun e w' => e = .returned (.bool (decide (perE sz period = 0 ∧ period < lk))) ∧ Later w w' := by
  have HC := Lib.hid (fun W (hl : Later w W) => pcheck_any q b sz lk period W (h.later hl))
  have HK := Lib.hid (fun W (hl : Later w W) => h.later hl)
  generalize perE sz period = r at *
  clear h
  by_cases h1 : r = 0
  · subst h1
    by_cases h2 : period < lk
    · have hd : decide ((0 : Int) = 0 ∧ period < lk) = true := by simp [h2]
      rw [hd]
      clear hd
      go_enter Tryz.func37, Tryz.ntmps37
      go_wp2_with (go_at_call 60; go_must (refine (HC.out _ (by repeat (first | with_reducible exact Later.refl _ | with_reducible assumption | with_reducible refine Later.ofdrew ?_ | with_reducible refine Later.ofdrewN ?_ | with_reducible refine Later.setCell ?_ ?_ _ | with_reducible refine Later.alloc ?_ _ | with_reducible refine Later.drewN ?_ _ | with_reducible refine Later.drew ?_ | (with_reducible refine Later.trans ?_ (by assumption)) | (simp only [World.size_setCell, World.size_alloc, World.heap_drewN]; omega) | (simp; done) | (simp; omega)))).mono ?_; rintro e w2 ⟨rfl, hb2⟩; obtain ⟨c0, c1, c2, -, -⟩ := HK.out _ hb2))
      go_ret
      exact ⟨rfl, by repeat (first | with_reducible exact Later.refl _ | with_reducible assumption | with_reducible refine Later.ofdrew ?_ | with_reducible refine Later.ofdrewN ?_ | with_reducible refine Later.setCell ?_ ?_ _ | with_reducible refine Later.alloc ?_ _ | with_reducible refine Later.drewN ?_ _ | with_reducible refine Later.drew ?_ | (with_reducible refine Later.trans ?_ (by assumption)) | (simp only [World.size_setCell, World.size_alloc, World.heap_drewN]; omega) | (simp; done) | (simp; omega))⟩
    · have hd : decide ((0 : Int) = 0 ∧ period < lk) = false := by simp; omega
      rw [hd]
      clear hd
      go_enter Tryz.func37, Tryz.ntmps37
      go_wp2_with (go_at_call 60; go_must (refine (HC.out _ (by repeat (first | with_reducible exact Later.refl _ | with_reducible assumption | with_reducible refine Later.ofdrew ?_ | with_reducible refine Later.ofdrewN ?_ | with_reducible refine Later.setCell ?_ ?_ _ | with_reducible refine Later.alloc ?_ _ | with_reducible refine Later.drewN ?_ _ | with_reducible refine Later.drew ?_ | (with_reducible refine Later.trans ?_ (by assumption)) | (simp only [World.size_setCell, World.size_alloc, World.heap_drewN]; omega) | (simp; done) | (simp; omega)))).mono ?_; rintro e w2 ⟨rfl, hb2⟩; obtain ⟨c0, c1, c2, -, -⟩ := HK.out _ hb2))
      go_ret
      exact ⟨by simp [h2], by repeat (first | with_reducible exact Later.refl _ | with_reducible assumption | with_reducible refine Later.ofdrew ?_ | with_reducible refine Later.ofdrewN ?_ | with_reducible refine Later.setCell ?_ ?_ _ | with_reducible refine Later.alloc ?_ _ | with_reducible refine Later.drewN ?_ _ | with_reducible refine Later.drew ?_ | (with_reducible refine Later.trans ?_ (by assumption)) | (simp only [World.size_setCell, World.size_alloc, World.heap_drewN]; omega) | (simp; done) | (simp; omega))⟩
  · have hd : decide (r = 0 ∧ period < lk) = false := by simp [h1]
    rw [hd]
    have h2 : (r == 0) = false := by simpa using h1
    clear hd h1
    go_enter Tryz.func37, Tryz.ntmps37
    go_wp2_with (go_at_call 60; go_must (refine (HC.out _ (by repeat (first | with_reducible exact Later.refl _ | with_reducible assumption | with_reducible refine Later.ofdrew ?_ | with_reducible refine Later.ofdrewN ?_ | with_reducible refine Later.setCell ?_ ?_ _ | with_reducible refine Later.alloc ?_ _ | with_reducible refine Later.drewN ?_ _ | with_reducible refine Later.drew ?_ | (with_reducible refine Later.trans ?_ (by assumption)) | (simp only [World.size_setCell, World.size_alloc, World.heap_drewN]; omega) | (simp; done) | (simp; omega)))).mono ?_; rintro e w2 ⟨rfl, hb2⟩))
    go_ret
    exact ⟨rfl, by repeat (first | with_reducible exact Later.refl _ | with_reducible assumption | with_reducible refine Later.ofdrew ?_ | with_reducible refine Later.ofdrewN ?_ | with_reducible refine Later.setCell ?_ ?_ _ | with_reducible refine Later.alloc ?_ _ | with_reducible refine Later.drewN ?_ _ | with_reducible refine Later.drew ?_ | (with_reducible refine Later.trans ?_ (by assumption)) | (simp only [World.size_setCell, World.size_alloc, World.heap_drewN]; omega) | (simp; done) | (simp; omega))⟩

set_option maxHeartbeats 800000 in
theorem pnew_any (sz : Int) (h1 : 1 ≤ sz) (h2 : sz ≤ 400) (w : World) : Calls Tryz.prog 13 #[.int .i64 sz] w fun e w' => ∃ q b, e = .returned (.tuple #[.pointer (some ⟨q, 0, none⟩), .int .i64 0]) ∧ PerAt w' q b sz 0 ∧ w.heap.size ≤ q ∧ w.heap.size ≤ b ∧ Later w w' := by
  go_enter Tryz.func13, Tryz.ntmps13
  go_wp2
  go_ret2
  refine ⟨w.heap.size + 1, w.heap.size, rfl, ?_, by omega, by omega, by repeat (first | with_reducible exact Later.refl _ | with_reducible assumption | with_reducible refine Later.ofdrew ?_ | with_reducible refine Later.ofdrewN ?_ | with_reducible refine Later.setCell ?_ ?_ _ | with_reducible refine Later.alloc ?_ _ | with_reducible refine Later.drewN ?_ _ | with_reducible refine Later.drew ?_ | (with_reducible refine Later.trans ?_ (by assumption)) | (simp only [World.size_setCell, World.size_alloc, World.heap_drewN]; omega) | (simp; done) | (simp; omega))⟩
  have hO := Own.two (Later.refl ((w.alloc (.cells #[.int .i64 sz] 87)).alloc (.cells #[.pointer (some ⟨w.heap.size, 0, none⟩), .int .i64 0] 89)))
  exact ⟨hO.2.1.2.1 0, hO.2.1.2.1 1, hO.1.2.1 0, h1, h2⟩
end Go.Proofs.YtckeaibamgkegaaGreatDoor
end
