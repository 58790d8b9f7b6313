/- A region that draws its order, a third time: the last operation may be a call that changes what there was; that all else comes ahead of it may follow over several edges. -/
import Derived.Test.YtckeaibamgkegaaDoorRegion
set_option linter.all false
namespace Go.Proofs.YtckeaibamgkegaaDoor
namespace V

section
variable {P : Program} {ops : Array Oper} {Q : Exit → Act → World → Prop} {md : Region.Mode}

/-- What has come up holds, with each operation, all that it waits for. -/
def Closed (md : Region.Mode) (ops : Array Oper) (listed : Array Bool) : Prop := ∀ k ok, ops[k]? = some ok → listed.getD k false = true → ∀ e ∈ ok.after, Region.binds md e = true → listed.getD e.on false = true
theorem Closed.set {listed : Array Bool} {i : Nat} (h : Closed md ops listed) (hi : i ∈ Region.ready md ops listed) : Closed md ops (listed.setIfInBounds i true) := by
  intro k ok hok hk e he hb
  by_cases hki : i = k
  · subst hki
    obtain ⟨_, o, ho, hall⟩ := mem_ready.1 hi
    rw [hok] at ho
    cases ho
    exact getD_set_true (hall e he hb)
  · rw [getD_set_ne false hki] at hk
    exact getD_set_true (h k ok hok hk e he hb)
theorem Closed.start (n : Nat) : Closed md ops (Array.replicate n false) := by
  intro k ok _ hk
  by_cases h : k < n <;> simp [h] at hk
/-- Does an operation wait for another one, over whatever others? -/
def reachB (md : Region.Mode) (ops : Array Oper) : Nat → Nat → Nat → Bool
  | 0, _, _ => false
  | f + 1, t, i => match ops[t]? with
    | some ot => ot.after.any fun e => Region.binds md e && (e.on == i || reachB md ops f e.on i)
    | none => false
theorem reach_listed {listed : Array Bool} {i : Nat} (hc : Closed md ops listed) : ∀ (f t : Nat), reachB md ops f t i = true → listed.getD t false = true → listed.getD i false = true
  | 0, _, h, _ => by cases h
  | f + 1, t, h, ht => by
    unfold reachB at h
    cases ho : ops[t]? with
    | none => rw [ho] at h; cases h
    | some ot =>
      rw [ho] at h
      obtain ⟨e, he, hb⟩ := Array.any_eq_true'.1 h
      simp only [Bool.and_eq_true, Bool.or_eq_true, beq_iff_eq] at hb
      have h1 := hc t ot ho ht e he hb.1
      rcases hb.2 with h2 | h2
      · rwa [h2] at h1
      · exact reach_listed hc f e.on h2 h1
theorem reach_ready {listed : Array Bool} {i f t : Nat} (hc : Closed md ops listed) (ht : t ∈ Region.ready md ops listed) (h : reachB md ops f t i = true) : listed.getD i false = true := by
  obtain ⟨_, o, ho, hall⟩ := mem_ready.1 ht
  cases f with
  | zero => cases h
  | succ f =>
    unfold reachB at h
    rw [ho] at h
    obtain ⟨e, he, hb⟩ := Array.any_eq_true'.1 h
    simp only [Bool.and_eq_true, Bool.or_eq_true, beq_iff_eq] at hb
    have h1 := hall e he hb.1
    rcases hb.2 with h2 | h2
    · rwa [h2] at h1
    · exact reach_listed hc f e.on h2 h1

/-- A reader may be taken first. -/
theorem wpAnyT_first {C : World → Prop} {t i : Nat} {oi : Oper} {v : Value} (hi : ops[i]? = some oi) (hre : ∀ l', Closed md ops l' → t ∈ Region.ready md ops l' → l'.getD i false = true) (hsel : ∀ (j : Nat) (o : Oper) cs b, ops[j]? = some o → o.op ≠ .select cs b)
    (hQ : ∀ c a w, Q (.panic c) (a.put oi.dst v) w → Q (.panic c) a w) :
    ∀ (fuel : Nat) (listed : Array Bool) (a : Act) (w : World), Closed md ops listed →
      (∀ j oj, ops[j]? = some oj → j ≠ i → listed.getD j true = false → (∀ e ∈ oj.after, Region.binds md e = true → e.on ≠ i) → oi.apart ops oj = true) →
      i ∈ Region.ready md ops listed → listed.getD t false = false → YieldsIf P ops C oi v a → C w →
      wpAnyT P md ops Q C t fuel (listed.setIfInBounds i true) (a.put oi.dst v) w → wpAnyT P md ops Q C t (fuel + 1) listed a w := by
  intro fuel
  induction fuel with
  | zero =>
    intro listed a w _ _ hr _ hy hS H
    refine ⟨fun h => (by rw [h] at hr; cases hr), fun j hj => ?_⟩
    by_cases hji : j = i
    · subst hji; exact hy.wpOp hi hS ⟨.inr hS, H⟩
    · have := ready_mono hj hji
      rw [H.1] at this
      cases this
  | succ fuel ih =>
    intro listed a w hcl hfree hr ht hy hS H
    refine ⟨fun h => (by rw [h] at hr; cases hr), fun j hj => ?_⟩
    by_cases hji : j = i
    · subst hji; exact hy.wpOp hi hS ⟨.inr hS, H⟩
    · have h1 := H.2 j (ready_mono hj hji)
      obtain ⟨hjun, oj, hoj, hall⟩ := mem_ready.1 hj
      have hiun : listed.getD i true = false := (mem_ready.1 hr).1
      have hiun' : (listed.setIfInBounds j true).getD i false = false := by
        rw [getD_set_ne false hji]
        rcases Nat.lt_or_ge i listed.size with h' | h'
        · simp [h'] at hiun ⊢; exact hiun
        · simp [Array.getElem?_eq_none h'] at hiun
      have hnot : ∀ e ∈ oj.after, Region.binds md e = true → e.on ≠ i := fun e he hb heq => by
        have h1 := hall e he hb
        rw [heq] at h1
        rcases Nat.lt_or_ge i listed.size with h' | h'
        · simp [h'] at hiun h1; rw [hiun] at h1; cases h1
        · simp [Array.getElem?_eq_none h'] at h1
      have h2 := wpOp_putIf hoj (hfree j oj hoj hji hjun hnot) (fun cs b => hsel i oi cs b hi) (fun cs b => hsel j oj cs b hoj) hQ hy h1
      have hfree' : ∀ k ok, ops[k]? = some ok → k ≠ i → (listed.setIfInBounds j true).getD k true = false →
          (∀ e ∈ ok.after, Region.binds md e = true → e.on ≠ i) → oi.apart ops ok = true := fun k ok hk hki hun hno => by
        refine hfree k ok hk hki ?_ hno
        by_cases hjk : j = k
        · subst hjk; exact hjun
        · rw [getD_set_ne true hjk] at hun; exact hun
      have hjt : j ≠ t := fun e => by
        subst e
        have h1 := hre listed hcl hj
        rcases Nat.lt_or_ge i listed.size with h' | h'
        · simp [h'] at hiun h1; rw [hiun] at h1; cases h1
        · simp [Array.getElem?_eq_none h'] at h1
      have hit : i ≠ t := fun e => by
        subst e
        have h1 := hre listed hcl hr
        rw [h1] at ht
        cases ht
      refine wpOp_mono (fun a' w' h3 => ?_) h2
      have hC' : C w' := by
        refine h3.2.1.resolve_left fun hp => ?_
        have := hp t (Nat.le_refl t)
        rw [getD_set_ne false hjt, getD_set_ne false hit, ht] at this
        cases this
      have ht' : (listed.setIfInBounds j true).getD t false = false := by rw [getD_set_ne false hjt]; exact ht
      refine ⟨.inr hC', ih (listed.setIfInBounds j true) a' w' (hcl.set hj) hfree' (ready_mono hr (Ne.symm hji)) ht' h3.1 hC' ?_⟩
      rw [Array.setIfInBounds_comm _ _ hji]
      exact h3.2.2

def okRow (md : Region.Mode) (ops : Array Oper) (t : Nat) : List Nat → Array Bool → Bool
  | [], _ => true
  | i :: l, listed =>
    ((Region.ready md ops listed).contains i && Region.free md ops listed i && decide (i < ops.size) && (match ops[i]? with | some o => readerKind o | none => false) &&
      reachB md ops 12 t i && !listed.getD t false) && okRow md ops t l (listed.setIfInBounds i true)
theorem closed_row {t : Nat} : ∀ (l : List Nat) (listed : Array Bool), Closed md ops listed → okRow md ops t l listed = true → Closed md ops (setAll l listed)
  | [], _, h, _ => h
  | i :: l, listed, h, hb => by
    simp only [okRow, Bool.and_eq_true] at hb
    exact closed_row l _ (h.set (by simpa using hb.1.1.1.1.1.1)) hb.2
theorem closed_next {t i : Nat} {l : List Nat} {listed : Array Bool} (h : Closed md ops listed) (hb : okRow md ops t l listed = true) (hi : i ∈ Region.ready md ops (setAll l listed)) : Closed md ops (setAll (l ++ [i]) listed) := by
  have e : setAll (l ++ [i]) listed = (setAll l listed).setIfInBounds i true := by simp [setAll]
  rw [e]
  exact (closed_row l listed h hb).set hi
def okPlan (md : Region.Mode) (ops : Array Oper) (t : Nat) : Plan → Array Bool → Bool
  | .done last, listed => okTail md ops last listed || (okRow md ops t last listed && Region.ready md ops (setAll last listed) == [])
  | .one l i ri, listed => okRow md ops t l listed && (Region.ready md ops (setAll l listed) == [i]) && okEff t l i listed && okPlan md ops t ri (setAll (l ++ [i]) listed)
  | .two l i ri j rj, listed => okRow md ops t l listed && (Region.ready md ops (setAll l listed) == [i, j]) && okEff t l i listed && okPlan md ops t ri (setAll (l ++ [i]) listed) &&
      okEff t l j listed && okPlan md ops t rj (setAll (l ++ [j]) listed)
  | .three .., _ => false

theorem run_row {t : Nat} {w : World} {K : Act → Prop} {f : Nat} (hs : Region.noSelect ops = true) (hQ : ∀ c a d v w, Q (.panic c) (Act.put a d v) w → Q (.panic c) a w) :
    ∀ (l : List Nat) (listed : Array Bool) (a : Act), Closed md ops listed → okRow md ops t l listed = true → wpQuiet P ops (Aft w) K (pick ops l) a →
      (∀ a', K a' → wpAnyT P md ops Q (Later w) t f (setAll l listed) a' w) → wpAnyT P md ops Q (Later w) t (l.length + f) listed a w
  | [], listed, a, _, _, h, hk => by simpa [setAll] using hk a h
  | i :: l, listed, a, hcl, hb, h, hk => by
    simp only [okRow, Bool.and_eq_true, decide_eq_true_eq] at hb
    obtain ⟨⟨⟨⟨⟨⟨hr, hf⟩, hlt⟩, hk1⟩, hw1⟩, ht⟩, hb'⟩ := hb
    obtain ⟨o, ho⟩ : ∃ o, ops[i]? = some o := ⟨_, Array.getElem?_eq_getElem hlt⟩
    simp only [ho] at hk1
    have hp : pick ops (i :: l) = o :: pick ops l := by simp [pick, ho]
    rw [hp] at h
    obtain ⟨v, hy, h'⟩ := wpQuiet_head hk1 h
    have ih := run_row hs hQ l (listed.setIfInBounds i true) _ (hcl.set (by simpa using hr)) hb' h' (by simpa [setAll] using hk)
    have := wpAnyT_first (C := Later w) (t := t) (fuel := l.length + f) ho (fun l' h1 h2 => reach_ready h1 h2 hw1) (Region.noSelect_spec hs) (fun c a w => hQ c a _ v w) listed a w hcl (Region.free_spec ho hf) (by simpa using hr) (by simpa using ht) hy (Later.refl w) ih
    simpa [Nat.add_right_comm] using this

theorem run_plan {t : Nat} (hs : Region.noSelect ops = true) (hQ : ∀ c a d v w, Q (.panic c) (Act.put a d v) w → Q (.panic c) a w) :
    ∀ (p : Plan) (n : Nat) (listed : Array Bool) (a : Act) (w : World), Closed md ops listed → p.has n = true → okPlan md ops t p listed = true → wpPlan P ops t Q p a w → wpAnyT P md ops Q (Later w) t n listed a w
  | .done last, n, listed, a, w, hcl, hn, hb, h => by
    simp only [okPlan, Bool.or_eq_true, Bool.and_eq_true, beq_iff_eq] at hb
    simp only [Plan.has, beq_iff_eq] at hn
    simp only [wpPlan] at h
    subst hn
    rcases hb with hb | ⟨hb, he⟩
    · exact run_tail (C := Later w) (t := t) (Later.refl w) last listed a hb h (fun a' h => h)
    · exact run_row (f := 0) hs hQ last listed a hcl hb h (fun a' h => ⟨he, h⟩)
  | .one l i ri, n, listed, a, w, hcl, hn, hb, h => by
    simp only [okPlan, Bool.and_eq_true, beq_iff_eq] at hb
    simp only [Plan.has, Bool.and_eq_true, decide_eq_true_eq] at hn
    obtain ⟨⟨⟨hrow, hr⟩, hp⟩, hi⟩ := hb
    obtain ⟨hn1, hn2⟩ := hn
    simp only [wpPlan] at h
    have := run_row (f := n - (l.length + 1) + 1) hs hQ l listed a hcl hrow h (fun a' ha' => by
      unfold wpAnyT
      refine ⟨fun h0 => (by rw [h0] at hr; cases hr), fun j hj => ?_⟩
      have hj0 := hj
      rw [hr] at hj
      obtain rfl : j = i := by simpa using hj
      exact run_one hj0 ha' (eff_next hp (fun a'' w'' h' => run_plan hs hQ ri _ _ a'' w'' (closed_next hcl hrow hj0) hn2 hi h')))
    rwa [show l.length + (n - (l.length + 1) + 1) = n by omega] at this
  | .two l i ri j rj, n, listed, a, w, hcl, hn, hb, h => by
    simp only [okPlan, Bool.and_eq_true, beq_iff_eq] at hb
    simp only [Plan.has, Bool.and_eq_true, decide_eq_true_eq] at hn
    obtain ⟨⟨⟨⟨⟨hrow, hr⟩, hp⟩, hi⟩, hp2⟩, hi2⟩ := hb
    obtain ⟨⟨hn1, hn2⟩, hn3⟩ := hn
    simp only [wpPlan] at h
    have := run_row (f := n - (l.length + 1) + 1) hs hQ l listed a hcl hrow h (fun a' ha' => by
      unfold wpAnyT
      refine ⟨fun h0 => (by rw [h0] at hr; cases hr), fun k hk => ?_⟩
      have hk0 := hk
      rw [hr] at hk
      simp only [List.mem_cons, List.not_mem_nil, or_false] at hk
      rcases hk with rfl | rfl
      · exact run_one hk0 ha'.1 (eff_next hp (fun a'' w'' h' => run_plan hs hQ ri _ _ a'' w'' (closed_next hcl hrow hk0) hn2 hi h'))
      · exact run_one hk0 ha'.2 (eff_next hp2 (fun a'' w'' h' => run_plan hs hQ rj _ _ a'' w'' (closed_next hcl hrow hk0) hn3 hi2 h')))
    rwa [show l.length + (n - (l.length + 1) + 1) = n by omega] at this
  | .three .., _, _, _, _, _, _, hb, _ => by simp [okPlan] at hb

/-- **A region that asks the tape, by a plan of ours.** -/
theorem wp_region_plan {id : Nat} {a : Act} {w : World} (t : Nat) (p : Plan) (hm : P.follows .mixedOrders = true)
    (hB : (Region.noSelect ops && p.has ops.size && okPlan .any ops t p (Array.replicate ops.size false)) = true)
    (hQ : ∀ c a d v w, Q (.panic c) (Act.put a d v) w → Q (.panic c) a w) (h : wpPlan P ops t Q p a w.drew) : (Code.region id ops true).wp P Q a w := by
  simp only [Bool.and_eq_true] at hB
  obtain ⟨⟨hs, hn⟩, hb⟩ := hB
  exact wp_region_any hm (wpAny_of_T (C := Later w.drew) (t := t) _ _ _ _ (run_plan hs hQ p _ _ a _ (Closed.start _) hn hb h))
end
end V
end Go.Proofs.YtckeaibamgkegaaDoor
