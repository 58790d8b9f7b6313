/- A region that draws its order, once more: a set S of blocks may change in it. -/
import Derived.Test.YtckeaibamgkegaaDoorRegionV
set_option linter.all false
namespace Go.Proofs.YtckeaibamgkegaaDoor
open Go Go.RowKit
namespace S

/-- A later world, but for the blocks of S. -/
structure LatB (S : Nat → Prop) (w w' : World) : Prop where
  os : w'.os = w.os
  tape : w'.tape = w.tape
  output : w'.output = w.output
  size : w.heap.size ≤ w'.heap.size
  block : ∀ k, k < w.heap.size → ¬ S k → w'.heap[k]? = w.heap[k]?
theorem LatB.refl {S : Nat → Prop} (w : World) : LatB S w w := ⟨rfl, rfl, rfl, Nat.le_refl _, fun _ _ _ => rfl⟩
theorem LatB.trans {S : Nat → Prop} {a b c : World} (h : LatB S a b) (k : LatB S b c) : LatB S a c :=
  ⟨k.os.trans h.os, k.tape.trans h.tape, k.output.trans h.output, Nat.le_trans h.size k.size, fun i hi hs => (k.block i (Nat.lt_of_lt_of_le hi h.size) hs).trans (h.block i hi hs)⟩
theorem LatB.of {S : Nat → Prop} {a b : World} (h : Later a b) : LatB S a b := ⟨h.os, h.tape, h.output, h.size, fun k hk _ => h.block k hk⟩
theorem LatB.later {S : Nat → Prop} {a b c : World} (h : LatB S a b) (k : Later b c) : LatB S a c := h.trans (.of k)
theorem LatB.drew {S : Nat → Prop} {a b : World} (h : LatB S a b) : LatB S a b.drew := h.later ((Later.refl b).drew)
theorem LatB.ofdrew {S : Nat → Prop} {a b : World} (h : LatB S a b) : LatB S a.drew b := ⟨h.os, h.tape, h.output, h.size, h.block⟩
theorem LatB.undrew {S : Nat → Prop} {a b : World} (h : LatB S a.drew b) : LatB S a b := ⟨h.os, h.tape, h.output, h.size, h.block⟩
theorem LatB.alloc {S : Nat → Prop} {a b : World} (h : LatB S a b) (o : Obj) : LatB S a (b.alloc o) := h.later ((Later.refl b).alloc o)
theorem LatB.grown {S : Nat → Prop} {a w w' : World} {row : Option Nat} (h : LatB S a w) (hg : w.grownBy w' row) (hr : ∀ k, row = some k → S k) : LatB S a w' :=
  h.trans ⟨hg.os, hg.tape, hg.output, hg.size, fun k hk hs => hg.block k hk (fun e => hs (hr k e.symm))⟩
theorem LatB.setCell {S : Nat → Prop} {a w : World} (h : LatB S a w) {p : Addr} (hp : S p.block ∨ a.heap.size ≤ p.block) (u : Value) : LatB S a (w.setCell p u) :=
  ⟨h.os, h.tape, h.output, by simpa [World.setCell] using h.size, fun k hk hs => by
    rw [Below.heap_setCell _ _ _ _ (fun e => by subst e; rcases hp with hp | hp; exact hs hp; omega)]; exact h.block k hk hs⟩
theorem LatB.cell {S : Nat → Prop} {w w' : World} (h : LatB S w w') {p : Addr} (hp : p.block < w.heap.size) (hs : ¬ S p.block) : w'.cell? p = w.cell? p := World.cell?_of_block (w := w) (h.block p.block hp hs)
theorem LatB.frozen {S : Nat → Prop} {w w' : World} (h : LatB S w w') {p : Addr} (hp : p.block < w.heap.size) (hs : ¬ S p.block) : w'.frozen? p = w.frozen? p := World.frozen?_of_block (w := w) (h.block p.block hp hs)

open Classical in
noncomputable def afterB (S : Nat → Prop) (w u : World) : World := if LatB S w u then u else w
theorem afterB_later (S : Nat → Prop) (w u : World) : LatB S w (afterB S w u) := by
  unfold afterB
  split
  · assumption
  · exact LatB.refl w
theorem afterB_of {S : Nat → Prop} {w u : World} (h : LatB S w u) : afterB S w u = u := by unfold afterB; rw [if_pos h]
@[go_sem] theorem afterB_cell (S : Nat → Prop) (w u : World) (a : Addr) (h : (w.cell? a).isSome = true) (hs : ¬ S a.block) : (afterB S w u).cell? a = w.cell? a := by
  obtain ⟨v, hv⟩ := Option.isSome_iff_exists.1 h
  exact (afterB_later S w u).cell (World.block_lt_of_cell? w a hv) hs
@[go_sem] theorem afterB_heap (S : Nat → Prop) (w u : World) (k : Nat) (h : (w.heap[k]?).isSome = true) (hs : ¬ S k) : (afterB S w u).heap[k]? = w.heap[k]? := by
  refine (afterB_later S w u).block k ?_ hs
  rcases Nat.lt_or_ge k w.heap.size with h' | h'
  · exact h'
  · simp [Array.getElem?_eq_none h'] at h
def AftB (S : Nat → Prop) (w : World) : World → Prop := fun w' => ∃ u, w' = afterB S w u
theorem aftB_iff {S : Nat → Prop} {w w' : World} : AftB S w w' ↔ LatB S w w' :=
  ⟨fun ⟨u, h⟩ => by rw [h]; exact afterB_later S w u, fun h => ⟨w', (afterB_of h).symm⟩⟩

section
variable {P : Program} {ops : Array Oper} {Q : Exit → Act → World → Prop} {md : Region.Mode} {S : Nat → Prop}

def wpPlan (P : Program) (ops : Array Oper) (S : Nat → Prop) (t : Nat) (Q : Exit → Act → World → Prop) : Plan → Act → World → Prop
  | .done last, a, w => wpQuiet P ops (AftB S w) (fun a' => Q .normal a' w) (pick ops last) a
  | .one l i ri, a, w =>
    wpQuiet P ops (AftB S w) (fun a' => wpList P ops (stagePost Q fun a'' w'' => (i < t → LatB S w w'') ∧ wpPlan P ops S t Q ri a'' w'') (pick ops [i]) a' w) (pick ops l) a
  | .two l i ri j rj, a, w =>
    wpQuiet P ops (AftB S w) (fun a' => wpList P ops (stagePost Q fun a'' w'' => (i < t → LatB S w w'') ∧ wpPlan P ops S t Q ri a'' w'') (pick ops [i]) a' w ∧
      wpList P ops (stagePost Q fun a'' w'' => (j < t → LatB S w w'') ∧ wpPlan P ops S t Q rj a'' w'') (pick ops [j]) a' w) (pick ops l) a
  | .three l i ri j rj k rk, a, w =>
    wpQuiet P ops (AftB S w) (fun a' => wpList P ops (stagePost Q fun a'' w'' => (i < t → LatB S w w'') ∧ wpPlan P ops S t Q ri a'' w'') (pick ops [i]) a' w ∧
      wpList P ops (stagePost Q fun a'' w'' => (j < t → LatB S w w'') ∧ wpPlan P ops S t Q rj a'' w'') (pick ops [j]) a' w ∧
      wpList P ops (stagePost Q fun a'' w'' => (k < t → LatB S w w'') ∧ wpPlan P ops S t Q rk a'' w'') (pick ops [k]) a' w) (pick ops l) a

theorem quiet_yields {o : Oper} (ho : readerKind o = true) {a : Act} {w : World} {K : Act → Prop} (hw : Region.wanted o (yielded ops a.tmps) = true) (h : o.quiet P a (AftB S w) K) :
    ∃ v, YieldsIf P ops (LatB S w) o v a ∧ K (a.put o.dst v) := by
  obtain ⟨v, h1, h2⟩ := h
  exact ⟨v, .inl ⟨hw, fun w' hw' => reader_quiet ho (h1 w' (aftB_iff.2 hw'))⟩, h2⟩

theorem wpQuiet_head {o : Oper} (ho : readerKind o = true) {a : Act} {w : World} {K : Act → Prop} {l : List Oper} (h : wpQuiet P ops (AftB S w) K (o :: l) a) :
    ∃ v, YieldsIf P ops (LatB S w) o v a ∧ wpQuiet P ops (AftB S w) K l (a.put o.dst v) := by
  by_cases hw : Region.wanted o (yielded ops a.tmps) = true
  · simp only [wpQuiet, hw, if_true] at h
    exact quiet_yields ho hw h
  · simp only [wpQuiet, hw] at h
    exact ⟨undef, .inr ⟨by simpa using hw, rfl⟩, h⟩

theorem eff_next {i : Nat} {t f : Nat} {l : List Nat} {listed : Array Bool} {w : World} {R : Act → World → Prop} (hp : okEff t l i listed = true)
    (ih : ∀ a'' w'', R a'' w'' → wpAnyT P md ops Q (LatB S w'') t f (setAll (l ++ [i]) listed) a'' w'') (a'' : Act) (w'' : World) (h : (i < t → LatB S w w'') ∧ R a'' w'') :
    (Past t ((setAll l listed).setIfInBounds i true) ∨ LatB S w w'') ∧ wpAnyT P md ops Q (LatB S w) t f ((setAll l listed).setIfInBounds i true) a'' w'' := by
  have e1 : setAll (l ++ [i]) listed = (setAll l listed).setIfInBounds i true := by simp [setAll]
  have ih' := ih a'' w'' h.2
  unfold okEff at hp
  rw [e1] at ih' hp
  simp only [Bool.or_eq_true, decide_eq_true_eq, List.all_eq_true, List.mem_range] at hp
  rcases hp with hp | hp
  · exact ⟨.inr (h.1 hp), wpAnyT_mono (fun x hx => (h.1 hp).trans hx) _ _ _ _ ih'⟩
  · have hpast : Past t ((setAll l listed).setIfInBounds i true) := fun j hj => hp j (by omega)
    exact ⟨.inl hpast, wpAnyT_past _ _ _ _ hpast ih'⟩

theorem run_tail {w : World} {K : Act → Prop} {C : World → Prop} {t : Nat} (hC : C w) :
    ∀ (l : List Nat) (listed : Array Bool) (a : Act), okTail md ops l listed = true → wpQuiet P ops (AftB S w) K (pick ops l) a → (∀ a', K a' → Q .normal a' w) → wpAnyT P md ops Q C t l.length listed a w
  | [], listed, a, hb, h, hk => ⟨by simpa [okTail] using hb, hk a h⟩
  | i :: l, listed, a, hb, h, hk => by
    simp only [okTail, Bool.and_eq_true, beq_iff_eq] at hb
    obtain ⟨⟨hr, hk1⟩, hb'⟩ := hb
    obtain ⟨_, o, ho, _⟩ := mem_ready.1 (show i ∈ Region.ready md ops listed by rw [hr]; simp)
    simp only [ho] at hk1
    have hp : pick ops (i :: l) = o :: pick ops l := by simp [pick, ho]
    rw [hp] at h
    obtain ⟨v, hy, h'⟩ := wpQuiet_head hk1 h
    have ih := run_tail (t := t) hC l (listed.setIfInBounds i true) _ hb' h' hk
    show wpAnyT P md ops Q C t (l.length + 1) listed a w
    unfold wpAnyT
    refine ⟨fun h0 => (by rw [h0] at hr; cases hr), fun j hj => ?_⟩
    rw [hr] at hj
    obtain rfl : j = i := by simpa using hj
    exact hy.wpOp ho (LatB.refl w) ⟨.inr hC, ih⟩

theorem run_row {t : Nat} {w : World} {K : Act → Prop} {f : Nat} (hs : Region.noSelect ops = true) (hQ : ∀ c a d v w, Q (.panic c) (Act.put a d v) w → Q (.panic c) a w) :
    ∀ (l : List Nat) (listed : Array Bool) (a : Act), V.Closed md ops listed → V.okRow md ops t l listed = true → wpQuiet P ops (AftB S w) K (pick ops l) a →
      (∀ a', K a' → wpAnyT P md ops Q (LatB S w) t f (setAll l listed) a' w) → wpAnyT P md ops Q (LatB S w) t (l.length + f) listed a w
  | [], listed, a, _, _, h, hk => by simpa [setAll] using hk a h
  | i :: l, listed, a, hcl, hb, h, hk => by
    simp only [V.okRow, Bool.and_eq_true, decide_eq_true_eq] at hb
    obtain ⟨⟨⟨⟨⟨⟨hr, hf⟩, hlt⟩, hk1⟩, hw1⟩, ht⟩, hb'⟩ := hb
    obtain ⟨o, ho⟩ : ∃ o, ops[i]? = some o := ⟨_, Array.getElem?_eq_getElem hlt⟩
    simp only [ho] at hk1
    have hp : pick ops (i :: l) = o :: pick ops l := by simp [pick, ho]
    rw [hp] at h
    obtain ⟨v, hy, h'⟩ := wpQuiet_head hk1 h
    have ih := run_row hs hQ l (listed.setIfInBounds i true) _ (hcl.set (by simpa using hr)) hb' h' (by simpa [setAll] using hk)
    have := V.wpAnyT_first (C := LatB S w) (t := t) (fuel := l.length + f) ho (fun l' h1 h2 => V.reach_ready h1 h2 hw1) (Region.noSelect_spec hs) (fun c a w => hQ c a _ v w) listed a w hcl (Region.free_spec ho hf) (by simpa using hr) (by simpa using ht) hy (LatB.refl w) ih
    simpa [Nat.add_right_comm] using this

theorem run_plan {t : Nat} (hs : Region.noSelect ops = true) (hQ : ∀ c a d v w, Q (.panic c) (Act.put a d v) w → Q (.panic c) a w) :
    ∀ (p : Plan) (n : Nat) (listed : Array Bool) (a : Act) (w : World), V.Closed md ops listed → p.has n = true → V.okPlan md ops t p listed = true → wpPlan P ops S t Q p a w → wpAnyT P md ops Q (LatB S w) t n listed a w
  | .done last, n, listed, a, w, hcl, hn, hb, h => by
    simp only [V.okPlan, Bool.or_eq_true, Bool.and_eq_true, beq_iff_eq] at hb
    simp only [Plan.has, beq_iff_eq] at hn
    simp only [wpPlan] at h
    subst hn
    rcases hb with hb | ⟨hb, he⟩
    · exact run_tail (C := LatB S w) (t := t) (LatB.refl w) last listed a hb h (fun a' h => h)
    · exact run_row (f := 0) hs hQ last listed a hcl hb h (fun a' h => ⟨he, h⟩)
  | .one l i ri, n, listed, a, w, hcl, hn, hb, h => by
    simp only [V.okPlan, Bool.and_eq_true, beq_iff_eq] at hb
    simp only [Plan.has, Bool.and_eq_true, decide_eq_true_eq] at hn
    obtain ⟨⟨⟨hrow, hr⟩, hp⟩, hi⟩ := hb
    obtain ⟨hn1, hn2⟩ := hn
    simp only [wpPlan] at h
    have := run_row (f := n - (l.length + 1) + 1) hs hQ l listed a hcl hrow h (fun a' ha' => by
      unfold wpAnyT
      refine ⟨fun h0 => (by rw [h0] at hr; cases hr), fun j hj => ?_⟩
      have hj0 := hj
      rw [hr] at hj
      obtain rfl : j = i := by simpa using hj
      exact run_one hj0 ha' (eff_next hp (fun a'' w'' h' => run_plan hs hQ ri _ _ a'' w'' (V.closed_next hcl hrow hj0) hn2 hi h')))
    rwa [show l.length + (n - (l.length + 1) + 1) = n by omega] at this
  | .two l i ri j rj, n, listed, a, w, hcl, hn, hb, h => by
    simp only [V.okPlan, Bool.and_eq_true, beq_iff_eq] at hb
    simp only [Plan.has, Bool.and_eq_true, decide_eq_true_eq] at hn
    obtain ⟨⟨⟨⟨⟨hrow, hr⟩, hp⟩, hi⟩, hp2⟩, hi2⟩ := hb
    obtain ⟨⟨hn1, hn2⟩, hn3⟩ := hn
    simp only [wpPlan] at h
    have := run_row (f := n - (l.length + 1) + 1) hs hQ l listed a hcl hrow h (fun a' ha' => by
      unfold wpAnyT
      refine ⟨fun h0 => (by rw [h0] at hr; cases hr), fun k hk => ?_⟩
      have hk0 := hk
      rw [hr] at hk
      simp only [List.mem_cons, List.not_mem_nil, or_false] at hk
      rcases hk with rfl | rfl
      · exact run_one hk0 ha'.1 (eff_next hp (fun a'' w'' h' => run_plan hs hQ ri _ _ a'' w'' (V.closed_next hcl hrow hk0) hn2 hi h'))
      · exact run_one hk0 ha'.2 (eff_next hp2 (fun a'' w'' h' => run_plan hs hQ rj _ _ a'' w'' (V.closed_next hcl hrow hk0) hn3 hi2 h')))
    rwa [show l.length + (n - (l.length + 1) + 1) = n by omega] at this
  | .three .., _, _, _, _, _, _, hb, _ => by simp [V.okPlan] at hb

/-- **A region that asks the tape, by a plan of ours.** -/
theorem wp_region_plan {id : Nat} {a : Act} {w : World} (t : Nat) (p : Plan) (hm : P.follows .mixedOrders = true)
    (hB : (Region.noSelect ops && p.has ops.size && V.okPlan .any ops t p (Array.replicate ops.size false)) = true)
    (hQ : ∀ c a d v w, Q (.panic c) (Act.put a d v) w → Q (.panic c) a w) (h : wpPlan P ops S t Q p a w.drew) : (Code.region id ops true).wp P Q a w := by
  simp only [Bool.and_eq_true] at hB
  obtain ⟨⟨hs, hn⟩, hb⟩ := hB
  exact wp_region_any hm (wpAny_of_T (C := LatB S w.drew) (t := t) _ _ _ _ (run_plan hs hQ p _ _ a _ (V.Closed.start _) hn hb h))
/-! The moves -/
theorem plan_done {t : Nat} {a : Act} {w : World} {last : List Nat}
    (h : ∀ K : Act → Prop, (∀ a', Q .normal a' w → K a') → wpQuiet P ops (fun x => ∃ u, x = afterB S w u) K (pick ops last) a) : wpPlan P ops S t Q (.done last) a w := by
  exact h _ (fun _ h => h)

/-- What stands behind one operation of a plan. -/
def Behind (P : Program) (ops : Array Oper) (S : Nat → Prop) (t i : Nat) (Q : Exit → Act → World → Prop) (w : World) (p : Plan) : Exit → Act → World → Prop :=
  stagePost Q fun a'' w'' => (i < t → LatB S w w'') ∧ wpPlan P ops S t Q p a'' w''

theorem plan_one {t i : Nat} {a : Act} {w : World} {l : List Nat} {p : Plan} {o : Oper} (ho : ops[i]? = some o)
    (h : ∀ K : Act → Prop, (∀ a', wpList P ops (Behind P ops S t i Q w p) [o] a' w → K a') → wpQuiet P ops (fun x => ∃ u, x = afterB S w u) K (pick ops l) a) : wpPlan P ops S t Q (.one l i p) a w := by
  refine h _ (fun a' h' => ?_)
  have hp : pick ops [i] = [o] := by simp [pick, ho]
  rw [hp]; exact h'

theorem plan_two {t i j : Nat} {a : Act} {w : World} {l : List Nat} {p q : Plan} {o u : Oper} (ho : ops[i]? = some o) (hu : ops[j]? = some u)
    (h : ∀ K : Act → Prop, (∀ a', (wpList P ops (Behind P ops S t i Q w p) [o] a' w ∧ wpList P ops (Behind P ops S t j Q w q) [u] a' w) → K a') → wpQuiet P ops (fun x => ∃ u, x = afterB S w u) K (pick ops l) a) : wpPlan P ops S t Q (.two l i p j q) a w := by
  refine h _ (fun a' h' => ?_)
  have hp : pick ops [i] = [o] := by simp [pick, ho]
  have hq : pick ops [j] = [u] := by simp [pick, hu]
  rw [hp, hq]; exact h'

theorem plan_three {t i j k : Nat} {a : Act} {w : World} {l : List Nat} {p q r : Plan} {o u x : Oper} (ho : ops[i]? = some o) (hu : ops[j]? = some u) (hx : ops[k]? = some x)
    (h : ∀ K : Act → Prop, (∀ a', (wpList P ops (Behind P ops S t i Q w p) [o] a' w ∧ wpList P ops (Behind P ops S t j Q w q) [u] a' w ∧ wpList P ops (Behind P ops S t k Q w r) [x] a' w) → K a') → wpQuiet P ops (fun x => ∃ u, x = afterB S w u) K (pick ops l) a) :
    wpPlan P ops S t Q (.three l i p j q k r) a w := by
  refine h _ (fun a' h' => ?_)
  have hp : pick ops [i] = [o] := by simp [pick, ho]
  have hq : pick ops [j] = [u] := by simp [pick, hu]
  have hr : pick ops [k] = [x] := by simp [pick, hx]
  rw [hp, hq, hr]; exact h'

/-- Behind an operation of a plan: the world is a later one, and the plan goes on. -/
theorem behind {t i : Nat} {a : Act} {w w' : World} {p : Plan} (h1 : LatB S w w') (h2 : wpPlan P ops S t Q p a w') : Behind P ops S t i Q w p .normal a w' := ⟨fun _ => h1, h2⟩
/-- Behind the first store, to which all else has come up. -/
theorem behind_store {t i : Nat} {a : Act} {w w' : World} {p : Plan} (h1 : ¬ i < t) (h2 : wpPlan P ops S t Q p a w') : Behind P ops S t i Q w p .normal a w' := ⟨fun h => absurd h h1, h2⟩

end
end S
end Go.Proofs.YtckeaibamgkegaaDoor
