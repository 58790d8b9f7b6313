/- rows of a call's own that are put behind, one beside the other: no base world, a base number alone -/
import Derived.Test.YtkjabiabeemfhaaGreatDoorZ2
import Derived.Test.YtkjabiabeemfhaaGreatDoorZ3
import Derived.ArgAppend
set_option linter.all false
set_option linter.all false
section
namespace Go.Proofs.YtkjabiabeemfhaaGreatDoor
namespace V
section
variable {P : Program} {ops : Array Oper} {Q : Exit → Act → World → Prop} {md : Region.Mode}
def Closed (md : Region.Mode) (ops : Array Oper) (listed : Array Bool) : Prop := ∀ k ok, ops[k]? = some ok → listed.getD k false = true → ∀ e ∈ ok.after, Region.binds md e = true → listed.getD e.on false = true
theorem Closed.set {listed : Array Bool} {i : Nat} (h : Closed md ops listed) (hi : i ∈ Region.ready md ops listed) : Closed md ops (listed.setIfInBounds i true) := by
 intro k ok hok hk e he hb
 by_cases hki : i = k
 ·subst hki
  obtain ⟨_, o, ho, hall⟩ := mem_ready.1 hi
  rw [hok] at ho
  cases ho
  exact getD_set_true (hall e he hb)
 ·rw [getD_set_ne false hki] at hk
  exact getD_set_true (h k ok hok hk e he hb)
theorem Closed.start (n : Nat) : Closed md ops (Array.replicate n false) := by
 intro k ok _ hk
 by_cases h : k < n <;> simp [h] at hk
def reachB (md : Region.Mode) (ops : Array Oper) : Nat → Nat → Nat → Bool
 | 0, _, _ => false
 | f + 1, t, i => match ops[t]? with
  | some ot => ot.after.any fun e => Region.binds md e && (e.on == i || reachB md ops f e.on i)
  | none => false
theorem reach_listed {listed : Array Bool} {i : Nat} (hc : Closed md ops listed) : ∀ (f t : Nat), reachB md ops f t i = true → listed.getD t false = true → listed.getD i false = true
 | 0, _, h, _ => by cases h
 | f + 1, t, h, ht => by
  unfold reachB at h
  cases ho : ops[t]? with
  | none => rw [ho] at h; cases h
  | some ot =>
   rw [ho] at h
   obtain ⟨e, he, hb⟩ := Array.any_eq_true'.1 h
   simp only [Bool.and_eq_true, Bool.or_eq_true, beq_iff_eq] at hb
   have h1 := hc t ot ho ht e he hb.1
   rcases hb.2 with h2 | h2
   ·rwa [h2] at h1
   ·exact reach_listed hc f e.on h2 h1
theorem reach_ready {listed : Array Bool} {i f t : Nat} (hc : Closed md ops listed) (ht : t ∈ Region.ready md ops listed) (h : reachB md ops f t i = true) : listed.getD i false = true := by
 obtain ⟨_, o, ho, hall⟩ := mem_ready.1 ht
 cases f with
 | zero => cases h
 | succ f =>
  unfold reachB at h
  rw [ho] at h
  obtain ⟨e, he, hb⟩ := Array.any_eq_true'.1 h
  simp only [Bool.and_eq_true, Bool.or_eq_true, beq_iff_eq] at hb
  have h1 := hall e he hb.1
  rcases hb.2 with h2 | h2
  ·rwa [h2] at h1
  ·exact reach_listed hc f e.on h2 h1
theorem wpAnyT_first {C : World → Prop} {t i : Nat} {oi : Oper} {v : Value} (hi : ops[i]? = some oi) (hre : ∀ l', Closed md ops l' → t ∈ Region.ready md ops l' → l'.getD i false = true) (hsel : ∀ (j : Nat) (o : Oper) cs b, ops[j]? = some o → o.op ≠ .select cs b)
  (hQ : ∀ c a w, Q (.panic c) (a.put oi.dst v) w → Q (.panic c) a w) :
  ∀ (fuel : Nat) (listed : Array Bool) (a : Act) (w : World), Closed md ops listed →
   (∀ j oj, ops[j]? = some oj → j ≠ i → listed.getD j true = false → (∀ e ∈ oj.after, Region.binds md e = true → e.on ≠ i) → oi.apart ops oj = true) →
   i ∈ Region.ready md ops listed → listed.getD t false = false → YieldsIf P ops C oi v a → C w →
   wpAnyT P md ops Q C t fuel (listed.setIfInBounds i true) (a.put oi.dst v) w → wpAnyT P md ops Q C t (fuel + 1) listed a w := by
 intro fuel
 induction fuel with
 | zero =>
  intro listed a w _ _ hr _ hy hS H
  refine ⟨fun h => (by rw [h] at hr; cases hr), fun j hj => ?_⟩
  by_cases hji : j = i
  ·subst hji; exact hy.wpOp hi hS ⟨.inr hS, H⟩
  ·have := ready_mono hj hji
   rw [H.1] at this
   cases this
 | succ fuel ih =>
  intro listed a w hcl hfree hr ht hy hS H
  refine ⟨fun h => (by rw [h] at hr; cases hr), fun j hj => ?_⟩
  by_cases hji : j = i
  ·subst hji; exact hy.wpOp hi hS ⟨.inr hS, H⟩
  ·have h1 := H.2 j (ready_mono hj hji)
   obtain ⟨hjun, oj, hoj, hall⟩ := mem_ready.1 hj
   have hiun : listed.getD i true = false := (mem_ready.1 hr).1
   have hiun' : (listed.setIfInBounds j true).getD i false = false := by
    rw [getD_set_ne false hji]
    rcases Nat.lt_or_ge i listed.size with h' | h'
    ·simp [h'] at hiun ⊢; exact hiun
    ·simp [Array.getElem?_eq_none h'] at hiun
   have hnot : ∀ e ∈ oj.after, Region.binds md e = true → e.on ≠ i := fun e he hb heq => by
    have h1 := hall e he hb
    rw [heq] at h1
    rcases Nat.lt_or_ge i listed.size with h' | h'
    ·simp [h'] at hiun h1; rw [hiun] at h1; cases h1
    ·simp [Array.getElem?_eq_none h'] at h1
   have h2 := wpOp_putIf hoj (hfree j oj hoj hji hjun hnot) (fun cs b => hsel i oi cs b hi) (fun cs b => hsel j oj cs b hoj) hQ hy h1
   have hfree' : ∀ k ok, ops[k]? = some ok → k ≠ i → (listed.setIfInBounds j true).getD k true = false →
     (∀ e ∈ ok.after, Region.binds md e = true → e.on ≠ i) → oi.apart ops ok = true := fun k ok hk hki hun hno => by
    refine hfree k ok hk hki ?_ hno
    by_cases hjk : j = k
    ·subst hjk; exact hjun
    ·rw [getD_set_ne true hjk] at hun; exact hun
   have hjt : j ≠ t := fun e => by
    subst e
    have h1 := hre listed hcl hj
    rcases Nat.lt_or_ge i listed.size with h' | h'
    ·simp [h'] at hiun h1; rw [hiun] at h1; cases h1
    ·simp [Array.getElem?_eq_none h'] at h1
   have hit : i ≠ t := fun e => by
    subst e
    have h1 := hre listed hcl hr
    rw [h1] at ht
    cases ht
   refine wpOp_mono (fun a' w' h3 => ?_) h2
   have hC' : C w' := by
    refine h3.2.1.resolve_left fun hp => ?_
    have := hp t (Nat.le_refl t)
    rw [getD_set_ne false hjt, getD_set_ne false hit, ht] at this
    cases this
   have ht' : (listed.setIfInBounds j true).getD t false = false := by rw [getD_set_ne false hjt]; exact ht
   refine ⟨.inr hC', ih (listed.setIfInBounds j true) a' w' (hcl.set hj) hfree' (ready_mono hr (Ne.symm hji)) ht' h3.1 hC' ?_⟩
   rw [Array.setIfInBounds_comm _ _ hji]
   exact h3.2.2
def okRow (md : Region.Mode) (ops : Array Oper) (t : Nat) : List Nat → Array Bool → Bool
 | [], _ => true
 | i :: l, listed =>
  ((Region.ready md ops listed).contains i && Region.free md ops listed i && decide (i < ops.size) && (match ops[i]? with | some o => readerKind o | none => false) &&
   reachB md ops 12 t i && !listed.getD t false) && okRow md ops t l (listed.setIfInBounds i true)
theorem closed_row {t : Nat} : ∀ (l : List Nat) (listed : Array Bool), Closed md ops listed → okRow md ops t l listed = true → Closed md ops (setAll l listed)
 | [], _, h, _ => h
 | i :: l, listed, h, hb => by
  simp only [okRow, Bool.and_eq_true] at hb
  exact closed_row l _ (h.set (by simpa using hb.1.1.1.1.1.1)) hb.2
theorem closed_next {t i : Nat} {l : List Nat} {listed : Array Bool} (h : Closed md ops listed) (hb : okRow md ops t l listed = true) (hi : i ∈ Region.ready md ops (setAll l listed)) : Closed md ops (setAll (l ++ [i]) listed) := by
 have e : setAll (l ++ [i]) listed = (setAll l listed).setIfInBounds i true := by simp [setAll]
 rw [e]
 exact (closed_row l listed h hb).set hi
def okPlan (md : Region.Mode) (ops : Array Oper) (t : Nat) : Plan → Array Bool → Bool
 | .done last, listed => okTail md ops last listed || (okRow md ops t last listed && Region.ready md ops (setAll last listed) == [])
 | .one l i ri, listed => okRow md ops t l listed && (Region.ready md ops (setAll l listed) == [i]) && okEff t l i listed && okPlan md ops t ri (setAll (l ++ [i]) listed)
 | .two l i ri j rj, listed => okRow md ops t l listed && (Region.ready md ops (setAll l listed) == [i, j]) && okEff t l i listed && okPlan md ops t ri (setAll (l ++ [i]) listed) &&
   okEff t l j listed && okPlan md ops t rj (setAll (l ++ [j]) listed)
 | .three .., _ => false
theorem run_row {t : Nat} {w : World} {K : Act → Prop} {f : Nat} (hs : Region.noSelect ops = true) (hQ : ∀ c a d v w, Q (.panic c) (Act.put a d v) w → Q (.panic c) a w) :
  ∀ (l : List Nat) (listed : Array Bool) (a : Act), Closed md ops listed → okRow md ops t l listed = true → wpQuiet P ops (Aft w) K (pick ops l) a →
   (∀ a', K a' → wpAnyT P md ops Q (Later w) t f (setAll l listed) a' w) → wpAnyT P md ops Q (Later w) t (l.length + f) listed a w
 | [], listed, a, _, _, h, hk => by simpa [setAll] using hk a h
 | i :: l, listed, a, hcl, hb, h, hk => by
  simp only [okRow, Bool.and_eq_true, decide_eq_true_eq] at hb
  obtain ⟨⟨⟨⟨⟨⟨hr, hf⟩, hlt⟩, hk1⟩, hw1⟩, ht⟩, hb'⟩ := hb
  obtain ⟨o, ho⟩ : ∃ o, ops[i]? = some o := ⟨_, Array.getElem?_eq_getElem hlt⟩
  simp only [ho] at hk1
  have hp : pick ops (i :: l) = o :: pick ops l := by simp [pick, ho]
  rw [hp] at h
  obtain ⟨v, hy, h'⟩ := wpQuiet_head hk1 h
  have ih := run_row hs hQ l (listed.setIfInBounds i true) _ (hcl.set (by simpa using hr)) hb' h' (by simpa [setAll] using hk)
  have := wpAnyT_first (C := Later w) (t := t) (fuel := l.length + f) ho (fun l' h1 h2 => reach_ready h1 h2 hw1) (Region.noSelect_spec hs) (fun c a w => hQ c a _ v w) listed a w hcl (Region.free_spec ho hf) (by simpa using hr) (by simpa using ht) hy (Later.refl w) ih
  simpa [Nat.add_right_comm] using this
theorem run_plan {t : Nat} (hs : Region.noSelect ops = true) (hQ : ∀ c a d v w, Q (.panic c) (Act.put a d v) w → Q (.panic c) a w) :
  ∀ (p : Plan) (n : Nat) (listed : Array Bool) (a : Act) (w : World), Closed md ops listed → p.has n = true → okPlan md ops t p listed = true → wpPlan P ops t Q p a w → wpAnyT P md ops Q (Later w) t n listed a w
 | .done last, n, listed, a, w, hcl, hn, hb, h => by
  simp only [okPlan, Bool.or_eq_true, Bool.and_eq_true, beq_iff_eq] at hb
  simp only [Plan.has, beq_iff_eq] at hn
  simp only [wpPlan] at h
  subst hn
  rcases hb with hb | ⟨hb, he⟩
  ·exact run_tail (C := Later w) (t := t) (Later.refl w) last listed a hb h (fun a' h => h)
  ·exact run_row (f := 0) hs hQ last listed a hcl hb h (fun a' h => ⟨he, h⟩)
 | .one l i ri, n, listed, a, w, hcl, hn, hb, h => by
  simp only [okPlan, Bool.and_eq_true, beq_iff_eq] at hb
  simp only [Plan.has, Bool.and_eq_true, decide_eq_true_eq] at hn
  obtain ⟨⟨⟨hrow, hr⟩, hp⟩, hi⟩ := hb
  obtain ⟨hn1, hn2⟩ := hn
  simp only [wpPlan] at h
  have := run_row (f := n - (l.length + 1) + 1) hs hQ l listed a hcl hrow h (fun a' ha' => by
   unfold wpAnyT
   refine ⟨fun h0 => (by rw [h0] at hr; cases hr), fun j hj => ?_⟩
   have hj0 := hj
   rw [hr] at hj
   obtain rfl : j = i := by simpa using hj
   exact run_one hj0 ha' (eff_next hp (fun a'' w'' h' => run_plan hs hQ ri _ _ a'' w'' (closed_next hcl hrow hj0) hn2 hi h')))
  rwa [show l.length + (n - (l.length + 1) + 1) = n by omega] at this
 | .two l i ri j rj, n, listed, a, w, hcl, hn, hb, h => by
  simp only [okPlan, Bool.and_eq_true, beq_iff_eq] at hb
  simp only [Plan.has, Bool.and_eq_true, decide_eq_true_eq] at hn
  obtain ⟨⟨⟨⟨⟨hrow, hr⟩, hp⟩, hi⟩, hp2⟩, hi2⟩ := hb
  obtain ⟨⟨hn1, hn2⟩, hn3⟩ := hn
  simp only [wpPlan] at h
  have := run_row (f := n - (l.length + 1) + 1) hs hQ l listed a hcl hrow h (fun a' ha' => by
   unfold wpAnyT
   refine ⟨fun h0 => (by rw [h0] at hr; cases hr), fun k hk => ?_⟩
   have hk0 := hk
   rw [hr] at hk
   simp only [List.mem_cons, List.not_mem_nil, or_false] at hk
   rcases hk with rfl | rfl
   ·exact run_one hk0 ha'.1 (eff_next hp (fun a'' w'' h' => run_plan hs hQ ri _ _ a'' w'' (closed_next hcl hrow hk0) hn2 hi h'))
   ·exact run_one hk0 ha'.2 (eff_next hp2 (fun a'' w'' h' => run_plan hs hQ rj _ _ a'' w'' (closed_next hcl hrow hk0) hn3 hi2 h')))
  rwa [show l.length + (n - (l.length + 1) + 1) = n by omega] at this
 | .three .., _, _, _, _, _, _, hb, _ => by simp [okPlan] at hb
theorem wp_region_plan {id : Nat} {a : Act} {w : World} (t : Nat) (p : Plan) (hm : P.follows .mixedOrders = true)
  (hB : (Region.noSelect ops && p.has ops.size && okPlan .any ops t p (Array.replicate ops.size false)) = true)
  (hQ : ∀ c a d v w, Q (.panic c) (Act.put a d v) w → Q (.panic c) a w) (h : wpPlan P ops t Q p a w.drew) : (Code.region id ops true).wp P Q a w := by
 simp only [Bool.and_eq_true] at hB
 obtain ⟨⟨hs, hn⟩, hb⟩ := hB
 exact wp_region_any hm (wpAny_of_T (C := Later w.drew) (t := t) _ _ _ _ (run_plan hs hQ p _ _ a _ (Closed.start _) hn hb h))
end
end V
end Go.Proofs.YtkjabiabeemfhaaGreatDoor
end
section
namespace Go.Proofs.YtkjabiabeemfhaaGreatDoor
open Go Go.RowKit
namespace S
structure LatB (S : Nat → Prop) (w w' : World) : Prop where
 os : w'.os = w.os
 tape : w'.tape = w.tape
 output : w'.output = w.output
 size : w.heap.size ≤ w'.heap.size
 block : ∀ k, k < w.heap.size → ¬ S k → w'.heap[k]? = w.heap[k]?
theorem LatB.refl {S : Nat → Prop} (w : World) : LatB S w w := ⟨rfl, rfl, rfl, Nat.le_refl _, fun _ _ _ => rfl⟩
theorem LatB.trans {S : Nat → Prop} {a b c : World} (h : LatB S a b) (k : LatB S b c) : LatB S a c :=
 ⟨k.os.trans h.os, k.tape.trans h.tape, k.output.trans h.output, Nat.le_trans h.size k.size, fun i hi hs => (k.block i (Nat.lt_of_lt_of_le hi h.size) hs).trans (h.block i hi hs)⟩
theorem LatB.of {S : Nat → Prop} {a b : World} (h : Later a b) : LatB S a b := ⟨h.os, h.tape, h.output, h.size, fun k hk _ => h.block k hk⟩
theorem LatB.mono {S S' : Nat → Prop} {a b : World} (h : LatB S a b) (k : ∀ i, S i → S' i) : LatB S' a b := ⟨h.os, h.tape, h.output, h.size, fun i hi hs => h.block i hi (fun e => hs (k i e))⟩
theorem LatB.later {S : Nat → Prop} {a b c : World} (h : LatB S a b) (k : Later b c) : LatB S a c := h.trans (.of k)
theorem LatB.drew {S : Nat → Prop} {a b : World} (h : LatB S a b) : LatB S a b.drew := h.later ((Later.refl b).drew)
theorem LatB.ofdrew {S : Nat → Prop} {a b : World} (h : LatB S a b) : LatB S a.drew b := ⟨h.os, h.tape, h.output, h.size, h.block⟩
theorem LatB.undrew {S : Nat → Prop} {a b : World} (h : LatB S a.drew b) : LatB S a b := ⟨h.os, h.tape, h.output, h.size, h.block⟩
theorem LatB.alloc {S : Nat → Prop} {a b : World} (h : LatB S a b) (o : Obj) : LatB S a (b.alloc o) := h.later ((Later.refl b).alloc o)
theorem LatB.grown {S : Nat → Prop} {a w w' : World} {row : Option Nat} (h : LatB S a w) (hg : w.grownBy w' row) (hr : ∀ k, row = some k → S k) : LatB S a w' :=
 h.trans ⟨hg.os, hg.tape, hg.output, hg.size, fun k hk hs => hg.block k hk (fun e => hs (hr k e.symm))⟩
theorem LatB.setCell {S : Nat → Prop} {a w : World} (h : LatB S a w) {p : Addr} (hp : S p.block ∨ a.heap.size ≤ p.block) (u : Value) : LatB S a (w.setCell p u) :=
 ⟨h.os, h.tape, h.output, by simpa [World.setCell] using h.size, fun k hk hs => by
  rw [Below.heap_setCell _ _ _ _ (fun e => by subst e; rcases hp with hp | hp; exact hs hp; omega)]; exact h.block k hk hs⟩
theorem LatB.cell {S : Nat → Prop} {w w' : World} (h : LatB S w w') {p : Addr} (hp : p.block < w.heap.size) (hs : ¬ S p.block) : w'.cell? p = w.cell? p := World.cell?_of_block (w := w) (h.block p.block hp hs)
theorem LatB.frozen {S : Nat → Prop} {w w' : World} (h : LatB S w w') {p : Addr} (hp : p.block < w.heap.size) (hs : ¬ S p.block) : w'.frozen? p = w.frozen? p := World.frozen?_of_block (w := w) (h.block p.block hp hs)
open Classical in
noncomputable def afterB (S : Nat → Prop) (w u : World) : World := if LatB S w u then u else w
theorem afterB_later (S : Nat → Prop) (w u : World) : LatB S w (afterB S w u) := by
 unfold afterB
 split
 ·assumption
 ·exact LatB.refl w
theorem afterB_of {S : Nat → Prop} {w u : World} (h : LatB S w u) : afterB S w u = u := by unfold afterB; rw [if_pos h]
@[go_sem] theorem afterB_cell (S : Nat → Prop) (w u : World) (a : Addr) (h : (w.cell? a).isSome = true) (hs : ¬ S a.block) : (afterB S w u).cell? a = w.cell? a := by
 obtain ⟨v, hv⟩ := Option.isSome_iff_exists.1 h
 exact (afterB_later S w u).cell (World.block_lt_of_cell? w a hv) hs
@[go_sem] theorem afterB_heap (S : Nat → Prop) (w u : World) (k : Nat) (h : (w.heap[k]?).isSome = true) (hs : ¬ S k) : (afterB S w u).heap[k]? = w.heap[k]? := by
 refine (afterB_later S w u).block k ?_ hs
 rcases Nat.lt_or_ge k w.heap.size with h' | h'
 ·exact h'
 ·simp [Array.getElem?_eq_none h'] at h
def AftB (S : Nat → Prop) (w : World) : World → Prop := fun w' => ∃ u, w' = afterB S w u
theorem aftB_iff {S : Nat → Prop} {w w' : World} : AftB S w w' ↔ LatB S w w' :=
 ⟨fun ⟨u, h⟩ => by rw [h]; exact afterB_later S w u, fun h => ⟨w', (afterB_of h).symm⟩⟩
section
variable {P : Program} {ops : Array Oper} {Q : Exit → Act → World → Prop} {md : Region.Mode} {S : Nat → Prop}
def wpPlan (P : Program) (ops : Array Oper) (S : Nat → Prop) (t : Nat) (Q : Exit → Act → World → Prop) : Plan → Act → World → Prop
 | .done last, a, w => wpQuiet P ops (AftB S w) (fun a' => Q .normal a' w) (pick ops last) a
 | .one l i ri, a, w =>
  wpQuiet P ops (AftB S w) (fun a' => wpList P ops (stagePost Q fun a'' w'' => (i < t → LatB S w w'') ∧ wpPlan P ops S t Q ri a'' w'') (pick ops [i]) a' w) (pick ops l) a
 | .two l i ri j rj, a, w =>
  wpQuiet P ops (AftB S w) (fun a' => wpList P ops (stagePost Q fun a'' w'' => (i < t → LatB S w w'') ∧ wpPlan P ops S t Q ri a'' w'') (pick ops [i]) a' w ∧
   wpList P ops (stagePost Q fun a'' w'' => (j < t → LatB S w w'') ∧ wpPlan P ops S t Q rj a'' w'') (pick ops [j]) a' w) (pick ops l) a
 | .three l i ri j rj k rk, a, w =>
  wpQuiet P ops (AftB S w) (fun a' => wpList P ops (stagePost Q fun a'' w'' => (i < t → LatB S w w'') ∧ wpPlan P ops S t Q ri a'' w'') (pick ops [i]) a' w ∧
   wpList P ops (stagePost Q fun a'' w'' => (j < t → LatB S w w'') ∧ wpPlan P ops S t Q rj a'' w'') (pick ops [j]) a' w ∧
   wpList P ops (stagePost Q fun a'' w'' => (k < t → LatB S w w'') ∧ wpPlan P ops S t Q rk a'' w'') (pick ops [k]) a' w) (pick ops l) a
theorem quiet_yields {o : Oper} (ho : readerKind o = true) {a : Act} {w : World} {K : Act → Prop} (hw : Region.wanted o (yielded ops a.tmps) = true) (h : o.quiet P a (AftB S w) K) :
  ∃ v, YieldsIf P ops (LatB S w) o v a ∧ K (a.put o.dst v) := by
 obtain ⟨v, h1, h2⟩ := h
 exact ⟨v, .inl ⟨hw, fun w' hw' => reader_quiet ho (h1 w' (aftB_iff.2 hw'))⟩, h2⟩
theorem wpQuiet_head {o : Oper} (ho : readerKind o = true) {a : Act} {w : World} {K : Act → Prop} {l : List Oper} (h : wpQuiet P ops (AftB S w) K (o :: l) a) :
  ∃ v, YieldsIf P ops (LatB S w) o v a ∧ wpQuiet P ops (AftB S w) K l (a.put o.dst v) := by
 by_cases hw : Region.wanted o (yielded ops a.tmps) = true
 ·simp only [wpQuiet, hw, if_true] at h
  exact quiet_yields ho hw h
 ·simp only [wpQuiet, hw] at h
  exact ⟨undef, .inr ⟨by simpa using hw, rfl⟩, h⟩
theorem eff_next {i : Nat} {t f : Nat} {l : List Nat} {listed : Array Bool} {w : World} {R : Act → World → Prop} (hp : okEff t l i listed = true)
  (ih : ∀ a'' w'', R a'' w'' → wpAnyT P md ops Q (LatB S w'') t f (setAll (l ++ [i]) listed) a'' w'') (a'' : Act) (w'' : World) (h : (i < t → LatB S w w'') ∧ R a'' w'') :
  (Past t ((setAll l listed).setIfInBounds i true) ∨ LatB S w w'') ∧ wpAnyT P md ops Q (LatB S w) t f ((setAll l listed).setIfInBounds i true) a'' w'' := by
 have e1 : setAll (l ++ [i]) listed = (setAll l listed).setIfInBounds i true := by simp [setAll]
 have ih' := ih a'' w'' h.2
 unfold okEff at hp
 rw [e1] at ih' hp
 simp only [Bool.or_eq_true, decide_eq_true_eq, List.all_eq_true, List.mem_range] at hp
 rcases hp with hp | hp
 ·exact ⟨.inr (h.1 hp), wpAnyT_mono (fun x hx => (h.1 hp).trans hx) _ _ _ _ ih'⟩
 ·have hpast : Past t ((setAll l listed).setIfInBounds i true) := fun j hj => hp j (by omega)
  exact ⟨.inl hpast, wpAnyT_past _ _ _ _ hpast ih'⟩
theorem run_tail {w : World} {K : Act → Prop} {C : World → Prop} {t : Nat} (hC : C w) :
  ∀ (l : List Nat) (listed : Array Bool) (a : Act), okTail md ops l listed = true → wpQuiet P ops (AftB S w) K (pick ops l) a → (∀ a', K a' → Q .normal a' w) → wpAnyT P md ops Q C t l.length listed a w
 | [], listed, a, hb, h, hk => ⟨by simpa [okTail] using hb, hk a h⟩
 | i :: l, listed, a, hb, h, hk => by
  simp only [okTail, Bool.and_eq_true, beq_iff_eq] at hb
  obtain ⟨⟨hr, hk1⟩, hb'⟩ := hb
  obtain ⟨_, o, ho, _⟩ := mem_ready.1 (show i ∈ Region.ready md ops listed by rw [hr]; simp)
  simp only [ho] at hk1
  have hp : pick ops (i :: l) = o :: pick ops l := by simp [pick, ho]
  rw [hp] at h
  obtain ⟨v, hy, h'⟩ := wpQuiet_head hk1 h
  have ih := run_tail (t := t) hC l (listed.setIfInBounds i true) _ hb' h' hk
  show wpAnyT P md ops Q C t (l.length + 1) listed a w
  unfold wpAnyT
  refine ⟨fun h0 => (by rw [h0] at hr; cases hr), fun j hj => ?_⟩
  rw [hr] at hj
  obtain rfl : j = i := by simpa using hj
  exact hy.wpOp ho (LatB.refl w) ⟨.inr hC, ih⟩
theorem run_row {t : Nat} {w : World} {K : Act → Prop} {f : Nat} (hs : Region.noSelect ops = true) (hQ : ∀ c a d v w, Q (.panic c) (Act.put a d v) w → Q (.panic c) a w) :
  ∀ (l : List Nat) (listed : Array Bool) (a : Act), V.Closed md ops listed → V.okRow md ops t l listed = true → wpQuiet P ops (AftB S w) K (pick ops l) a →
   (∀ a', K a' → wpAnyT P md ops Q (LatB S w) t f (setAll l listed) a' w) → wpAnyT P md ops Q (LatB S w) t (l.length + f) listed a w
 | [], listed, a, _, _, h, hk => by simpa [setAll] using hk a h
 | i :: l, listed, a, hcl, hb, h, hk => by
  simp only [V.okRow, Bool.and_eq_true, decide_eq_true_eq] at hb
  obtain ⟨⟨⟨⟨⟨⟨hr, hf⟩, hlt⟩, hk1⟩, hw1⟩, ht⟩, hb'⟩ := hb
  obtain ⟨o, ho⟩ : ∃ o, ops[i]? = some o := ⟨_, Array.getElem?_eq_getElem hlt⟩
  simp only [ho] at hk1
  have hp : pick ops (i :: l) = o :: pick ops l := by simp [pick, ho]
  rw [hp] at h
  obtain ⟨v, hy, h'⟩ := wpQuiet_head hk1 h
  have ih := run_row hs hQ l (listed.setIfInBounds i true) _ (hcl.set (by simpa using hr)) hb' h' (by simpa [setAll] using hk)
  have := V.wpAnyT_first (C := LatB S w) (t := t) (fuel := l.length + f) ho (fun l' h1 h2 => V.reach_ready h1 h2 hw1) (Region.noSelect_spec hs) (fun c a w => hQ c a _ v w) listed a w hcl (Region.free_spec ho hf) (by simpa using hr) (by simpa using ht) hy (LatB.refl w) ih
  simpa [Nat.add_right_comm] using this
theorem run_plan {t : Nat} (hs : Region.noSelect ops = true) (hQ : ∀ c a d v w, Q (.panic c) (Act.put a d v) w → Q (.panic c) a w) :
  ∀ (p : Plan) (n : Nat) (listed : Array Bool) (a : Act) (w : World), V.Closed md ops listed → p.has n = true → V.okPlan md ops t p listed = true → wpPlan P ops S t Q p a w → wpAnyT P md ops Q (LatB S w) t n listed a w
 | .done last, n, listed, a, w, hcl, hn, hb, h => by
  simp only [V.okPlan, Bool.or_eq_true, Bool.and_eq_true, beq_iff_eq] at hb
  simp only [Plan.has, beq_iff_eq] at hn
  simp only [wpPlan] at h
  subst hn
  rcases hb with hb | ⟨hb, he⟩
  ·exact run_tail (C := LatB S w) (t := t) (LatB.refl w) last listed a hb h (fun a' h => h)
  ·exact run_row (f := 0) hs hQ last listed a hcl hb h (fun a' h => ⟨he, h⟩)
 | .one l i ri, n, listed, a, w, hcl, hn, hb, h => by
  simp only [V.okPlan, Bool.and_eq_true, beq_iff_eq] at hb
  simp only [Plan.has, Bool.and_eq_true, decide_eq_true_eq] at hn
  obtain ⟨⟨⟨hrow, hr⟩, hp⟩, hi⟩ := hb
  obtain ⟨hn1, hn2⟩ := hn
  simp only [wpPlan] at h
  have := run_row (f := n - (l.length + 1) + 1) hs hQ l listed a hcl hrow h (fun a' ha' => by
   unfold wpAnyT
   refine ⟨fun h0 => (by rw [h0] at hr; cases hr), fun j hj => ?_⟩
   have hj0 := hj
   rw [hr] at hj
   obtain rfl : j = i := by simpa using hj
   exact run_one hj0 ha' (eff_next hp (fun a'' w'' h' => run_plan hs hQ ri _ _ a'' w'' (V.closed_next hcl hrow hj0) hn2 hi h')))
  rwa [show l.length + (n - (l.length + 1) + 1) = n by omega] at this
 | .two l i ri j rj, n, listed, a, w, hcl, hn, hb, h => by
  simp only [V.okPlan, Bool.and_eq_true, beq_iff_eq] at hb
  simp only [Plan.has, Bool.and_eq_true, decide_eq_true_eq] at hn
  obtain ⟨⟨⟨⟨⟨hrow, hr⟩, hp⟩, hi⟩, hp2⟩, hi2⟩ := hb
  obtain ⟨⟨hn1, hn2⟩, hn3⟩ := hn
  simp only [wpPlan] at h
  have := run_row (f := n - (l.length + 1) + 1) hs hQ l listed a hcl hrow h (fun a' ha' => by
   unfold wpAnyT
   refine ⟨fun h0 => (by rw [h0] at hr; cases hr), fun k hk => ?_⟩
   have hk0 := hk
   rw [hr] at hk
   simp only [List.mem_cons, List.not_mem_nil, or_false] at hk
   rcases hk with rfl | rfl
   ·exact run_one hk0 ha'.1 (eff_next hp (fun a'' w'' h' => run_plan hs hQ ri _ _ a'' w'' (V.closed_next hcl hrow hk0) hn2 hi h'))
   ·exact run_one hk0 ha'.2 (eff_next hp2 (fun a'' w'' h' => run_plan hs hQ rj _ _ a'' w'' (V.closed_next hcl hrow hk0) hn3 hi2 h')))
  rwa [show l.length + (n - (l.length + 1) + 1) = n by omega] at this
 | .three .., _, _, _, _, _, _, hb, _ => by simp [V.okPlan] at hb
theorem wp_region_plan {id : Nat} {a : Act} {w : World} (t : Nat) (p : Plan) (hm : P.follows .mixedOrders = true)
  (hB : (Region.noSelect ops && p.has ops.size && V.okPlan .any ops t p (Array.replicate ops.size false)) = true)
  (hQ : ∀ c a d v w, Q (.panic c) (Act.put a d v) w → Q (.panic c) a w) (h : wpPlan P ops S t Q p a w.drew) : (Code.region id ops true).wp P Q a w := by
 simp only [Bool.and_eq_true] at hB
 obtain ⟨⟨hs, hn⟩, hb⟩ := hB
 exact wp_region_any hm (wpAny_of_T (C := LatB S w.drew) (t := t) _ _ _ _ (run_plan hs hQ p _ _ a _ (V.Closed.start _) hn hb h))
theorem plan_done {t : Nat} {a : Act} {w : World} {last : List Nat}
  (h : ∀ K : Act → Prop, (∀ a', Q .normal a' w → K a') → wpQuiet P ops (fun x => ∃ u, x = afterB S w u) K (pick ops last) a) : wpPlan P ops S t Q (.done last) a w := by
 exact h _ (fun _ h => h)
def Behind (P : Program) (ops : Array Oper) (S : Nat → Prop) (t i : Nat) (Q : Exit → Act → World → Prop) (w : World) (p : Plan) : Exit → Act → World → Prop :=
 stagePost Q fun a'' w'' => (i < t → LatB S w w'') ∧ wpPlan P ops S t Q p a'' w''
theorem plan_one {t i : Nat} {a : Act} {w : World} {l : List Nat} {p : Plan} {o : Oper} (ho : ops[i]? = some o)
  (h : ∀ K : Act → Prop, (∀ a', wpList P ops (Behind P ops S t i Q w p) [o] a' w → K a') → wpQuiet P ops (fun x => ∃ u, x = afterB S w u) K (pick ops l) a) : wpPlan P ops S t Q (.one l i p) a w := by
 refine h _ (fun a' h' => ?_)
 have hp : pick ops [i] = [o] := by simp [pick, ho]
 rw [hp]; exact h'
theorem plan_two {t i j : Nat} {a : Act} {w : World} {l : List Nat} {p q : Plan} {o u : Oper} (ho : ops[i]? = some o) (hu : ops[j]? = some u)
  (h : ∀ K : Act → Prop, (∀ a', (wpList P ops (Behind P ops S t i Q w p) [o] a' w ∧ wpList P ops (Behind P ops S t j Q w q) [u] a' w) → K a') → wpQuiet P ops (fun x => ∃ u, x = afterB S w u) K (pick ops l) a) : wpPlan P ops S t Q (.two l i p j q) a w := by
 refine h _ (fun a' h' => ?_)
 have hp : pick ops [i] = [o] := by simp [pick, ho]
 have hq : pick ops [j] = [u] := by simp [pick, hu]
 rw [hp, hq]; exact h'
theorem behind {t i : Nat} {a : Act} {w w' : World} {p : Plan} (h1 : LatB S w w') (h2 : wpPlan P ops S t Q p a w') : Behind P ops S t i Q w p .normal a w' := ⟨fun _ => h1, h2⟩
theorem behind_store {t i : Nat} {a : Act} {w w' : World} {p : Plan} (h1 : ¬ i < t) (h2 : wpPlan P ops S t Q p a w') : Behind P ops S t i Q w p .normal a w' := ⟨fun h => absurd h h1, h2⟩
end
end S
end Go.Proofs.YtkjabiabeemfhaaGreatDoor
end
section
namespace Go.Proofs.YtkjabiabeemfhaaGreatDoor
open Go.RowKit
set_option maxRecDepth 100000
namespace B
section
variable {P : Program} {w : World} {e sz base : Nat} {v : Value} {n : Nat} {xs : List Value}
theorem run_append_fresh (t ty : TypeId) {bytes : Nat} (T : SliceOf P t e sz bytes) (hown : w.ownsRow base e sz v n xs)
  (a : Addr) (m c : Nat) (news : List Value) (hl : news.length = m * sz) (hnews : ∀ j u, news[j]? = some u → w.cell? (a.add j) = some u) (h1 : ∀ u ∈ news, u.oneCell' = true)
  (h63 : n + m ≤ maxLen) (hbytes : (n + m) * bytes ≤ 140737488355328) (hbase : base ≤ w.heap.size) :
  ∃ v' w', (Builtin.append_ #[t, t] ty #[v, .slice (some a) m c]).run P w = .ok v' w' ∧ w'.ownsRow base e sz v' (n + m) (xs ++ news) ∧ w.grownBy w' v.ownBlock ∧ (v'.ownBlock = v.ownBlock ∨ ∀ k, v'.ownBlock = some k → w.heap.size ≤ k) := by
 obtain ⟨i, z, t1, t2, t3, t4, t5, t6, t7⟩ := T
 obtain ⟨v', w', r1, r2, r3, r4⟩ := run_append_own (P := P) w base t ty e i z sz bytes t1 t2 t3 t4 t5 t6 t7 v n xs hown a m c news hl hnews h1 h63 hbytes hbase
 refine ⟨v', w', r1, r2, r3, ?_⟩
 subst t4
 subst t5
 have hsmall : n + m ≤ 9223372036854775807 := by simp only [maxLen] at h63; omega
 rcases hown.2 with ⟨rfl, rfl⟩ | ⟨g, cap, cur, rfl, hbg, hg, hnc, hcm, hcs, htake⟩
 ·have hx : xs = [] := List.eq_nil_of_length_eq_zero (by simpa using hown.1)
  subst hx
  obtain ⟨v2, w2, q1, q2, _⟩ := run_append_own (P := P) w w.heap.size t ty e i z i.size i.bytes t1 t2 t3 rfl rfl t6 t7 (.slice none 0 0) 0 [] (World.ownsRow_nil _ _ _ _) a m c news hl hnews h1 h63 hbytes (Nat.le_refl _)
  rw [r1] at q1
  cases q1
  exact .inr (fun k hk => (q2.lt k hk).1)
 ·by_cases hroom : n + m ≤ cap
  ·have hfit : n * i.size + news.length ≤ cur.size := by rw [hl, hcs, ← Nat.add_mul]; exact Nat.mul_le_mul_right _ hroom
   have hr := run_append_room (P := P) w t ty e i t1 t2 g n cap cur hg a m c news hl hnews h1 hroom hfit
   rw [r1] at hr
   simp only [Result.ok.injEq] at hr
   rw [hr.1]
   exact .inl rfl
  ·have holds : ∀ j u, xs[j]? = some u → w.cell? ((⟨g, 0, none⟩ : Addr).add j) = some u := hown.cells (g := g) rfl
   have hr := run_append_grow (P := P) w t ty e i z t1 t2 t3 ⟨g, 0, none⟩ n cap xs hown.1 holds a m c news hl hnews (by omega) (by omega) (growslice_fits (by omega) hbytes)
   rw [r1] at hr
   simp only [Result.ok.injEq] at hr
   rw [hr.1]
   refine .inr (fun k hk => ?_)
   simp only [Value.ownBlock, Option.some.injEq] at hk
   omega
theorem wpList_app {ops : Array Oper} {rest : List Oper} {o : Oper} {a : Act} {Q : Exit → Act → World → Prop} {t bytes : Nat} (T : SliceOf P t e sz bytes) (hM : w.ownsRow base e sz v n xs) (hbase : base ≤ w.heap.size) (hgd : o.guard = none) (s x : Operand)
  (ho : o.op = .call { callee := .builtin .append, args := #[s, x], argTypes := #[t, t] }) (hs : a.eval s = v)
  (ad : Addr) (m c : Nat) (news : List Value) (hx : a.eval x = .slice (some ad) m c) (hl : news.length = m * sz) (hnews : ∀ j u, news[j]? = some u → w.cell? (ad.add j) = some u) (h1 : ∀ u ∈ news, u.oneCell' = true)
  (h63 : (n + m) * bytes ≤ 140737488355328) (h64 : n + m ≤ maxLen)
  (h : ∀ v' w', w'.ownsRow base e sz v' (n + m) (xs ++ news) → w.grownBy w' v.ownBlock → (v'.ownBlock = v.ownBlock ∨ ∀ k, v'.ownBlock = some k → w.heap.size ≤ k) → wpList P ops Q rest (a.put o.dst v') w') : wpList P ops Q (o :: rest) a w := by
 refine wpList_plain hgd fun _ hK => ?_
 obtain ⟨v', w', hr, h2, h3, h4⟩ := run_append_fresh (P := P) t o.type T hM ad m c news hl hnews h1 h64 h63 hbase
 unfold Oper.wp execOp
 simp only [ho, resolve, invoke, builtin, Sem.run_bind, Sem.run_pure, Result.andThen_ok, List.map_toArray, List.map_cons, List.map_nil, hs, hx, hr]
 exact hK _ _ (h v' w' h2 h3 h4)
theorem wpList_push {ops : Array Oper} {rest : List Oper} {o : Oper} {a : Act} {Q : Exit → Act → World → Prop} {t bytes : Nat} {ta : TypeId} {news : Array Value} (T : SliceOf P t e sz bytes) (hM : w.ownsRow base e sz v n xs) (hbase : base ≤ w.heap.size) (hgd : o.guard = none) (s x : Operand)
  (ho : o.op = .call { callee := .builtin .append, args := #[s, x], argTypes := #[t, t] }) (hs : a.eval s = v) (c b : Nat) (hx : a.eval x = .slice (some ⟨b, 0, none⟩) 1 c) (hb : b = w.heap.size) (hl : news.size = sz) (h1 : ∀ u ∈ news.toList, u.oneCell' = true)
  (h63 : (n + 1) * bytes ≤ 140737488355328) (h64 : n + 1 ≤ maxLen)
  (h : ∀ v' w', w'.ownsRow base e sz v' (n + 1) (xs ++ news.toList) → (w.alloc (.cells news ta)).grownBy w' v.ownBlock → (v'.ownBlock = v.ownBlock ∨ ∀ k, v'.ownBlock = some k → w.heap.size ≤ k) → wpList P ops Q rest (a.put o.dst v') w') : wpList P ops Q (o :: rest) a (w.alloc (.cells news ta)) := by
 subst hb
 have hc := (own_get (own_alloc w news ta)).2.1
 have hM' : (w.alloc (.cells news ta)).ownsRow base e sz v n xs := by
  refine hM.kept (row := none) ?_ (by cases v.ownBlock <;> simp)
  exact ⟨rfl, rfl, rfl, by simp, fun k hk _ => Below.heap_alloc _ _ _ hk⟩
 refine wpList_app T hM' (by simp; omega) hgd s x ho hs ⟨w.heap.size, 0, none⟩ 1 c news.toList hx (by rw [Nat.one_mul, Array.length_toList, hl]) ?_ h1 h63 h64 (fun v' w' a b c => h v' w' a b (c.imp id (fun h k hk => by have := h k hk; simp at this; omega)))
 intro j u hj
 rw [add_plain, Nat.zero_add, hc j, ← Array.getElem?_toList, hj]
end
def Apart (v u : Value) : Prop := ∀ k, v.ownBlock = some k → u.ownBlock ≠ some k
section
variable {w w' : World} {e sz base : Nat} {v u : Value} {n : Nat} {xs : List Value}
theorem Apart.symm (h : Apart v u) : Apart u v := fun k hk e => h k e hk
theorem Apart.none (u : Value) {n c : Nat} : Apart u (.slice none n c) := fun _ _ e => by cases e
theorem owns_later (h : w.ownsRow base e sz u n xs) (hb : Later w w') : w'.ownsRow base e sz u n xs := by
 refine h.kept (row := none) ⟨hb.os, hb.tape, hb.output, hb.size, fun k hk _ => hb.block k hk⟩ ?_
 cases u.ownBlock <;> simp
theorem owns_set (h : w.ownsRow base e sz u n xs) {k i : Nat} (hne : u.ownBlock ≠ some k) (x : Value) : (w.setCell ⟨k, i, none⟩ x).ownsRow base e sz u n xs := by
 obtain ⟨h1, h2⟩ := h
 refine ⟨h1, ?_⟩
 rcases h2 with h2 | ⟨g, cap, cur, rfl, hb, hg, h3⟩
 ·exact .inl h2
 ·refine .inr ⟨g, cap, cur, rfl, hb, ?_, h3⟩
  rw [Below.heap_setCell _ _ _ _ (fun e => hne (congrArg some e))]
  exact hg
theorem own_grown {l : List (Nat × Array Value)} {row : Option Nat} (h : Own w l) (hg : w.grownBy w' row) (hr : ∀ z ∈ l, row ≠ some z.1) : Own w' l := by
 induction l with
 | nil => trivial
 | cons z l ih =>
  obtain ⟨b, A⟩ := z
  have hb := hg.block b h.1.1 (fun e => hr _ (List.mem_cons_self ..) e.symm)
  refine ⟨⟨Nat.lt_of_lt_of_le h.1.1 hg.size, fun i => ?_, fun i hi => ?_⟩, ih h.2 (fun z hz => hr z (List.mem_cons_of_mem _ hz))⟩
  ·rw [World.cell?_of_block (w := w) (a := ⟨b, i, Option.none⟩) hb]; exact h.1.2.1 i
  ·rw [World.frozen?_of_block (w := w) (a := ⟨b, i, Option.none⟩) hb]; exact h.1.2.2 i hi
theorem own_at {b k : Nat} {A : Array Value} (h : Own w [(b, A)]) (hk : k < A.size) (x : Value) : Own (w.setCell ⟨b, k, Option.none⟩ x) [(b, A.setIfInBounds k x)] :=
 Own.cons (by simpa [World.setCell] using h.1.1) (fun i => set_own h.1.2.1 x hk i) (fun i hi => set_frozen (n := A.size) h.1.2.2 x i (by simpa using hi)) trivial
theorem own_far {l : List (Nat × Array Value)} {b k : Nat} (h : Own w l) (hne : ∀ z ∈ l, b ≠ z.1) (x : Value) : Own (w.setCell ⟨b, k, Option.none⟩ x) l := by
 induction l with
 | nil => trivial
 | cons z l ih =>
  obtain ⟨c, A⟩ := z
  exact ⟨⟨by simpa [World.setCell] using h.1.1, fun i => set_far h.1.2.1 x (hne _ (List.mem_cons_self ..)) i, fun i hi => set_frozen (n := A.size) h.1.2.2 x i hi⟩, ih h.2 (fun z hz => hne z (List.mem_cons_of_mem _ hz))⟩
theorem grown_lat {row : Option Nat} {a : World} (h : Later a w) (hg : w.grownBy w' row) (hr : ∀ k, row = some k → a.heap.size ≤ k) : Later a w' := Later.grown h hg hr
theorem owns_ints {zs : List Int} (h : w.ownsRow base e 1 v n (zs.map (Value.int .i64))) : IsInts w v zs ∧ n = zs.length := by
 have hn : n = zs.length := by have := h.1; simp at this; omega
 refine ⟨?_, hn⟩
 subst hn
 rcases h.2 with ⟨h1, h2⟩ | ⟨g, cap, cur, h1, h2, h3, h4, h5, h6, h7⟩
 ·exact .inl ⟨by rw [h1], List.eq_nil_of_length_eq_zero h2⟩
 ·refine .inr ⟨g, 0, cap, h1, (h.lt g (by rw [h1]; rfl)).2, h4, h5, fun j hj => ?_⟩
  have := h.cells (g := g) (by rw [h1]; rfl) j (.int .i64 zs[j]) (by simp [hj])
  rwa [add_plain] at this
theorem owns_form (h : w.ownsRow base e sz v n xs) : ∃ p cap, v = .slice p n cap := by
 rcases h.2 with ⟨h1, h2⟩ | ⟨g, cap, cur, h1, _⟩
 ·subst h2; exact ⟨_, _, h1⟩
 ·exact ⟨_, _, h1⟩
theorem owns_base (h : w.ownsRow base e sz v n xs) : ∀ k, v.ownBlock = some k → base ≤ k ∧ k < w.heap.size := h.lt
end
section
variable {α : Type} {sz : Nat} {f : α → Nat → Value} {w : World} {v : Value} {xs : List α}
theorem cellsAt (h : IsRow sz f w v xs) (cs : α → List Value) (hcs : ∀ x, (cs x).length = sz) (hf : ∀ x j, j < sz → (cs x)[j]? = some (f x j)) (hsz : 0 < sz) (h0 : v ≠ .slice none 0 0) :
  ∃ ad cap, v = .slice (some ad) xs.length cap ∧ xs.length ≤ maxLen ∧ ∀ j u, (xs.flatMap cs)[j]? = some u → w.cell? (ad.add j) = some u := by
 rcases h with ⟨⟨p, h1⟩, h2⟩ | ⟨b, o, cap, h1, h2, h3, h4, h5⟩
 ·subst h2
  cases p with
  | none => exact absurd h1 h0
  | some ad => exact ⟨ad, 0, h1, by simp, fun j u hj => by simp at hj⟩
 ·refine ⟨⟨b, o, Option.none⟩, cap, h1, Nat.le_trans h3 h4, fun j u hj => ?_⟩
  have hjl : j < (xs.flatMap cs).length := (List.getElem?_eq_some_iff.1 hj).1
  rw [flat_len cs hcs] at hjl
  have hi : j / sz < xs.length := by rw [Nat.div_lt_iff_lt_mul hsz]; exact hjl
  have hm := Nat.mod_lt j hsz
  have e : j = j / sz * sz + j % sz := by rw [Nat.mul_comm]; exact (Nat.div_add_mod j sz).symm
  have e2 := h5 (j / sz) hi (j % sz) hm
  rw [add_plain, ← hj]
  rw [e, flat_get cs hcs xs (j / sz) hi (j % sz) hm, hf _ _ hm, ← Nat.add_assoc]
  exact e2
theorem wpList_rows {P : Program} {base : Nat} {e t bytes : Nat} {V : Value} {L : List α} {ops : Array Oper} {rest : List Oper} {o : Oper} {a : Act} {Q : Exit → Act → World → Prop} (cs : α → List Value) (hcs : ∀ x, (cs x).length = sz) (hf : ∀ x j, j < sz → (cs x)[j]? = some (f x j)) (h1 : ∀ x, ∀ u ∈ cs x, u.oneCell' = true)
  (T : SliceOf P t e sz bytes) (hM : w.ownsRow base e sz V L.length (L.flatMap cs)) (hbase : base ≤ w.heap.size) (hN : IsRow sz f w v xs) (hgd : o.guard = none) (s x : Operand)
  (ho : o.op = .call { callee := .builtin .append, args := #[s, x], argTypes := #[t, t] }) (hs : a.eval s = V) (hx : a.eval x = v) (h64 : L.length + xs.length ≤ 1000000) (hb : bytes ≤ 1000)
  (h : ∀ v' w', w'.ownsRow base e sz v' (L ++ xs).length ((L ++ xs).flatMap cs) → w.grownBy w' V.ownBlock → (v'.ownBlock = V.ownBlock ∨ ∀ k, v'.ownBlock = some k → w.heap.size ≤ k) → wpList P ops Q rest (a.put o.dst v') w') : wpList P ops Q (o :: rest) a w := by
 have hsz : 0 < sz := by obtain ⟨_, _, _, _, _, _, _, _, h⟩ := T; exact h
 by_cases h0 : v = .slice Option.none 0 0
 ·have hx0 : xs = [] := by
   rcases hN with ⟨_, h2⟩ | ⟨b', o', c', h1, _⟩
   ·exact h2
   ·rw [h0] at h1; cases h1
  subst hx0
  subst h0
  obtain ⟨i, z, t1, t2, t3, t4, t5, t6, t7⟩ := T
  exact wpList_append_own_none hgd s x t ho base e i sz t1 t2 V L.length (L.flatMap cs) hs hM hx (h V w (by rw [List.append_nil]; exact hM) ⟨rfl, rfl, rfl, Nat.le_refl _, fun _ _ _ => rfl⟩ (.inl rfl))
 ·obtain ⟨ad, c, rfl, _, hc⟩ := cellsAt hN cs hcs hf hsz h0
  refine wpList_app T hM hbase hgd s x ho hs ad xs.length c (xs.flatMap cs) hx (flat_len (sz := sz) cs hcs xs) hc (fun u hu => ?_) ?_ (by unfold maxLen; omega) (fun v' w' h1 h2 h3 => h v' w' ?_ h2 h3)
  ·obtain ⟨y, _, hy⟩ := List.mem_flatMap.1 hu
   exact h1 y u hy
  ·have := Nat.mul_le_mul h64 hb
   omega
  ·rw [List.length_append, List.flatMap_append]
   exact h1
theorem owns_row {base : Nat} {e : TypeId} {n : Nat} (cs : α → List Value) (hcs : ∀ x, (cs x).length = sz) (hf : ∀ x j, j < sz → (cs x)[j]? = some (f x j)) (hsz : 0 < sz) (h : w.ownsRow base e sz v n (xs.flatMap cs)) : IsRow sz f w v xs ∧ n = xs.length := by
 have hn : n = xs.length := by have := h.1; rw [flat_len cs hcs] at this; exact Nat.eq_of_mul_eq_mul_right hsz this.symm
 refine ⟨?_, hn⟩
 subst hn
 rcases h.2 with ⟨h1, h2⟩ | ⟨g, cap, cur, h1, h2, h3, h4, h5, h6, h7⟩
 ·exact .inl ⟨⟨Option.none, by rw [h1]⟩, List.eq_nil_of_length_eq_zero h2⟩
 ·refine .inr ⟨g, 0, cap, h1, (h.lt g (by rw [h1]; rfl)).2, h4, h5, fun i hi j hj => ?_⟩
  have := h.cells (g := g) (by rw [h1]; rfl) (i * sz + j) (f xs[i] j) (by rw [flat_get cs hcs xs i hi j hj]; exact hf _ _ hj)
  rwa [add_plain, ← Nat.add_assoc] at this
end
end B
end Go.Proofs.YtkjabiabeemfhaaGreatDoor
end
