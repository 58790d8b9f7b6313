/- maps whose keys are structs: look up, put -/
import Derived.Test.YtckeaibamgkegaaDoorRowS
import Derived.DeepKeys4
import Derived.Maps.Own
set_option linter.all false
namespace Go.Proofs.YtckeaibamgkegaaDoor
open Go.RowKit
set_option maxRecDepth 100000
open Go.WideMaps Go.ChangeMaps

/-- What we want of a map's keys. -/
structure KL (P : Program) (k : TypeId) : Prop where
  check : ∀ (w : World) (em : Bool) {v : Value} {l : Lit}, keyOf P k v = some l → (Instr.checkKey em 10000 k v).run P w = .ok () w
  find : ∀ (w : World) {x : Value} {lx : Lit}, keyOf P k x = some lx → ∀ es : List MapEntry, (∀ e ∈ es, ∃ l, keyOf P k e.key = some l) →
    ((Instr.findKey k x es).run P w = .ok none w ∧ ∀ e ∈ es, e.key ≠ x) ∨ ∃ j e, (Instr.findKey k x es).run P w = .ok (some (j, e.val)) w ∧ es[j]? = some e ∧ e.key = x
  stays : ∀ (w : World) {v : Value} {l : Lit}, keyOf P k v = some l → (Instr.keyThatStays v v).run P w = .ok v w
theorem KL.of {P : Program} {k : TypeId} (K : KeyLaw P k) : KL P k := ⟨K.check, K.find, K.stays⟩
theorem keyOf_int {P : Program} {k : TypeId} {kd : IntKind} (hk : P.underlying k = some (.int kd)) {n : Int} (h : (Lit.int kd n).wf = true) : keyOf P k (.int kd n) = some (.int kd n) := by
  simp [keyOf, mapKey, hk, h]
theorem int_of_keyOf {P : Program} {k : TypeId} {kd : IntKind} (hk : P.underlying k = some (.int kd)) {v : Value} {l : Lit} (h : keyOf P k v = some l) : ∃ n, v = .int kd n := by
  cases v <;> simp [keyOf, mapKey, hk] at h
  rename_i kd' n
  exact ⟨n, by rw [h.1.1]⟩
theorem int_law {P : Program} {k : TypeId} {kd : IntKind} (hk : P.underlying k = some (.int kd)) : KL P k where
  check w em _ _ h := by
    obtain ⟨n, rfl⟩ := int_of_keyOf hk h
    exact MapKept.run_checkKey hk (d := .int kd) (k := .int kd n) rfl em 9999
  find w _ _ hx es hes := by
    obtain ⟨n, rfl⟩ := int_of_keyOf hk hx
    have hks : ∀ x ∈ es, MapKept.IsKey (.int kd) x.key := fun x hxm => by
      obtain ⟨l, hl⟩ := hes x hxm
      obtain ⟨m, e⟩ := int_of_keyOf hk hl
      rw [e]
      exact rfl
    rcases MapKept.findNow_spec (d := .int kd) (k := .int kd n) rfl es 0 hks with ⟨h1, h2⟩ | ⟨j, e0, h1, h2, h3⟩
    · exact Or.inl ⟨MapKept.run_findKey hk h1, h2⟩
    · exact Or.inr ⟨j, e0, by simpa using MapKept.run_findKey hk h1, h2, h3⟩
  stays w _ _ h := by
    obtain ⟨n, rfl⟩ := int_of_keyOf hk h
    exact MapKept.run_keyThatStays (d := .int kd) (k := .int kd n) rfl

section
variable {κ β : Type} [DecidableEq κ]
/-- The first entry of a key. -/
def getA (l : List (κ × β)) (k : κ) : Option β := (l.find? (fun p => decide (p.1 = k))).map (·.2)
/-- With one more, in place of another one of its key. -/
def putA (l : List (κ × β)) (k : κ) (v : β) : List (κ × β) := if l.any (fun p => decide (p.1 = k)) then l.map (fun p => if p.1 = k then (k, v) else p) else l ++ [(k, v)]
theorem getA_none {l : List (κ × β)} {k : κ} (h : ∀ p ∈ l, p.1 ≠ k) : getA l k = none := by
  unfold getA
  rw [List.find?_eq_none.2 (by simpa using h)]; rfl
theorem getA_some {l : List (κ × β)} (hn : (l.map (·.1)).Nodup) {p : κ × β} (hp : p ∈ l) : getA l p.1 = some p.2 := by
  unfold getA
  induction l with
  | nil => cases hp
  | cons q r ih =>
    rw [List.map_cons, List.nodup_cons] at hn
    rw [List.find?_cons]
    by_cases h : q.1 = p.1
    · rcases List.mem_cons.1 hp with rfl | hp
      · simp
      · exact absurd (List.mem_map.2 ⟨p, hp, h.symm⟩) hn.1
    · rcases List.mem_cons.1 hp with rfl | hp
      · exact absurd rfl h
      · simp only [h, decide_false]
        exact ih hn.2 hp
theorem any_key {l : List (κ × β)} {k : κ} : l.any (fun p => decide (p.1 = k)) = true ↔ ∃ p ∈ l, p.1 = k := by simp
theorem putA_keys (l : List (κ × β)) (k : κ) (v : β) (hn : (l.map (·.1)).Nodup) : ((putA l k v).map (·.1)).Nodup := by
  unfold putA
  split
  · rw [List.map_map]
    have : (l.map ((fun x : κ × β => x.1) ∘ fun p => if p.1 = k then (k, v) else p)) = l.map (·.1) := by
      apply List.map_congr_left
      intro p _
      simp only [Function.comp]
      split
      · rename_i h; exact h.symm
      · rfl
    rw [this]; exact hn
  · rename_i h
    rw [List.map_append, List.nodup_append]
    refine ⟨hn, by simp, ?_⟩
    intro a ha b hb
    simp at hb
    subst hb
    rintro rfl
    obtain ⟨p, hp, rfl⟩ := List.mem_map.1 ha
    exact h (any_key.2 ⟨p, hp, rfl⟩)
theorem putA_get (l : List (κ × β)) (k j : κ) (v : β) (hn : (l.map (·.1)).Nodup) : getA (putA l k v) j = if j = k then some v else getA l j := by
  have hn' := putA_keys l k v hn
  by_cases hj : j = k
  · subst hj
    rw [if_pos rfl]
    have hm : (j, v) ∈ putA l j v := by
      unfold putA
      split
      · rename_i h
        obtain ⟨p, hp, hk⟩ := any_key.1 h
        exact List.mem_map.2 ⟨p, hp, by rw [if_pos hk]⟩
      · simp
    exact getA_some hn' hm
  · rw [if_neg hj]
    cases hg : getA l j with
    | none =>
      apply getA_none
      intro p hp hk
      unfold putA at hp
      split at hp
      · obtain ⟨q, hq, rfl⟩ := List.mem_map.1 hp
        split at hk
        · exact hj hk.symm
        · subst hk; rw [getA_some hn hq] at hg; cases hg
      · rcases List.mem_append.1 hp with hp | hp
        · subst hk; rw [getA_some hn hp] at hg; cases hg
        · simp at hp; subst hp; exact hj hk.symm
    | some u =>
      have : ∃ p ∈ l, p.1 = j ∧ p.2 = u := by
        unfold getA at hg
        obtain ⟨p, hp, rfl⟩ := Option.map_eq_some_iff.1 hg
        have h1 := List.find?_some hp
        exact ⟨p, List.mem_of_find?_eq_some hp, by simpa using h1, rfl⟩
      obtain ⟨p, hp, rfl, rfl⟩ := this
      refine getA_some hn' (p := p) ?_
      unfold putA
      split
      · exact List.mem_map.2 ⟨p, hp, by rw [if_neg hj]⟩
      · exact List.mem_append_left _ hp

end

section
variable {κ β : Type}
variable {P : Program} {k e t : TypeId} {ek : κ → Value} {ev : κ → β → Value} {w : World} {b : Nat} {l : List (κ × β)}
/-- A block is a map that reads as a list of keys and what they hold. -/
def MapL (P : Program) (k : TypeId) (ek : κ → Value) (ev : κ → β → Value) (w : World) (b : Nat) (l : List (κ × β)) : Prop :=
  ∃ es clock, w.heap[b]? = some (.map es clock) ∧ es.toList.map (fun e => (e.key, e.val)) = l.map (fun p => (ek p.1, ev p.1 p.2)) ∧ (l.map (·.1)).Nodup ∧ ∀ p ∈ l, ∃ lit, keyOf P k (ek p.1) = some lit
theorem MapL.lt (h : MapL P k ek ev w b l) : b < w.heap.size := by obtain ⟨es, cl, h1, _⟩ := h; exact (Array.getElem?_eq_some_iff.1 h1).1
theorem MapL.later {w' : World} (h : MapL P k ek ev w b l) (hb : Later w w') : MapL P k ek ev w' b l := by
  obtain ⟨es, cl, h1, h2⟩ := h
  exact ⟨es, cl, (hb.block b (Array.getElem?_eq_some_iff.1 h1).1).trans h1, h2⟩
theorem MapL.kept {w' : World} {row : Option Nat} (h : MapL P k ek ev w b l) (hg : w.grownBy w' row) (hne : some b ≠ row) : MapL P k ek ev w' b l := by
  obtain ⟨es, cl, h1, h2⟩ := h
  exact ⟨es, cl, (hg.block b (Array.getElem?_eq_some_iff.1 h1).1 hne).trans h1, h2⟩
theorem MapL.made (w : World) : MapL P k ek ev (w.alloc (.map #[] 0)) w.heap.size ([] : List (κ × β)) :=
  ⟨#[], 0, (MapKept.heap_alloc w _).1, rfl, by simp, by simp⟩
theorem map_entry {es : Array MapEntry} {l : List (κ × β)} (h : es.toList.map (fun e => (e.key, e.val)) = l.map (fun p => (ek p.1, ev p.1 p.2))) {e : MapEntry} (he : e ∈ es.toList) : ∃ p ∈ l, e.key = ek p.1 ∧ e.val = ev p.1 p.2 := by
  have : (e.key, e.val) ∈ l.map (fun p => (ek p.1, ev p.1 p.2)) := by rw [← h]; exact List.mem_map.2 ⟨e, he, rfl⟩
  obtain ⟨p, hp, hpe⟩ := List.mem_map.1 this
  simp only [Prod.mk.injEq] at hpe
  exact ⟨p, hp, hpe.1.symm, hpe.2.symm⟩
theorem map_entry' {es : Array MapEntry} {l : List (κ × β)} (h : es.toList.map (fun e => (e.key, e.val)) = l.map (fun p => (ek p.1, ev p.1 p.2))) {p : κ × β} (hp : p ∈ l) : ∃ e ∈ es.toList, e.key = ek p.1 ∧ e.val = ev p.1 p.2 := by
  have : (ek p.1, ev p.1 p.2) ∈ es.toList.map (fun e => (e.key, e.val)) := by rw [h]; exact List.mem_map.2 ⟨p, hp, rfl⟩
  obtain ⟨e, he, hpe⟩ := List.mem_map.1 this
  simp only [Prod.mk.injEq] at hpe
  exact ⟨e, he, hpe.1, hpe.2⟩

variable [DecidableEq κ]
/-- A key is looked for. -/
theorem map_find (K : KL P k) (hek : ∀ x y, ek x = ek y → x = y) {es : Array MapEntry} (h2 : es.toList.map (fun e => (e.key, e.val)) = l.map (fun p => (ek p.1, ev p.1 p.2))) (h3 : (l.map (·.1)).Nodup) (h4 : ∀ p ∈ l, ∃ lit, keyOf P k (ek p.1) = some lit)
    (x : κ) {lit : Lit} (hx : keyOf P k (ek x) = some lit) (w : World) :
    ((Instr.findKey k (ek x) es.toList).run P w = .ok none w ∧ (∀ p ∈ l, p.1 ≠ x) ∧ getA l x = none) ∨
    ∃ j v e0, (Instr.findKey k (ek x) es.toList).run P w = .ok (some (j, ev x v)) w ∧ getA l x = some v ∧ es.toList[j]? = some e0 ∧ e0.key = ek x ∧ l[j]? = some (x, v) := by
  have hks : ∀ e ∈ es.toList, ∃ lit, keyOf P k e.key = some lit := fun e he => by
    obtain ⟨p, hp, h5, _⟩ := map_entry h2 he
    rw [h5]; exact h4 p hp
  rcases K.find w hx es.toList hks with ⟨h5, h6⟩ | ⟨j, e0, h5, h6, h7⟩
  · left
    have h8 : ∀ p ∈ l, p.1 ≠ x := fun p hp he => by
      obtain ⟨e, he1, he2, _⟩ := map_entry' h2 hp
      exact h6 e he1 (by rw [he2, he])
    exact ⟨h5, h8, getA_none h8⟩
  · right
    have hj : (l.map (fun p => (ek p.1, ev p.1 p.2)))[j]? = some (e0.key, e0.val) := by rw [← h2, List.getElem?_map, h6]; rfl
    rw [List.getElem?_map] at hj
    obtain ⟨p, hp, hpe⟩ := Option.map_eq_some_iff.1 hj
    simp only [Prod.mk.injEq] at hpe
    have hpx : p.1 = x := hek _ _ (by rw [hpe.1, h7])
    have hm := List.mem_of_getElem? hp
    refine ⟨j, p.2, e0, ?_, ?_, h6, h7, ?_⟩
    · rw [h5, ← hpe.2, hpx]
    · rw [← hpx]; exact getA_some h3 hm
    · rw [hp, ← hpx]
theorem map_lookup (K : KL P k) (hek : ∀ x y, ek x = ek y → x = y) (ht : P.underlying t = some (.map k e)) (h : MapL P k ek ev w b l) (x : κ) {lit : Lit} (hx : keyOf P k (ek x) = some lit) {z : Value} (hz : (zeroValue e).run P w = .ok z w) :
    (Instr.lookup t (.map (some b)) (ek x) true).run P w = .ok (.tuple #[(match getA l x with | none => z | some v => ev x v), .bool (getA l x).isSome]) w := by
  obtain ⟨es, cl, h1, h2, h3, h4⟩ := h
  rcases map_find K hek h2 h3 h4 x hx w with ⟨h5, -, h7⟩ | ⟨j, v, e0, h5, h6, -⟩
  · rw [h7]
    simp [Instr.lookup, run_underlying ht, MapKept.run_getObj_map h1, K.check w _ hx, h5, hz, Result.andThen]
  · rw [h6]
    simp [Instr.lookup, run_underlying ht, MapKept.run_getObj_map h1, K.check w _ hx, h5, Result.andThen]
theorem map_put (K : KL P k) (hek : ∀ x y, ek x = ek y → x = y) (ht : P.underlying t = some (.map k e)) (h : MapL P k ek ev w b l) (x : κ) (v : β) {lit : Lit} (hx : keyOf P k (ek x) = some lit) :
    ∃ w', (Instr.mapUpdate t (.map (some b)) (ek x) (ev x v)).run P w = .ok () w' ∧ MapL P k ek ev w' b (putA l x v) ∧ w.grownBy w' (some b) := by
  obtain ⟨es, cl, h1, h2, h3, h4⟩ := h
  have hgr : ∀ o : Obj, w.grownBy (setBlock w b o) (some b) := fun o => ⟨rfl, rfl, rfl, by simp [setBlock], fun i _ hi => heap_setBlock_other h1 _ (fun e => hi (by rw [e]))⟩
  rcases map_find K hek h2 h3 h4 x hx w with ⟨h5, h6, h7⟩ | ⟨j, v0, e0, h5, h6, h7, h8, h9⟩
  · refine ⟨setBlock w b (.map (es.push ⟨ek x, ev x v, cl⟩) (cl + 1)), ?_, ⟨_, _, heap_setBlock_same h1 _, ?_, putA_keys l x v h3, ?_⟩, hgr _⟩
    · simp [Instr.mapUpdate, run_underlying ht, MapKept.run_getObj_map h1, K.check w false hx, h5, MapKept.run_setObj_map _ h1, Result.andThen, setBlock]
    · have : l.any (fun p => decide (p.1 = x)) = false := by rw [List.any_eq_false]; intro p hp; simpa using h6 p hp
      unfold putA
      simp [this, h2]
    · intro p hp
      have : l.any (fun p => decide (p.1 = x)) = false := by rw [List.any_eq_false]; intro p hp; simpa using h6 p hp
      unfold putA at hp
      rw [if_neg (by simp [this])] at hp
      rcases List.mem_append.1 hp with hp | hp
      · exact h4 p hp
      · simp at hp; subst hp; exact ⟨_, hx⟩
  · have hj : es[j]? = some e0 := by simpa using h7
    have hany : l.any (fun p => decide (p.1 = x)) = true := any_key.2 ⟨_, List.mem_of_getElem? h9, rfl⟩
    refine ⟨setBlock w b (.map (es.modify j fun e => { e with key := ek x, val := ev x v }) cl), ?_, ⟨_, _, heap_setBlock_same h1 _, ?_, putA_keys l x v h3, ?_⟩, hgr _⟩
    · simp [Instr.mapUpdate, run_underlying ht, MapKept.run_getObj_map h1, K.check w false hx, h5, hj, h8, K.stays w hx, MapKept.run_setObj_map _ h1, Result.andThen, setBlock]
    · rw [Array.toList_modify, modify_eq_set _ _ _ _ h7, List.map_set, h2]
      unfold putA
      rw [if_pos hany, List.map_map]
      apply List.ext_getElem?
      intro i
      rw [List.getElem?_set, List.length_map, List.getElem?_map]
      by_cases hij : j = i
      · subst hij
        rw [if_pos rfl, if_pos (List.getElem?_eq_some_iff.1 h9).1, List.getElem?_map, h9]
        simp
      · rw [if_neg hij, List.getElem?_map]
        cases hli : l[i]? with
        | none => rfl
        | some q =>
          have hq : q.1 ≠ x := by
            intro hqx
            have hil := (List.getElem?_eq_some_iff.1 hli).1
            have hjl := (List.getElem?_eq_some_iff.1 h9).1
            have e1 : (l.map (·.1))[i]'(by simpa using hil) = x := by
              rw [List.getElem_map, ← hqx]
              have := (List.getElem?_eq_some_iff.1 hli).2
              rw [this]
            have e2 : (l.map (·.1))[j]'(by simpa using hjl) = x := by
              rw [List.getElem_map]
              have := (List.getElem?_eq_some_iff.1 h9).2
              rw [this]
            have hpw := List.pairwise_iff_getElem.1 h3
            rcases Nat.lt_or_gt_of_ne hij with hlt | hlt
            · exact hpw j i (by simpa using hjl) (by simpa using hil) hlt (e2.trans e1.symm)
            · exact hpw i j (by simpa using hil) (by simpa using hjl) hlt (e1.trans e2.symm)
          simp [hq]
    · intro p hp
      unfold putA at hp
      rw [if_pos hany] at hp
      obtain ⟨q, hq, rfl⟩ := List.mem_map.1 hp
      split
      · exact ⟨_, hx⟩
      · exact h4 q hq

/-- A store into a map, at the operation. -/
theorem wpList_put {ops : Array Oper} {rest : List Oper} {o : Oper} {a : Act} {Q : Exit → Act → World → Prop} (K : KL P k) (hek : ∀ x y, ek x = ek y → x = y) (ht : P.underlying t = some (.map k e)) (h : MapL P k ek ev w b l)
    (hg : o.guard = none) (m x v : Operand) (hop : o.op = Op.mapUpdate t m x v) (hm : a.eval m = .map (some b)) (key : κ) (val : β) (hkey : a.eval x = ek key) (hval : a.eval v = ev key val) {lit : Lit} (hx : keyOf P k (ek key) = some lit)
    (hK : ∀ w', MapL P k ek ev w' b (putA l key val) → w.grownBy w' (some b) → wpList P ops Q rest (a.put o.dst undef) w') : wpList P ops Q (o :: rest) a w := by
  refine wpList_plain hg fun K' hK' => ?_
  obtain ⟨w', hrun, r1, r2⟩ := map_put K hek ht h key val hx
  unfold Oper.wp
  simp [execOp, hop, hm, hkey, hval, hrun, Result.andThen]
  exact hK' _ _ (hK w' r1 r2)
end
end Go.Proofs.YtckeaibamgkegaaDoor
