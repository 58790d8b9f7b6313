/- rows of a call's own that are put behind, one beside the other: no base world, a base number alone -/
import Derived.Test.YtckeaibamgkegaaDoorRowS
import Derived.Test.YtckeaibamgkegaaDoorRegionS
import Derived.ArgAppend
set_option linter.all false
namespace Go.Proofs.YtckeaibamgkegaaDoor
open Go.RowKit
set_option maxRecDepth 100000
namespace B

section
variable {P : Program} {w : World} {e sz base : Nat} {v : Value} {n : Nat} {xs : List Value}
/-- What an append to a row of a call's own does: the row lies where it lay, or in a new block. -/
theorem run_append_fresh (t ty : TypeId) {bytes : Nat} (T : SliceOf P t e sz bytes) (hown : w.ownsRow base e sz v n xs)
    (a : Addr) (m c : Nat) (news : List Value) (hl : news.length = m * sz) (hnews : ∀ j u, news[j]? = some u → w.cell? (a.add j) = some u) (h1 : ∀ u ∈ news, u.oneCell' = true)
    (h63 : n + m ≤ maxLen) (hbytes : (n + m) * bytes ≤ 140737488355328) (hbase : base ≤ w.heap.size) :
    ∃ v' w', (Builtin.append_ #[t, t] ty #[v, .slice (some a) m c]).run P w = .ok v' w' ∧ w'.ownsRow base e sz v' (n + m) (xs ++ news) ∧ w.grownBy w' v.ownBlock ∧ (v'.ownBlock = v.ownBlock ∨ ∀ k, v'.ownBlock = some k → w.heap.size ≤ k) := by
  obtain ⟨i, z, t1, t2, t3, t4, t5, t6, t7⟩ := T
  obtain ⟨v', w', r1, r2, r3, r4⟩ := run_append_own (P := P) w base t ty e i z sz bytes t1 t2 t3 t4 t5 t6 t7 v n xs hown a m c news hl hnews h1 h63 hbytes hbase
  refine ⟨v', w', r1, r2, r3, ?_⟩
  subst t4
  subst t5
  have hsmall : n + m ≤ 9223372036854775807 := by simp only [maxLen] at h63; omega
  rcases hown.2 with ⟨rfl, rfl⟩ | ⟨g, cap, cur, rfl, hbg, hg, hnc, hcm, hcs, htake⟩
  · have hx : xs = [] := List.eq_nil_of_length_eq_zero (by simpa using hown.1)
    subst hx
    obtain ⟨v2, w2, q1, q2, _⟩ := run_append_own (P := P) w w.heap.size t ty e i z i.size i.bytes t1 t2 t3 rfl rfl t6 t7 (.slice none 0 0) 0 [] (World.ownsRow_nil _ _ _ _) a m c news hl hnews h1 h63 hbytes (Nat.le_refl _)
    rw [r1] at q1
    cases q1
    exact .inr (fun k hk => (q2.lt k hk).1)
  · by_cases hroom : n + m ≤ cap
    · have hfit : n * i.size + news.length ≤ cur.size := by rw [hl, hcs, ← Nat.add_mul]; exact Nat.mul_le_mul_right _ hroom
      have hr := run_append_room (P := P) w t ty e i t1 t2 g n cap cur hg a m c news hl hnews h1 hroom hfit
      rw [r1] at hr
      simp only [Result.ok.injEq] at hr
      rw [hr.1]
      exact .inl rfl
    · have holds : ∀ j u, xs[j]? = some u → w.cell? ((⟨g, 0, none⟩ : Addr).add j) = some u := hown.cells (g := g) rfl
      have hr := run_append_grow (P := P) w t ty e i z t1 t2 t3 ⟨g, 0, none⟩ n cap xs hown.1 holds a m c news hl hnews (by omega) (by omega) (growslice_fits (by omega) hbytes)
      rw [r1] at hr
      simp only [Result.ok.injEq] at hr
      rw [hr.1]
      refine .inr (fun k hk => ?_)
      simp only [Value.ownBlock, Option.some.injEq] at hk
      omega
theorem wpList_app {ops : Array Oper} {rest : List Oper} {o : Oper} {a : Act} {Q : Exit → Act → World → Prop} {t bytes : Nat} (T : SliceOf P t e sz bytes) (hM : w.ownsRow base e sz v n xs) (hbase : base ≤ w.heap.size) (hgd : o.guard = none) (s x : Operand)
    (ho : o.op = .call { callee := .builtin .append, args := #[s, x], argTypes := #[t, t] }) (hs : a.eval s = v)
    (ad : Addr) (m c : Nat) (news : List Value) (hx : a.eval x = .slice (some ad) m c) (hl : news.length = m * sz) (hnews : ∀ j u, news[j]? = some u → w.cell? (ad.add j) = some u) (h1 : ∀ u ∈ news, u.oneCell' = true)
    (h63 : (n + m) * bytes ≤ 140737488355328) (h64 : n + m ≤ maxLen)
    (h : ∀ v' w', w'.ownsRow base e sz v' (n + m) (xs ++ news) → w.grownBy w' v.ownBlock → (v'.ownBlock = v.ownBlock ∨ ∀ k, v'.ownBlock = some k → w.heap.size ≤ k) → wpList P ops Q rest (a.put o.dst v') w') : wpList P ops Q (o :: rest) a w := by
  refine wpList_plain hgd fun _ hK => ?_
  obtain ⟨v', w', hr, h2, h3, h4⟩ := run_append_fresh (P := P) t o.type T hM ad m c news hl hnews h1 h64 h63 hbase
  unfold Oper.wp execOp
  simp only [ho, resolve, invoke, builtin, Sem.run_bind, Sem.run_pure, Result.andThen_ok, List.map_toArray, List.map_cons, List.map_nil, hs, hx, hr]
  exact hK _ _ (h v' w' h2 h3 h4)
/-- One element is put behind a row; it stands in a block of its own. -/
theorem wpList_push {ops : Array Oper} {rest : List Oper} {o : Oper} {a : Act} {Q : Exit → Act → World → Prop} {t bytes : Nat} {ta : TypeId} {news : Array Value} (T : SliceOf P t e sz bytes) (hM : w.ownsRow base e sz v n xs) (hbase : base ≤ w.heap.size) (hgd : o.guard = none) (s x : Operand)
    (ho : o.op = .call { callee := .builtin .append, args := #[s, x], argTypes := #[t, t] }) (hs : a.eval s = v) (c b : Nat) (hx : a.eval x = .slice (some ⟨b, 0, none⟩) 1 c) (hb : b = w.heap.size) (hl : news.size = sz) (h1 : ∀ u ∈ news.toList, u.oneCell' = true)
    (h63 : (n + 1) * bytes ≤ 140737488355328) (h64 : n + 1 ≤ maxLen)
    (h : ∀ v' w', w'.ownsRow base e sz v' (n + 1) (xs ++ news.toList) → (w.alloc (.cells news ta)).grownBy w' v.ownBlock → (v'.ownBlock = v.ownBlock ∨ ∀ k, v'.ownBlock = some k → w.heap.size ≤ k) → wpList P ops Q rest (a.put o.dst v') w') : wpList P ops Q (o :: rest) a (w.alloc (.cells news ta)) := by
  subst hb
  have hc := (own_get (own_alloc w news ta)).2.1
  have hM' : (w.alloc (.cells news ta)).ownsRow base e sz v n xs := by
    refine hM.kept (row := none) ?_ (by cases v.ownBlock <;> simp)
    exact ⟨rfl, rfl, rfl, by simp, fun k hk _ => Below.heap_alloc _ _ _ hk⟩
  refine wpList_app T hM' (by simp; omega) hgd s x ho hs ⟨w.heap.size, 0, none⟩ 1 c news.toList hx (by rw [Nat.one_mul, Array.length_toList, hl]) ?_ h1 h63 h64 (fun v' w' a b c => h v' w' a b (c.imp id (fun h k hk => by have := h k hk; simp at this; omega)))
  intro j u hj
  rw [add_plain, Nat.zero_add, hc j, ← Array.getElem?_toList, hj]
end

/-- Two rows of a call's own lie apart. -/
def Apart (v u : Value) : Prop := ∀ k, v.ownBlock = some k → u.ownBlock ≠ some k
section
variable {w w' : World} {e sz base : Nat} {v u : Value} {n : Nat} {xs : List Value}
theorem Apart.symm (h : Apart v u) : Apart u v := fun k hk e => h k e hk
theorem Apart.none (u : Value) {n c : Nat} : Apart u (.slice none n c) := fun _ _ e => by cases e
/-- A row beside the one that grew. -/
theorem owns_beside (h : w.ownsRow base e sz u n xs) (hg : w.grownBy w' v.ownBlock) (hne : Apart v u) : w'.ownsRow base e sz u n xs := by
  refine h.kept hg ?_
  cases hu : u.ownBlock with
  | none => exact .inl rfl
  | some g => exact .inr (fun e => hne g e.symm hu)
theorem owns_later (h : w.ownsRow base e sz u n xs) (hb : Later w w') : w'.ownsRow base e sz u n xs := by
  refine h.kept (row := none) ⟨hb.os, hb.tape, hb.output, hb.size, fun k hk _ => hb.block k hk⟩ ?_
  cases u.ownBlock <;> simp
theorem owns_set (h : w.ownsRow base e sz u n xs) {k i : Nat} (hne : u.ownBlock ≠ some k) (x : Value) : (w.setCell ⟨k, i, none⟩ x).ownsRow base e sz u n xs := by
  obtain ⟨h1, h2⟩ := h
  refine ⟨h1, ?_⟩
  rcases h2 with h2 | ⟨g, cap, cur, rfl, hb, hg, h3⟩
  · exact .inl h2
  · refine .inr ⟨g, cap, cur, rfl, hb, ?_, h3⟩
    rw [Below.heap_setCell _ _ _ _ (fun e => hne (congrArg some e))]
    exact hg
theorem Apart.grow {v' : Value} (h : Apart v u) (hu : w.ownsRow base e sz u n xs) (hf : v'.ownBlock = v.ownBlock ∨ ∀ k, v'.ownBlock = some k → w.heap.size ≤ k) : Apart v' u := by
  intro k hk e
  rcases hf with hf | hf
  · exact h k (by rw [← hf]; exact hk) e
  · have := hf k hk
    have := (hu.lt k e).2
    omega
theorem own_grown {l : List (Nat × Array Value)} {row : Option Nat} (h : Own w l) (hg : w.grownBy w' row) (hr : ∀ z ∈ l, row ≠ some z.1) : Own w' l := by
  induction l with
  | nil => trivial
  | cons z l ih =>
    obtain ⟨b, A⟩ := z
    have hb := hg.block b h.1.1 (fun e => hr _ (List.mem_cons_self ..) e.symm)
    refine ⟨⟨Nat.lt_of_lt_of_le h.1.1 hg.size, fun i => ?_, fun i hi => ?_⟩, ih h.2 (fun z hz => hr z (List.mem_cons_of_mem _ hz))⟩
    · rw [World.cell?_of_block (w := w) (a := ⟨b, i, Option.none⟩) hb]; exact h.1.2.1 i
    · rw [World.frozen?_of_block (w := w) (a := ⟨b, i, Option.none⟩) hb]; exact h.1.2.2 i hi
theorem own_at {b k : Nat} {A : Array Value} (h : Own w [(b, A)]) (hk : k < A.size) (x : Value) : Own (w.setCell ⟨b, k, Option.none⟩ x) [(b, A.setIfInBounds k x)] :=
  Own.cons (by simpa [World.setCell] using h.1.1) (fun i => set_own h.1.2.1 x hk i) (fun i hi => set_frozen (n := A.size) h.1.2.2 x i (by simpa using hi)) trivial
theorem own_far {l : List (Nat × Array Value)} {b k : Nat} (h : Own w l) (hne : ∀ z ∈ l, b ≠ z.1) (x : Value) : Own (w.setCell ⟨b, k, Option.none⟩ x) l := by
  induction l with
  | nil => trivial
  | cons z l ih =>
    obtain ⟨c, A⟩ := z
    exact ⟨⟨by simpa [World.setCell] using h.1.1, fun i => set_far h.1.2.1 x (hne _ (List.mem_cons_self ..)) i, fun i hi => set_frozen (n := A.size) h.1.2.2 x i hi⟩, ih h.2 (fun z hz => hne z (List.mem_cons_of_mem _ hz))⟩
theorem grown_lat {row : Option Nat} {a : World} (h : Later a w) (hg : w.grownBy w' row) (hr : ∀ k, row = some k → a.heap.size ≤ k) : Later a w' := Later.grown h hg hr
/-- A row of ints of a call's own. -/
theorem owns_ints {zs : List Int} (h : w.ownsRow base e 1 v n (zs.map (Value.int .i64))) : IsInts w v zs ∧ n = zs.length := by
  have hn : n = zs.length := by have := h.1; simp at this; omega
  refine ⟨?_, hn⟩
  subst hn
  rcases h.2 with ⟨h1, h2⟩ | ⟨g, cap, cur, h1, h2, h3, h4, h5, h6, h7⟩
  · exact .inl ⟨by rw [h1], List.eq_nil_of_length_eq_zero h2⟩
  · refine .inr ⟨g, 0, cap, h1, (h.lt g (by rw [h1]; rfl)).2, h4, h5, fun j hj => ?_⟩
    have := h.cells (g := g) (by rw [h1]; rfl) j (.int .i64 zs[j]) (by simp [hj])
    rwa [add_plain] at this
theorem owns_form (h : w.ownsRow base e sz v n xs) : ∃ p cap, v = .slice p n cap := by
  rcases h.2 with ⟨h1, h2⟩ | ⟨g, cap, cur, h1, _⟩
  · subst h2; exact ⟨_, _, h1⟩
  · exact ⟨_, _, h1⟩
theorem owns_base (h : w.ownsRow base e sz v n xs) : ∀ k, v.ownBlock = some k → base ≤ k ∧ k < w.heap.size := h.lt
end
section
variable {α : Type} {sz : Nat} {f : α → Nat → Value} {w : World} {v : Value} {xs : List α}
theorem cellsAt (h : IsRow sz f w v xs) (cs : α → List Value) (hcs : ∀ x, (cs x).length = sz) (hf : ∀ x j, j < sz → (cs x)[j]? = some (f x j)) (hsz : 0 < sz) (h0 : v ≠ .slice none 0 0) :
    ∃ ad cap, v = .slice (some ad) xs.length cap ∧ xs.length ≤ maxLen ∧ ∀ j u, (xs.flatMap cs)[j]? = some u → w.cell? (ad.add j) = some u := by
  rcases h with ⟨⟨p, h1⟩, h2⟩ | ⟨b, o, cap, h1, h2, h3, h4, h5⟩
  · subst h2
    cases p with
    | none => exact absurd h1 h0
    | some ad => exact ⟨ad, 0, h1, by simp, fun j u hj => by simp at hj⟩
  · refine ⟨⟨b, o, Option.none⟩, cap, h1, Nat.le_trans h3 h4, fun j u hj => ?_⟩
    have hjl : j < (xs.flatMap cs).length := (List.getElem?_eq_some_iff.1 hj).1
    rw [flat_len cs hcs] at hjl
    have hi : j / sz < xs.length := by rw [Nat.div_lt_iff_lt_mul hsz]; exact hjl
    have hm := Nat.mod_lt j hsz
    have e : j = j / sz * sz + j % sz := by rw [Nat.mul_comm]; exact (Nat.div_add_mod j sz).symm
    have e2 := h5 (j / sz) hi (j % sz) hm
    rw [add_plain, ← hj]
    rw [e, flat_get cs hcs xs (j / sz) hi (j % sz) hm, hf _ _ hm, ← Nat.add_assoc]
    exact e2
/-- A row is put behind a row of a call's own. -/
theorem wpList_rows {P : Program} {base : Nat} {e t bytes : Nat} {V : Value} {L : List α} {ops : Array Oper} {rest : List Oper} {o : Oper} {a : Act} {Q : Exit → Act → World → Prop} (cs : α → List Value) (hcs : ∀ x, (cs x).length = sz) (hf : ∀ x j, j < sz → (cs x)[j]? = some (f x j)) (h1 : ∀ x, ∀ u ∈ cs x, u.oneCell' = true)
    (T : SliceOf P t e sz bytes) (hM : w.ownsRow base e sz V L.length (L.flatMap cs)) (hbase : base ≤ w.heap.size) (hN : IsRow sz f w v xs) (hgd : o.guard = none) (s x : Operand)
    (ho : o.op = .call { callee := .builtin .append, args := #[s, x], argTypes := #[t, t] }) (hs : a.eval s = V) (hx : a.eval x = v) (h64 : L.length + xs.length ≤ 1000000) (hb : bytes ≤ 1000)
    (h : ∀ v' w', w'.ownsRow base e sz v' (L ++ xs).length ((L ++ xs).flatMap cs) → w.grownBy w' V.ownBlock → (v'.ownBlock = V.ownBlock ∨ ∀ k, v'.ownBlock = some k → w.heap.size ≤ k) → wpList P ops Q rest (a.put o.dst v') w') : wpList P ops Q (o :: rest) a w := by
  have hsz : 0 < sz := by obtain ⟨_, _, _, _, _, _, _, _, h⟩ := T; exact h
  by_cases h0 : v = .slice Option.none 0 0
  · have hx0 : xs = [] := by
      rcases hN with ⟨_, h2⟩ | ⟨b', o', c', h1, _⟩
      · exact h2
      · rw [h0] at h1; cases h1
    subst hx0
    subst h0
    obtain ⟨i, z, t1, t2, t3, t4, t5, t6, t7⟩ := T
    exact wpList_append_own_none hgd s x t ho base e i sz t1 t2 V L.length (L.flatMap cs) hs hM hx (h V w (by rw [List.append_nil]; exact hM) ⟨rfl, rfl, rfl, Nat.le_refl _, fun _ _ _ => rfl⟩ (.inl rfl))
  · obtain ⟨ad, c, rfl, _, hc⟩ := cellsAt hN cs hcs hf hsz h0
    refine wpList_app T hM hbase hgd s x ho hs ad xs.length c (xs.flatMap cs) hx (flat_len (sz := sz) cs hcs xs) hc (fun u hu => ?_) ?_ (by unfold maxLen; omega) (fun v' w' h1 h2 h3 => h v' w' ?_ h2 h3)
    · obtain ⟨y, _, hy⟩ := List.mem_flatMap.1 hu
      exact h1 y u hy
    · have := Nat.mul_le_mul h64 hb
      omega
    · rw [List.length_append, List.flatMap_append]
      exact h1
/-- A row of a call's own is a row. -/
theorem owns_row {base : Nat} {e : TypeId} {n : Nat} (cs : α → List Value) (hcs : ∀ x, (cs x).length = sz) (hf : ∀ x j, j < sz → (cs x)[j]? = some (f x j)) (hsz : 0 < sz) (h : w.ownsRow base e sz v n (xs.flatMap cs)) : IsRow sz f w v xs ∧ n = xs.length := by
  have hn : n = xs.length := by have := h.1; rw [flat_len cs hcs] at this; exact Nat.eq_of_mul_eq_mul_right hsz this.symm
  refine ⟨?_, hn⟩
  subst hn
  rcases h.2 with ⟨h1, h2⟩ | ⟨g, cap, cur, h1, h2, h3, h4, h5, h6, h7⟩
  · exact .inl ⟨⟨Option.none, by rw [h1]⟩, List.eq_nil_of_length_eq_zero h2⟩
  · refine .inr ⟨g, 0, cap, h1, (h.lt g (by rw [h1]; rfl)).2, h4, h5, fun i hi j hj => ?_⟩
    have := h.cells (g := g) (by rw [h1]; rfl) (i * sz + j) (f xs[i] j) (by rw [flat_get cs hcs xs i hi j hj]; exact hf _ _ hj)
    rwa [add_plain, ← Nat.add_assoc] at this
end
end B
end Go.Proofs.YtckeaibamgkegaaDoor
