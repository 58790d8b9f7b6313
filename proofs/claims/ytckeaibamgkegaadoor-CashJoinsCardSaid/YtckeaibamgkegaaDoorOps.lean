/- rules of ours for rows that a call makes, and for its own variables. -/
import Derived.Test.YtckeaibamgkegaaDoorBits
import Derived.Laws.AppendOwnNone
import Derived.OwnWalk
set_option linter.all false
namespace Go.Proofs.YtckeaibamgkegaaDoor
open Go.RowKit
set_option maxRecDepth 100000

/-- What is known of a slice's type: its elements, how many cells one has, and how many bytes. -/
def SliceOf (P : Program) (t e : TypeId) (sz bytes : Nat) : Prop :=
  ∃ i z, P.underlying t = some (.slice e) ∧ P.info? e = some i ∧ i.zero = some z ∧ i.size = sz ∧ i.bytes = bytes ∧ z.cells.size = sz ∧ 0 < sz
theorem sliceOf_mk {P : Program} {t e : TypeId} {sz bytes : Nat} {z : Value} (ht : P.underlying t = some (.slice e)) (h : (P.info? e).map (fun i => (i.zero, i.size, i.bytes)) = some (some z, sz, bytes)) (hz : z.cells.size = sz) (h0 : 0 < sz) : SliceOf P t e sz bytes := by
  obtain ⟨i0, hi, hz0, hz1, hz2⟩ := info_parts h
  exact ⟨i0, z, ht, hi, hz0, hz1, hz2, hz, h0⟩

/-- A row that a call made: what was there at w0 is as it was. -/
def Mine (w0 : World) (e sz : Nat) (w : World) (v : Value) (n : Nat) (xs : List Value) : Prop := w.ownsRow w0.heap.size e sz v n xs ∧ Later w0 w

section
variable {P : Program} {w0 w : World} {e sz : Nat} {v : Value} {n : Nat} {xs : List Value}
theorem Mine.nil (h : Later w0 w) : Mine w0 e sz w (.slice none 0 0) 0 [] := ⟨World.ownsRow_nil _ _ _ _, h⟩
theorem Mine.lat (h : Mine w0 e sz w v n xs) : Later w0 w := h.2
theorem Mine.later {w' : World} (h : Mine w0 e sz w v n xs) (hb : Later w w') : Mine w0 e sz w' v n xs := by
  refine ⟨h.1.kept (row := none) ⟨hb.os, hb.tape, hb.output, hb.size, fun k hk _ => hb.block k hk⟩ ?_, h.2.trans hb⟩
  cases v.ownBlock <;> simp
theorem Mine.form (h : Mine w0 e sz w v n xs) : ∃ p cap, v = .slice p n cap := by
  rcases h.1.2 with ⟨h1, h2⟩ | ⟨g, cap, cur, h1, _⟩
  · subst h2; exact ⟨_, _, h1⟩
  · exact ⟨_, _, h1⟩

/-- Cells in a row from an address on. -/
def CellsAt (w : World) (b o : Nat) (cs : List Value) : Prop := ∀ j, j < cs.length → w.cell? ⟨b, o + j, none⟩ = cs[j]?

theorem CellsAt.later {w w' : World} {b o : Nat} {cs : List Value} (h : CellsAt w b o cs) (hl : Later w w') (hb : b < w.heap.size) : CellsAt w' b o cs := fun j hj => ((bcell hl).1 _ _ hb).trans (h j hj)
theorem add_plain (b o j : Nat) : (⟨b, o, none⟩ : Addr).add j = ⟨b, o + j, none⟩ := by unfold Addr.add; split <;> simp_all

theorem wpList_app {ops : Array Oper} {rest : List Oper} {o : Oper} {a : Act} {Q : Exit → Act → World → Prop} {t bytes : Nat} (T : SliceOf P t e sz bytes) (hM : Mine w0 e sz w v n xs) (hgd : o.guard = none) (s x : Operand)
    (ho : o.op = .call { callee := .builtin .append, args := #[s, x], argTypes := #[t, t] }) (hs : a.eval s = v)
    (b p m c : Nat) (news : List Value) (hx : a.eval x = .slice (some ⟨b, p, none⟩) m c) (hl : news.length = m * sz) (hc : CellsAt w b p news) (h1 : ∀ u ∈ news, u.oneCell' = true)
    (h63 : (n + m) * bytes ≤ 140737488355328) (h64 : n + m ≤ maxLen)
    (h : ∀ v' w', Mine w0 e sz w' v' (n + m) (xs ++ news) → w.grownBy w' v.ownBlock → wpList P ops Q rest (a.put o.dst v') w') : wpList P ops Q (o :: rest) a w := by
  obtain ⟨i, z, t1, t2, t3, t4, t5, t6, t7⟩ := T
  refine wpList_append_own _ hgd s x t ho w0.heap.size e i z sz bytes t1 t2 t3 t4 t5 t6 t7 v n xs hs hM.1 ⟨b, p, none⟩ m c news hx hl ?_ h1 h64 h63 (Later.size hM.2) (fun v' w' h1' h2' _ => h v' w' ⟨h1', Later.grown hM.2 h2' (fun k hk => (hM.1.lt k hk).1)⟩ h2')
  intro j u hj
  have hjl : j < news.length := (List.getElem?_eq_some_iff.1 hj).1
  rw [add_plain, hc j hjl, hj]

theorem wpList_app_none {ops : Array Oper} {rest : List Oper} {o : Oper} {a : Act} {Q : Exit → Act → World → Prop} {t bytes : Nat} (T : SliceOf P t e sz bytes) (hM : Mine w0 e sz w v n xs) (hgd : o.guard = none) (s x : Operand)
    (ho : o.op = .call { callee := .builtin .append, args := #[s, x], argTypes := #[t, t] }) (hs : a.eval s = v) (hx : a.eval x = .slice none 0 0)
    (h : wpList P ops Q rest (a.put o.dst v) w) : wpList P ops Q (o :: rest) a w := by
  obtain ⟨i, z, t1, t2, t3, t4, t5, t6, t7⟩ := T
  exact wpList_append_own_none hgd s x t ho w0.heap.size e i sz t1 t2 v n xs hs hM.1 hx h

theorem wpList_mk {ops : Array Oper} {rest : List Oper} {o : Oper} {a : Act} {Q : Exit → Act → World → Prop} {t bytes : Nat} (T : SliceOf P t e sz bytes) (hb : Later w0 w) (hgd : o.guard = none) (l c : Operand)
    (ho : o.op = .makeSlice t l c) (k : Nat) (hl : a.eval l = .int .i64 (k : Int)) (hc : a.eval c = .int .i64 (k : Int)) (h63 : bytes * k ≤ 281474976710656) (h64 : k ≤ maxLen)
    (h : ∀ w' z, (∃ i, P.info? e = some i ∧ i.zero = some z) → Mine w0 e sz w' (.slice (some ⟨w.heap.size, 0, none⟩) k k) k (madeCells z.cells (k * sz)).toList → Later w w' → wpList P ops Q rest (a.put o.dst (.slice (some ⟨w.heap.size, 0, none⟩) k k)) w') : wpList P ops Q (o :: rest) a w := by
  obtain ⟨i, z, t1, t2, t3, t4, t5, t6, t7⟩ := T
  exact wpList_make_full w hgd l c t ho w0.heap.size e i z sz t1 t2 t3 t4 .i64 .i64 (k : Int) (k : Int) k hl hc rfl rfl (by rw [t5]; exact h63) h64 (Later.size hb) (fun w' h1 h2 =>
    have h3 : Later w w' := Later.grown (Later.refl _) h2 (fun _ hk => by cases hk)
    h w' z ⟨i, t2, t3⟩ ⟨h1, hb.trans h3⟩ h3)
end

/-- The call's own variables: whole blocks. -/
def Own (w : World) : List (Nat × Array Value) → Prop
  | [] => True
  | (b, A) :: l => (b < w.heap.size ∧ (∀ i, w.cell? ⟨b, i, none⟩ = A[i]?) ∧ (∀ i, i < A.size → w.frozen? ⟨b, i, none⟩ = false)) ∧ Own w l
theorem Own.later {w w' : World} : ∀ {l : List (Nat × Array Value)}, Own w l → Later w w' → Own w' l
  | [], _, _ => trivial
  | (_, _) :: l, h, hb => ⟨⟨by have := Later.size hb; have := h.1.1; omega, fun i => ((bcell hb).1 _ i h.1.1).trans (h.1.2.1 i), fun i hi => ((bcell hb).2 _ i h.1.1).trans (h.1.2.2 i hi)⟩, h.2.later hb⟩
theorem Own.cons {w : World} {b : Nat} {A : Array Value} {l : List (Nat × Array Value)} (hb : b < w.heap.size) (hc : ∀ i, w.cell? ⟨b, i, none⟩ = A[i]?) (hf : ∀ i, i < A.size → w.frozen? ⟨b, i, none⟩ = false) (h : Own w l) : Own w ((b, A) :: l) := ⟨⟨hb, hc, hf⟩, h⟩
theorem Own.boxed {w w' : World} {A : Array Value} {ta : TypeId} {l : List (Nat × Array Value)} (h : Later (w.alloc (.cells A ta)) w') (hl : Own w' l) : Own w' ((w.heap.size, A) :: l) := by
  have := own1 h
  exact ⟨⟨by have := this.2.2; omega, this.1, this.2.1⟩, hl⟩
theorem Own.one {w w' : World} {A : Array Value} {ta : TypeId} (h : Later (w.alloc (.cells A ta)) w') : Own w' [(w.heap.size, A)] := Own.boxed h trivial
theorem Own.two {w w' : World} {A B : Array Value} {ta tb : TypeId} (h : Later ((w.alloc (.cells A ta)).alloc (.cells B tb)) w') : Own w' [(w.heap.size, A), (w.heap.size + 1, B)] := by
  have := Own.one h; rw [World.size_alloc] at this
  exact Own.boxed (Later.trans ((Later.refl _).alloc _) h) this
theorem Own.three {w w' : World} {A B C : Array Value} {ta tb tc : TypeId} (h : Later (((w.alloc (.cells A ta)).alloc (.cells B tb)).alloc (.cells C tc)) w') : Own w' [(w.heap.size, A), (w.heap.size + 1, B), (w.heap.size + 1 + 1, C)] := by
  have := Own.two h; rw [World.size_alloc] at this
  exact Own.boxed (Later.trans (((Later.refl _).alloc _).alloc _) h) this
theorem Own.four {w w' : World} {A B C D : Array Value} {ta tb tc td : TypeId} (h : Later ((((w.alloc (.cells A ta)).alloc (.cells B tb)).alloc (.cells C tc)).alloc (.cells D td)) w') : Own w' [(w.heap.size, A), (w.heap.size + 1, B), (w.heap.size + 1 + 1, C), (w.heap.size + 1 + 1 + 1, D)] := by
  have := Own.three h; rw [World.size_alloc] at this
  exact Own.boxed (Later.trans ((((Later.refl _).alloc _).alloc _).alloc _) h) this

theorem own_alloc (w : World) (A : Array Value) (ta : TypeId) : Own (w.alloc (.cells A ta)) [(w.heap.size, A)] := Own.one (Later.refl _)
theorem own_one_d {w w' : World} {A : Array Value} {ta : TypeId} (h : Later (w.alloc (.cells A ta)).drew w') : Own w' [(w.heap.size, A)] := Own.one h.undrew
theorem own_set2 {w : World} {b : Nat} {u v x y : Value} (h : Own w [(b, #[u, v])]) : Own ((w.setCell ⟨b, 0, none⟩ x).setCell ⟨b, 1, none⟩ y) [(b, #[x, y])] :=
  Own.cons (by simpa using h.1.1) (fun i => set_own (k := 1) (set_own (k := 0) h.1.2.1 x (by simp)) y (by simp) i) (fun i hi => set_frozen (n := 2) (fun i hi => set_frozen (n := 2) h.1.2.2 x i hi) y i hi) trivial
theorem own_get {w : World} {b : Nat} {A : Array Value} (h : Own w [(b, A)]) : b < w.heap.size ∧ (∀ i, w.cell? ⟨b, i, none⟩ = A[i]?) ∧ (∀ i, i < A.size → w.frozen? ⟨b, i, none⟩ = false) := h.1


theorem Later.putCell {a b : World} (h : Later a b) {k i : Nat} (hk : a.heap.size ≤ k) (u : Value) : Later a (b.setCell ⟨k, i, none⟩ u) := h.setCell hk u

/-- Later from a world behind boxes is later from the one ahead of them. -/
theorem Later.un1 {a b : World} {o : Obj} (h : Later (a.alloc o) b) : Later a b := Later.unalloc h
end Go.Proofs.YtckeaibamgkegaaDoor
