/- rows that a round puts behind others: words -/
import Derived.Test.YtpblfheeeifjcaaDoorLedF
set_option linter.all false
namespace Go.Proofs.YtpblfheeeifjcaaDoor
open Go.RowKit
set_option maxRecDepth 100000

theorem rwInfo : (Tryd.prog.info? 39).map (fun i => (i.zero, i.size, i.bytes)) = some (some (.agg #[.int .i64 0, .int .i64 0, .int .i64 0, .int .i64 0, .int .i64 0, .int .i64 0, .int .i64 0, .int .i64 0, .int .i64 0]), 9, 72) := by kernel_rfl
theorem sliceRw : SliceOf Tryd.prog 27 39 9 72 := sliceOf_mk Tryd.underlying27 rwInfo rfl (by decide)
theorem rwCs_len (x : Rw) : (rwCs x).length = 9 := rfl
theorem rw_one (a b c d e f g h i : Int) (w : World) :
    (Instr.buildSlice 27 1 #[(0, .agg #[.int .i64 a, .int .i64 b, .int .i64 c, .int .i64 d, .int .i64 e, .int .i64 f, .int .i64 g, .int .i64 h, .int .i64 i])]).run Tryd.prog w
      = .ok (.slice (some ⟨w.heap.size, 0, none⟩) 1 1) (w.alloc (.cells #[.int .i64 a, .int .i64 b, .int .i64 c, .int .i64 d, .int .i64 e, .int .i64 f, .int .i64 g, .int .i64 h, .int .i64 i] 39)) := by kernel_rfl
theorem rw_build (a b c d e f g h i : Int) (w : World) :
    (Instr.build 39 #[(0, .int .i64 a), (1, .int .i64 b), (2, .int .i64 c), (3, .int .i64 d), (4, .int .i64 e), (5, .int .i64 f), (6, .int .i64 g), (7, .int .i64 h), (8, .int .i64 i)]).run Tryd.prog w
      = .ok (.agg #[.int .i64 a, .int .i64 b, .int .i64 c, .int .i64 d, .int .i64 e, .int .i64 f, .int .i64 g, .int .i64 h, .int .i64 i]) w := by kernel_rfl

theorem ownsRow_form_ {w : World} {base e sz n : Nat} {v : Value} {xs : List Value} (h : w.ownsRow base e sz v n xs) : ∃ p c, v = .slice p n c := by
  rcases h.2 with ⟨h1, h2⟩ | ⟨g, cap, cur, h1, _⟩
  · rw [h2]; exact ⟨_, _, h1⟩
  · exact ⟨_, _, h1⟩
/-- One element is appended to a row of blocks from a number on. -/
theorem wpList_pushB {P : Program} {w : World} {base e sz : Nat} {v : Value} {n : Nat} {xs : List Value} {ops : Array Oper} {rest : List Oper} {o : Oper} {a : Act} {Q : Exit → Act → World → Prop} {t bytes : Nat} {ta : TypeId} {news : Array Value}
    (T : SliceOf P t e sz bytes) (hM : w.ownsRow base e sz v n xs) (hbase : base ≤ w.heap.size) (hgd : o.guard = none) (s x : Operand)
    (ho : o.op = .call { callee := .builtin .append, args := #[s, x], argTypes := #[t, t] }) (hs : a.eval s = v) (c b : Nat) (hx : a.eval x = .slice (some ⟨b, 0, none⟩) 1 c) (hb : b = w.heap.size) (hl : news.size = sz) (h1 : ∀ u ∈ news.toList, u.oneCell' = true)
    (h63 : (n + 1) * bytes ≤ 140737488355328) (h64 : n + 1 ≤ maxLen)
    (h : ∀ v' w', w'.ownsRow base e sz v' (n + 1) (xs ++ news.toList) → (w.alloc (.cells news ta)).grownBy w' v.ownBlock → wpList P ops Q rest (a.put o.dst v') w') : wpList P ops Q (o :: rest) a (w.alloc (.cells news ta)) := by
  subst hb
  obtain ⟨i, z, t1, t2, t3, t4, t5, t6, t7⟩ := T
  have hc := (own_get (own_alloc w news ta)).2.1
  refine wpList_append_own _ hgd s x t ho base e i z sz bytes t1 t2 t3 t4 t5 t6 t7 v n xs hs (hM.alloc _) ⟨w.heap.size, 0, none⟩ 1 c news.toList hx (by rw [Nat.one_mul, Array.length_toList, hl]) ?_ h1 h64 h63 (by rw [World.size_alloc]; omega) (fun v' w' h1' h2' _ => h v' w' h1' h2')
  intro j u hj
  rw [add_plain, Nat.zero_add, hc j, ← Array.getElem?_toList, hj]

theorem wpListIn_pushB {F : Fence} {m : Nat} {P : Program} {w : World} {base e sz : Nat} {v : Value} {n : Nat} {xs : List Value} {ops : Array Oper} {rest : List Oper} {o : Oper} {a : Act} {Q : Exit → Act → World → Prop} {t bytes : Nat} {ta : TypeId} {news : Array Value}
    (T : SliceOf P t e sz bytes) (hM : w.ownsRow base e sz v n xs) (hbase : base ≤ w.heap.size) (hgd : o.guard = none) (s x : Operand)
    (ho : o.op = .call { callee := .builtin .append, args := #[s, x], argTypes := #[t, t] }) (hs : a.eval s = v) (c b : Nat) (hx : a.eval x = .slice (some ⟨b, 0, none⟩) 1 c) (hb : b = w.heap.size) (hl : news.size = sz) (h1 : ∀ u ∈ news.toList, u.oneCell' = true)
    (h63 : (n + 1) * bytes ≤ 140737488355328) (h64 : n + 1 ≤ maxLen)
    (h : ∀ v' w', w'.ownsRow base e sz v' (n + 1) (xs ++ news.toList) → (w.alloc (.cells news ta)).grownBy w' v.ownBlock → wpListIn F m P ops Q rest (a.put o.dst v') w') : wpListIn F m P ops Q (o :: rest) a (w.alloc (.cells news ta)) := by
  subst hb
  obtain ⟨i, z, t1, t2, t3, t4, t5, t6, t7⟩ := T
  have hc := (own_get (own_alloc w news ta)).2.1
  refine wpListIn_append_own _ hgd s x t ho base e i z sz bytes t1 t2 t3 t4 t5 t6 t7 v n xs hs (hM.alloc _) ⟨w.heap.size, 0, none⟩ 1 c news.toList hx (by rw [Nat.one_mul, Array.length_toList, hl]) ?_ h1 h64 h63 (by rw [World.size_alloc]; omega) (fun v' w' h1' h2' _ => h v' w' h1' h2')
  intro j u hj
  rw [add_plain, Nat.zero_add, hc j, ← Array.getElem?_toList, hj]
/-- Rows under way: a box holds the slice, the slice lies in blocks of the loop's own. -/
structure RS (w : World) (N B : Nat) (W : World) (v : Value) (l : List Rw) : Prop where
  box : W.heap[B]? = some (.cells #[v] 27 (0, 0))
  row : W.ownsRow N 39 9 v l.length (l.flatMap rwCs)
  low : Later w W
  szN : N ≤ W.heap.size
  szB : w.heap.size ≤ B
  szw : w.heap.size ≤ N
section
variable {w W W' : World} {N B : Nat} {v v' : Value} {l : List Rw}
theorem RS.lt (h : RS w N B W v l) : B < W.heap.size := (Array.getElem?_eq_some_iff.1 h.box).1
theorem RS.later (h : RS w N B W v l) (hb : Later W W') : RS w N B W' v l :=
  ⟨(hb.block B h.lt).trans h.box, h.row.kept (row := none) (grown_later hb none) (by cases v.ownBlock <;> simp), h.low.trans hb, Nat.le_trans h.szN (Later.size hb), h.szB, h.szw⟩
theorem RS.turn (h : RS w N B W v l) {row : Option Nat} (hg : W.grownBy W' row) (hr : ∀ r, row = some r → w.heap.size ≤ r ∧ ∃ o : Obj, W.heap[r]? = some o ∧ o.isCells = false) : RS w N B W' v l := by
  refine ⟨(hg.block B h.lt (fun e => ?_)).trans h.box, h.row.kept hg ?_, Later.grown h.low hg (fun k e => (hr k e).1), Nat.le_trans h.szN hg.size, h.szB, h.szw⟩
  · obtain ⟨_, o, ho, hc⟩ := hr B e.symm
    rw [h.box] at ho; cases ho; cases hc
  · cases hv : v.ownBlock with
    | none => exact .inl rfl
    | some g =>
      refine .inr (fun e => ?_)
      obtain ⟨_, o, ho, hc⟩ := hr g e.symm
      obtain ⟨cs, fr, e2⟩ := (rowT_owns rwCs rwCs_len rwCs_cell (by decide) h.row).2 g hv
      rw [e2] at ho; cases ho; cases hc
theorem RS.own (h : RS w N B W v l) : Own W [(B, #[v])] := by
  refine Own.cons h.lt (fun i => ?_) (fun i hi => frozen_of_row W B i #[v] 27 h.box) trivial
  have := h.box
  simp [World.cell?, this]
/-- A row is put behind, and the slice laid down. -/
theorem RS.push (h : RS w N B W v l) {x : Rw} (hg : W.grownBy W' v.ownBlock) (hM : W'.ownsRow N 39 9 v' (l.length + 1) (l.flatMap rwCs ++ rwCs x)) :
    W'.heap[B]? = some (.cells #[v] 27 (0, 0)) ∧ RS w N B (W'.setCell ⟨B, 0, none⟩ v') v' (l ++ [x]) ∧ KeepsOthers W (W'.setCell ⟨B, 0, none⟩ v') ∧ Kq N B W (W'.setCell ⟨B, 0, none⟩ v') ∧
      ∀ (k : Nat) (cs : Array Value) (t : TypeId) (fr : Nat × Nat), W.heap[k]? = some (Obj.cells cs t fr) → t ≠ 39 → t ≠ 27 → (W'.setCell ⟨B, 0, none⟩ v').heap[k]? = some (.cells cs t fr) := by
  have hrow : ∀ g, v.ownBlock = some g → ∃ cs fr, W.heap[g]? = some (.cells cs 39 fr) := (rowT_owns rwCs rwCs_len rwCs_cell (by decide) h.row).2
  have hb : W'.heap[B]? = some (.cells #[v] 27 (0, 0)) := (hg.block B h.lt (fun e => by
    obtain ⟨cs, fr, e2⟩ := hrow B e.symm
    rw [h.box] at e2; cases e2)).trans h.box
  have hset := heap_setCell_same W' B 0 #[v] 27 v' hb
  have hgs := grown_set W' B 0 v'
  have hN : ∀ k, v.ownBlock = some k → N ≤ k := fun k e => (h.row.lt k e).1
  have hsz := hg.size
  refine ⟨hb, ⟨hset, ?_, ?_, by simp; have := h.szN; omega, h.szB, h.szw⟩, ⟨by simp; exact hsz, ?_⟩, ⟨hg.os, hg.tape, hg.output, by simp; exact hsz, ?_⟩, ?_⟩
  · rw [List.length_append, List.length_singleton, List.flatMap_append, List.flatMap_singleton]
    refine hM.kept hgs ?_
    cases hv : v'.ownBlock with
    | none => exact .inl rfl
    | some g =>
      refine .inr (fun e => ?_)
      cases e
      have hM2 : W'.ownsRow N 39 9 v' (l ++ [x]).length ((l ++ [x]).flatMap rwCs) := by rw [List.length_append, List.length_singleton, List.flatMap_append, List.flatMap_singleton]; exact hM
      obtain ⟨cs, fr, e2⟩ := (rowT_owns rwCs rwCs_len rwCs_cell (by decide) hM2).2 B hv
      rw [hb] at e2; cases e2
  · exact Later.grown (Later.grown h.low hg (fun k e => Nat.le_trans h.szw (hN k e))) hgs (fun k e => by cases e; exact h.szB)
  · intro k o hk ho
    have h1 := (hg.block k (Array.getElem?_eq_some_iff.1 hk).1 (fun e => by
      obtain ⟨cs, fr, e2⟩ := hrow k e.symm
      rw [hk] at e2; cases e2; cases ho)).trans hk
    exact (hgs.block k (Array.getElem?_eq_some_iff.1 h1).1 (fun e => by cases e; rw [hb] at h1; cases h1; cases ho)).trans h1
  · intro k hk hkB
    by_cases hks : k < W.heap.size
    · have h1 := hg.block k hks (fun e => by have := hN k e.symm; omega)
      exact (hgs.block k (by omega) (fun e => hkB (by cases e; rfl))).trans h1
    · have := h.szN; omega
  · intro k cs t fr hk ht1 ht2
    have h1 := (hg.block k (Array.getElem?_eq_some_iff.1 hk).1 (fun e => by
      obtain ⟨cs', fr', e2⟩ := hrow k e.symm
      rw [hk] at e2; cases e2; exact ht1 rfl)).trans hk
    exact (hgs.block k (Array.getElem?_eq_some_iff.1 h1).1 (fun e => by cases e; rw [hb] at h1; cases h1; exact ht2 rfl)).trans h1
end
theorem RowT.blocks {α : Type} {t : TypeId} {sz : Nat} {f : α → Nat → Value} {w w' : World} {v : Value} {xs : List α} (h : RowT t sz f w v xs) (hs : w.heap.size ≤ w'.heap.size) (hb : ∀ (k : Nat) (cs : Array Value) (fr : Nat × Nat), w.heap[k]? = some (Obj.cells cs t fr) → w'.heap[k]? = some (Obj.cells cs t fr)) : RowT t sz f w' v xs := by
  refine ⟨?_, fun b e => ?_⟩
  · rcases h.1 with h1 | ⟨b, o, cap, h1, h2, h3, h4, h5⟩
    · exact .inl h1
    · refine .inr ⟨b, o, cap, h1, Nat.lt_of_lt_of_le h2 hs, h3, h4, fun i hi j hj => ?_⟩
      obtain ⟨cs, fr, e⟩ := h.2 b (by rw [h1]; rfl)
      rw [World.cell?_of_block (a := ⟨b, o + i * sz + j, none⟩) ((hb b cs fr e).trans e.symm)]
      exact h5 i hi j hj
  · obtain ⟨cs, fr, e2⟩ := h.2 b e
    exact ⟨cs, fr, hb b cs fr e2⟩
end Go.Proofs.YtpblfheeeifjcaaDoor
