/- rows of nodes that a call puts together: a literal, and rows behind it -/
import Derived.Test.YtkpadahpepeaoaaDoorJt
import Derived.ArgAppend
set_option linter.all false
namespace Go.Proofs.YtkpadahpepeaoaaDoor
open Go.RowKit
set_option maxRecDepth 100000

theorem Mine.lit {w0 w : World} {e sz n : Nat} {cur : Array Value} (h : Later w0 w) (hs : cur.size = n * sz) (hn : n ≤ maxLen) : Mine w0 e sz (w.alloc (.cells cur e)) (.slice (some ⟨w.heap.size, 0, none⟩) n n) n cur.toList :=
  ⟨⟨by simp [hs], .inr ⟨w.heap.size, n, cur, rfl, Later.size h, heap_alloc_new w _, Nat.le_refl _, hn, hs, by rw [← hs, ← Array.length_toList, List.take_length]⟩⟩, h.alloc _⟩
theorem nodeInfo : (Tryd.prog.info? 51).map (fun i => (i.zero, i.size, i.bytes)) = some (some (.agg #[.int .i64 0, .int .i64 0, .int .i64 0, .int .i64 0, .int .i64 0]), 5, 40) := by kernel_rfl
theorem sliceNode : SliceOf Tryd.prog 22 51 5 40 := sliceOf_mk Tryd.underlying22 nodeInfo rfl (by decide)
/-- A row of nodes that a call made. -/
def MineN (w0 w : World) (v : Value) (L : List Nd) : Prop := Mine w0 51 5 w v L.length (L.flatMap ndCs)
theorem MineN.later {w0 w w' : World} {v : Value} {L : List Nd} (h : MineN w0 w v L) (hb : Later w w') : MineN w0 w' v L := Mine.later h hb
theorem MineN.lat {w0 w : World} {v : Value} {L : List Nd} (h : MineN w0 w v L) : Later w0 w := Mine.lat h
theorem MineN.nodes {w0 w : World} {v : Value} {L : List Nd} (h : MineN w0 w v L) : IsNodes w v L := (Mine.row_ (sz := 5) (f := fun (y : Nd) j => .int .i64 (y.cell j)) ndCs (fun _ => rfl) ndCs_cell (by decide) h).1
theorem MineN.form {w0 w : World} {v : Value} {L : List Nd} (h : MineN w0 w v L) : ∃ p cap, v = .slice p L.length cap := Mine.form h
theorem ndCs_cells (x : Nd) : ∀ u ∈ ndCs x, u.oneCell' = true := by
  intro u hu
  simp only [ndCs, List.mem_cons, List.not_mem_nil, or_false] at hu
  rcases hu with rfl | rfl | rfl | rfl | rfl <;> rfl
theorem wpList_nodes {w0 w : World} {v V : Value} {L ts : List Nd} {ops : Array Oper} {rest : List Oper} {o : Oper} {a : Act} {Q : Exit → Act → World → Prop} (hM : MineN w0 w v L) (hN : IsNodes w V ts) (hgd : o.guard = none) (s x : Operand)
    (ho : o.op = .call { callee := .builtin .append, args := #[s, x], argTypes := #[22, 22] }) (hs : a.eval s = v) (hx : a.eval x = V) (h64 : L.length + ts.length ≤ 1000000)
    (h : ∀ v' w', MineN w0 w' v' (L ++ ts) → Later w0 w' → wpList Tryd.prog ops Q rest (a.put o.dst v') w') : wpList Tryd.prog ops Q (o :: rest) a w := by
  rcases hN with ⟨rfl, rfl⟩ | ⟨b, p, c, rfl, hb, h2, h3, h4⟩
  · exact wpList_app_none sliceNode hM hgd s x ho hs hx (h v w (by rw [List.append_nil]; exact hM) hM.lat)
  · refine wpList_app sliceNode hM hgd s x ho hs b p ts.length c (ts.flatMap ndCs) hx (flat_len (sz := 5) ndCs (fun _ => rfl) ts) ?_ ?_ (by omega) (by unfold maxLen; omega) (fun v' w' h1 h2 => h v' w' ?_ h1.lat)
    · intro j hj
      rw [flat_len (sz := 5) ndCs (fun _ => rfl)] at hj
      have hi : j / 5 < ts.length := by omega
      have e : p + j = p + (j / 5) * 5 + j % 5 := by omega
      rw [e, h4 (j / 5) hi (j % 5) (Nat.mod_lt _ (by decide))]
      have e2 : (ts.flatMap ndCs)[j]? = (ts.flatMap ndCs)[j / 5 * 5 + j % 5]? := by congr 1; omega
      rw [e2, flat_get (sz := 5) ndCs (fun _ => rfl) ts _ hi _ (Nat.mod_lt _ (by decide)), ndCs_cell _ _ (Nat.mod_lt _ (by decide))]
    · intro u hu
      obtain ⟨y, _, hy⟩ := List.mem_flatMap.1 hu
      exact ndCs_cells y u hy
    · unfold MineN
      rw [List.length_append, List.flatMap_append]
      exact h1
/-- Behind a full slice: a new block. -/
theorem wpList_nodes_full {w : World} {b n : Nat} {V : Value} {L ts : List Nd} {ops : Array Oper} {rest : List Oper} {o : Oper} {a : Act} {Q : Exit → Act → World → Prop} (hL : IsNodes w (.slice (some ⟨b, 0, none⟩) n n) L) (hn : L.length = n) (hN : IsNodes w V ts) (h0 : 0 < ts.length) (hgd : o.guard = none) (s x : Operand)
    (ho : o.op = .call { callee := .builtin .append, args := #[s, x], argTypes := #[22, 22] }) (hs : a.eval s = .slice (some ⟨b, 0, none⟩) n n) (hx : a.eval x = V) (h64 : n + ts.length ≤ 1000000)
    (h : ∀ v' w', MineN w w' v' (L ++ ts) → wpList Tryd.prog ops Q rest (a.put o.dst v') w') : wpList Tryd.prog ops Q (o :: rest) a w := by
  rcases hN with ⟨_, rfl⟩ | ⟨b2, p, c, rfl, hb, h2, h3, h4⟩
  · simp at h0
  subst hn
  obtain ⟨i, z, t1, t2, t3, t4, t5, t6, t7⟩ := sliceNode
  have key : ∀ (ts : List Nd) (B p : Nat), (∀ i (h : i < ts.length) j, j < 5 → w.cell? ⟨B, p + i * 5 + j, none⟩ = some (.int .i64 ((ts[i]).cell j))) → ∀ j u, (ts.flatMap ndCs)[j]? = some u → w.cell? ⟨B, p + j, none⟩ = some u := by
    intro ts B p h4 j u hj
    have hj2 : j < ts.length * 5 := by have := (List.getElem?_eq_some_iff.1 hj).1; rwa [flat_len (sz := 5) ndCs (fun _ => rfl)] at this
    have hi : j / 5 < ts.length := by omega
    have e : p + j = p + (j / 5) * 5 + j % 5 := by omega
    rw [e, h4 (j / 5) hi (j % 5) (Nat.mod_lt _ (by decide)), ← hj]
    have e2 : (ts.flatMap ndCs)[j]? = (ts.flatMap ndCs)[j / 5 * 5 + j % 5]? := by congr 1; omega
    rw [e2, flat_get (sz := 5) ndCs (fun _ => rfl) ts _ hi _ (Nat.mod_lt _ (by decide)), ndCs_cell _ _ (Nat.mod_lt _ (by decide))]
  refine wpList_append_grows w hgd s x _ ho _ i z 5 40 t1 t2 t3 t4 t5 t6 t7 (some ⟨b, 0, none⟩) L.length L.length (L.flatMap ndCs) hs (fun h => by cases h) (flat_len (sz := 5) ndCs (fun _ => rfl) L) ?_ ⟨b2, p, none⟩ ts.length c (ts.flatMap ndCs) hx (flat_len (sz := 5) ndCs (fun _ => rfl) ts) ?_ ?_ (by omega) (by unfold maxLen; omega) (by omega) ?_
  · rintro _ ⟨⟩ j u hj
    rw [add_plain]
    rcases hL with ⟨h, _⟩ | ⟨b3, p3, c3, e3, _, _, _, h5⟩
    · cases h
    · cases e3
      exact key L _ _ h5 j u hj
  · intro j u hj
    rw [add_plain]
    exact key ts _ _ h4 j u hj
  · intro u hu
    obtain ⟨y, _, hy⟩ := List.mem_flatMap.1 hu
    exact ndCs_cells y u hy
  · intro v' w' h1 h2
    refine h v' w' ⟨?_, Later.grown (Later.refl _) h2 (fun k hk => by cases hk)⟩
    rw [List.length_append, List.flatMap_append]
    exact h1
end Go.Proofs.YtkpadahpepeaoaaDoor
