/- rows of structs and of integers, literals, arrays by value: words of ours that hang on no function -/
import Derived.Test.YtckeaibamgkegaaDoorOps
import Derived.Great.BuildSlice
set_option linter.all false
namespace Go.Proofs.YtckeaibamgkegaaDoor
open Go.RowKit
set_option maxRecDepth 100000

def I64 (x : Int) : Prop := -9223372036854775808 ≤ x ∧ x ≤ 9223372036854775807
/-- A slice holds structs of some cells. -/
def IsRow {α : Type} (sz : Nat) (f : α → Nat → Value) (w : World) (v : Value) (xs : List α) : Prop :=
  ((∃ p, v = .slice p 0 0) ∧ xs = []) ∨ ∃ b o cap, v = .slice (some ⟨b, o, none⟩) xs.length cap ∧ b < w.heap.size ∧ xs.length ≤ cap ∧ cap ≤ maxLen ∧
    ∀ i (h : i < xs.length) j, j < sz → w.cell? ⟨b, o + i * sz + j, none⟩ = some (f xs[i] j)
section
variable {α : Type} {sz : Nat} {f : α → Nat → Value} {w w' : World} {v : Value} {xs : List α}
theorem IsRow.later (h : IsRow sz f w v xs) (hb : Later w w') : IsRow sz f w' v xs := by
  rcases h with h | ⟨b, o, cap, h1, h2, h3, h4, h5⟩
  · exact .inl h
  · exact .inr ⟨b, o, cap, h1, Nat.lt_of_lt_of_le h2 (Later.size hb), h3, h4, fun i hi j hj => ((bcell hb).1 _ _ h2).trans (h5 i hi j hj)⟩
theorem IsRow.cells (h : IsRow sz f w v xs) (hs : w.heap.size ≤ w'.heap.size) (hb : ∀ a u, w.cell? a = some u → w'.cell? a = some u) : IsRow sz f w' v xs := by
  rcases h with h | ⟨b, o, cap, h1, h2, h3, h4, h5⟩
  · exact .inl h
  · exact .inr ⟨b, o, cap, h1, Nat.lt_of_lt_of_le h2 hs, h3, h4, fun i hi j hj => hb _ _ (h5 i hi j hj)⟩
theorem IsRow.form (h : IsRow sz f w v xs) : ∃ p cap, v = .slice p xs.length cap := by
  rcases h with ⟨⟨p, h1⟩, h2⟩ | ⟨b, o, cap, h1, _⟩
  · subst h2; exact ⟨p, 0, h1⟩
  · exact ⟨_, _, h1⟩
theorem IsRow.nil (w : World) : IsRow sz f w (.slice none 0 0) [] := .inl ⟨⟨none, rfl⟩, rfl⟩
theorem IsRow.full (h : IsRow sz f w v xs) {i : Nat} (hi : i < xs.length) : ∃ b o cap, v = .slice (some ⟨b, o, none⟩) xs.length cap ∧ b < w.heap.size ∧ ∀ j, j < sz → w.cell? ⟨b, o + i * sz + j, none⟩ = some (f xs[i] j) := by
  rcases h with ⟨_, rfl⟩ | ⟨b, o, cap, h1, h2, h3, h4, h5⟩
  · simp at hi
  · exact ⟨b, o, cap, h1, h2, fun j hj => h5 i hi j hj⟩
theorem flat_get (cs : α → List Value) (hcs : ∀ x, (cs x).length = sz) : ∀ (xs : List α) (i : Nat) (hi : i < xs.length) (j : Nat), j < sz → (xs.flatMap cs)[i * sz + j]? = (cs xs[i])[j]?
  | [], i, hi, _, _ => by simp at hi
  | x :: r, 0, _, j, hj => by
    rw [List.flatMap_cons, Nat.zero_mul, Nat.zero_add, List.getElem?_append_left (by rw [hcs]; exact hj)]; rfl
  | x :: r, i + 1, hi, j, hj => by
    rw [List.flatMap_cons, List.getElem?_append_right (by rw [hcs]; have : (i + 1) * sz = i * sz + sz := Nat.succ_mul i sz; omega), hcs]
    have := flat_get cs hcs r i (by simpa using hi) j hj
    have e : (i + 1) * sz + j - sz = i * sz + j := by rw [Nat.succ_mul]; omega
    rw [e, this]; rfl
theorem flat_len (cs : α → List Value) (hcs : ∀ x, (cs x).length = sz) : ∀ (xs : List α), (xs.flatMap cs).length = xs.length * sz
  | [] => by simp
  | x :: r => by rw [List.flatMap_cons, List.length_append, hcs, flat_len cs hcs r, List.length_cons, Nat.succ_mul]; omega
theorem Mine.row_ {w0 : World} {e : TypeId} {n : Nat} (cs : α → List Value) (hcs : ∀ x, (cs x).length = sz) (hf : ∀ x j, j < sz → (cs x)[j]? = some (f x j)) (hsz : 0 < sz) (h : Mine w0 e sz w v n (xs.flatMap cs)) : IsRow sz f w v xs ∧ n = xs.length := by
  have hn : n = xs.length := by have := h.1.1; rw [flat_len cs hcs] at this; exact Nat.eq_of_mul_eq_mul_right hsz this.symm
  refine ⟨?_, hn⟩
  subst hn
  rcases h.1.2 with ⟨h1, h2⟩ | ⟨g, cap, cur, h1, h2, h3, h4, h5, h6, h7⟩
  · exact .inl ⟨⟨none, by rw [h1]⟩, List.eq_nil_of_length_eq_zero h2⟩
  · refine .inr ⟨g, 0, cap, h1, (h.1.lt g (by rw [h1]; rfl)).2, h4, h5, fun i hi j hj => ?_⟩
    have := h.1.cells (g := g) (by rw [h1]; rfl) (i * sz + j) (f xs[i] j) (by rw [flat_get cs hcs xs i hi j hj]; exact hf _ _ hj)
    rwa [add_plain, ← Nat.add_assoc] at this
end

theorem grown_cell {w w' : World} {row : Option Nat} (hg : w.grownBy w' row) {b i : Nat} {u : Value} (h : w.cell? ⟨b, i, none⟩ = some u) (hne : some b ≠ row) : w'.cell? ⟨b, i, none⟩ = some u := by
  have hb := hg.block b (World.block_lt_of_cell? _ _ h) hne
  unfold World.cell? at h ⊢
  simp only at h ⊢
  rw [hb]; exact h
theorem grown_size {w w' : World} {row : Option Nat} (hg : w.grownBy w' row) : w.heap.size ≤ w'.heap.size := hg.size
/-- A slice holds ints. -/
def IsInts (w : World) (v : Value) (zs : List Int) : Prop :=
  (v = .slice none 0 0 ∧ zs = []) ∨ ∃ b o cap, v = .slice (some ⟨b, o, none⟩) zs.length cap ∧ b < w.heap.size ∧ zs.length ≤ cap ∧ cap ≤ maxLen ∧ ∀ j (h : j < zs.length), w.cell? ⟨b, o + j, none⟩ = some (.int .i64 zs[j])
theorem IsInts.later {w w' : World} {v : Value} {zs : List Int} (h : IsInts w v zs) (hb : Later w w') : IsInts w' v zs := by
  rcases h with h | ⟨b, o, cap, h1, h2, h3, h4, h5⟩
  · exact .inl h
  · exact .inr ⟨b, o, cap, h1, Nat.lt_of_lt_of_le h2 (Later.size hb), h3, h4, fun j hj => ((bcell hb).1 _ _ h2).trans (h5 j hj)⟩
theorem IsInts.form {w : World} {v : Value} {zs : List Int} (h : IsInts w v zs) : ∃ p cap, v = .slice p zs.length cap := by
  rcases h with ⟨h1, h2⟩ | ⟨b, o, cap, h1, _⟩
  · subst h2; exact ⟨_, _, h1⟩
  · exact ⟨_, _, h1⟩
theorem IsInts.full {w : World} {v : Value} {zs : List Int} {j : Nat} (h : IsInts w v zs) (hj : j < zs.length) : ∃ b o cap, v = .slice (some ⟨b, o, none⟩) zs.length cap ∧ b < w.heap.size ∧ w.cell? ⟨b, o + j, none⟩ = some (.int .i64 zs[j]) := by
  rcases h with ⟨_, rfl⟩ | ⟨b, o, cap, h1, h2, h3, h4, h5⟩
  · simp at hj
  · exact ⟨b, o, cap, h1, h2, h5 j hj⟩
theorem Mine.ints {w0 w : World} {e : TypeId} {v : Value} {n : Nat} {zs : List Int} (h : Mine w0 e 1 w v n (zs.map (Value.int .i64))) : IsInts w v zs ∧ n = zs.length := by
  have hn : n = zs.length := by have := h.1.1; simp at this; omega
  refine ⟨?_, hn⟩
  subst hn
  rcases h.1.2 with ⟨h1, h2⟩ | ⟨g, cap, cur, h1, h2, h3, h4, h5, h6, h7⟩
  · exact .inl ⟨by rw [h1], List.eq_nil_of_length_eq_zero h2⟩
  · refine .inr ⟨g, 0, cap, h1, (h.1.lt g (by rw [h1]; rfl)).2, h4, h5, fun j hj => ?_⟩
    have := h.1.cells (g := g) (by rw [h1]; rfl) j (.int .i64 zs[j]) (by simp [hj])
    rwa [add_plain] at this

theorem intInfo : (Tryd.prog.info? 3).map (fun i => (i.zero, i.size, i.bytes)) = some (some (.int .i64 0), 1, 8) := by kernel_rfl
/-- One element is appended, behind the block that holds it. -/
theorem wpList_push {P : Program} {w0 w : World} {e sz : Nat} {v : Value} {n : Nat} {xs : List Value} {ops : Array Oper} {rest : List Oper} {o : Oper} {a : Act} {Q : Exit → Act → World → Prop} {t bytes : Nat} {ta : TypeId} {news : Array Value}
    (T : SliceOf P t e sz bytes) (hM : Mine w0 e sz w v n xs) (hgd : o.guard = none) (s x : Operand)
    (ho : o.op = .call { callee := .builtin .append, args := #[s, x], argTypes := #[t, t] }) (hs : a.eval s = v) (c : Nat) (hx : a.eval x = .slice (some ⟨w.heap.size, 0, none⟩) 1 c) (hl : news.size = sz) (h1 : ∀ u ∈ news.toList, u.oneCell' = true)
    (h63 : (n + 1) * bytes ≤ 140737488355328) (h64 : n + 1 ≤ maxLen)
    (h : ∀ v' w', Mine w0 e sz w' v' (n + 1) (xs ++ news.toList) → (w.alloc (.cells news ta)).grownBy w' v.ownBlock → wpList P ops Q rest (a.put o.dst v') w') : wpList P ops Q (o :: rest) a (w.alloc (.cells news ta)) := by
  have hc := (own_get (own_alloc w news ta)).2.1
  refine wpList_app T (hM.later ((Later.refl _).alloc _)) hgd s x ho hs w.heap.size 0 1 c news.toList hx (by rw [Nat.one_mul, Array.length_toList, hl]) ?_ h1 h63 h64 h
  intro j hj
  rw [Nat.zero_add, hc j, Array.getElem?_toList]
/-- One element is appended, behind the block that holds it, wherever that is. -/
theorem wpList_pushAt {P : Program} {w0 w : World} {e sz : Nat} {v : Value} {n : Nat} {xs : List Value} {ops : Array Oper} {rest : List Oper} {o : Oper} {a : Act} {Q : Exit → Act → World → Prop} {t bytes : Nat} {ta : TypeId} {news : Array Value}
    (T : SliceOf P t e sz bytes) (hM : Mine w0 e sz w v n xs) (hgd : o.guard = none) (s x : Operand)
    (ho : o.op = .call { callee := .builtin .append, args := #[s, x], argTypes := #[t, t] }) (hs : a.eval s = v) (c b : Nat) (hx : a.eval x = .slice (some ⟨b, 0, none⟩) 1 c) (hb : b = w.heap.size) (hl : news.size = sz) (h1 : ∀ u ∈ news.toList, u.oneCell' = true)
    (h63 : (n + 1) * bytes ≤ 140737488355328) (h64 : n + 1 ≤ maxLen)
    (h : ∀ v' w', Mine w0 e sz w' v' (n + 1) (xs ++ news.toList) → (w.alloc (.cells news ta)).grownBy w' v.ownBlock → wpList P ops Q rest (a.put o.dst v') w') : wpList P ops Q (o :: rest) a (w.alloc (.cells news ta)) :=
  wpList_push T hM hgd s x ho hs c (by rw [hx, hb]) hl h1 h63 h64 h
theorem Mine.grow {w0 w w' : World} {e sz : Nat} {v : Value} {n : Nat} {xs : List Value} (h : Mine w0 e sz w v n xs) {u : World} (hu : Later u w) (hv : ∀ k, v.ownBlock = some k → u.heap.size ≤ k) (hg : w.grownBy w' v.ownBlock) : Later u w' := Later.grown hu hg (fun k hk => hv k hk)
theorem sliceInt : SliceOf Tryd.prog 58 3 1 8 := sliceOf_mk Tryd.underlying58 intInfo rfl (by decide)


/-! The two operations, as laws of the walk. -/
theorem wpList_built {P : Program} {ops : Array Oper} {rest : List Oper} {o : Oper} {a : Act} {w : World} {Q : Exit → Act → World → Prop} {t : TypeId} {vs : Array (Nat × Value)} {v : Value}
    (hr : ∀ w, (Instr.build t vs).run P w = .ok v w) {parts : Array (Nat × Operand)} (ho : o.op = .build t parts) (hg : o.guard = none) (hv : (parts.map fun (i, x) => (i, a.eval x)) = vs)
    (h : wpList P ops Q rest (a.put o.dst v) w) : wpList P ops Q (o :: rest) a w :=
  wpList_plain hg fun _ hK => by
    unfold Oper.wp execOp
    simp only [ho, Sem.run_bind, hv, hr, Result.andThen_ok]
    exact hK _ _ h
theorem wpList_builtS {P : Program} {ops : Array Oper} {rest : List Oper} {o : Oper} {a : Act} {w : World} {Q : Exit → Act → World → Prop} {t : TypeId} {n : Nat} {vs : Array (Nat × Value)} {ob : Obj}
    (hr : ∀ w, (Instr.buildSlice t n vs).run P w = .ok (.slice (some ⟨w.heap.size, 0, none⟩) n n) (w.alloc ob)) {parts : Array (Nat × Operand)} (ho : o.op = .buildSlice t n parts) (hg : o.guard = none) (hv : (parts.map fun (i, x) => (i, a.eval x)) = vs)
    (h : wpList P ops Q rest (a.put o.dst (.slice (some ⟨w.heap.size, 0, none⟩) n n)) (w.alloc ob)) : wpList P ops Q (o :: rest) a w :=
  wpList_plain hg fun _ hK => by
    unfold Oper.wp execOp
    simp only [ho, Sem.run_bind, hv, hr, Result.andThen_ok]
    exact hK _ _ h
theorem Mine.lit {w0 w : World} {e sz n : Nat} {cur : Array Value} (h : Later w0 w) (hs : cur.size = n * sz) (hn : n ≤ maxLen) : Mine w0 e sz (w.alloc (.cells cur e)) (.slice (some ⟨w.heap.size, 0, none⟩) n n) n cur.toList :=
  ⟨⟨by simp [hs], .inr ⟨w.heap.size, n, cur, rfl, Later.size h, heap_alloc_new w _, Nat.le_refl _, hn, hs, by rw [← hs, ← Array.length_toList, List.take_length]⟩⟩, h.alloc _⟩
theorem row_of_own1 {w : World} {b : Nat} {A : Array Value} (h : Own w [(b, A)]) (h0 : 0 < A.size) : ∃ t fr, w.heap[b]? = some (.cells A t fr) := by
  obtain ⟨-, c, -⟩ := own_get h
  have c0 := c 0
  have hs : A[0]? = some A[0] := Array.getElem?_eq_getElem h0
  rw [hs] at c0
  cases hh : w.heap[b]? with
  | none => simp [World.cell?, hh] at c0
  | some o =>
    cases o with
    | cells cs t fr =>
      refine ⟨t, fr, ?_⟩
      have : cs = A := by
        apply Array.ext_getElem?
        intro i
        have := c i
        simpa [World.cell?, hh] using this
      rw [this]
    | _ => simp [World.cell?, hh] at c0
theorem run_index_agg {P : Program} (t e : TypeId) (n : Nat) (cs : Array Value) (k : Nat) (v : Value) (w : World) (h : P.underlying t = some (.array n e)) (hk : k < n) (hv : cs[k]? = some v) (hs : ∀ w, (sizeOf e).run P w = .ok 1 w) (ha : ∀ w, (isAgg e).run P w = .ok false w) :
    (Instr.index t (.agg cs) (.int .i64 (k : Int))).run P w = .ok v w := by
  have h1 : (0 : Int) ≤ (k : Int) ∧ (k : Int) < (n : Int) := by omega
  simp [Instr.index, run_underlying h, asIntOf, hk, hs, part, ha, hv, Result.andThen]
theorem wpList_idx {P : Program} {ops : Array Oper} {rest : List Oper} {o : Oper} {a : Act} {w : World} {Q : Exit → Act → World → Prop} {t : TypeId} {x i : Operand} {X I v : Value}
    (hr : (Instr.index t X I).run P w = .ok v w) (ho : o.op = .index t x i) (hg : o.guard = none) (hx : a.eval x = X) (hi : a.eval i = I)
    (h : wpList P ops Q rest (a.put o.dst v) w) : wpList P ops Q (o :: rest) a w :=
  wpList_plain hg fun _ hK => by
    unfold Oper.wp execOp
    simp only [ho, hx, hi, Sem.run_bind, hr, Result.andThen_ok]
    exact hK _ _ h

end Go.Proofs.YtckeaibamgkegaaDoor
