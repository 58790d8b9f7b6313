/- Rounds of a range over a function: a drawn region within one by a plan; what the rounds keep. -/
import Derived.Test.YtkjabiabeemfhaaGreatDoorZ2
import Derived.Laws.AppendOwnNone
import Derived.OwnWalk
import Derived.Great.BuildSlice
import Derived.DeepKeys4
import Derived.Maps.Own
import Derived.RangeFuncNested
import Derived.RangeFuncBound
import Derived.RangeFuncCalls
import Derived.RangeFuncLeaves
import Derived.Shelf.Abstract
import Derived.Shelf.RegionOpen
import Derived.OwnWalkIn
import Derived.TacticsInMore
import Derived.LoopNIn
import Derived.LoopIn
set_option linter.all false
set_option linter.all false
section
namespace Go.Proofs.YtkjabiabeemfhaaGreatDoor
open Go.RowKit
set_option maxRecDepth 100000
def SliceOf (P : Program) (t e : TypeId) (sz bytes : Nat) : Prop :=
 ∃ i z, P.underlying t = some (.slice e) ∧ P.info? e = some i ∧ i.zero = some z ∧ i.size = sz ∧ i.bytes = bytes ∧ z.cells.size = sz ∧ 0 < sz
theorem sliceOf_mk {P : Program} {t e : TypeId} {sz bytes : Nat} {z : Value} (ht : P.underlying t = some (.slice e)) (h : (P.info? e).map (fun i => (i.zero, i.size, i.bytes)) = some (some z, sz, bytes)) (hz : z.cells.size = sz) (h0 : 0 < sz) : SliceOf P t e sz bytes := by
 obtain ⟨i0, hi, hz0, hz1, hz2⟩ := info_parts h
 exact ⟨i0, z, ht, hi, hz0, hz1, hz2, hz, h0⟩
def Mine (w0 : World) (e sz : Nat) (w : World) (v : Value) (n : Nat) (xs : List Value) : Prop := w.ownsRow w0.heap.size e sz v n xs ∧ Later w0 w
section
variable {P : Program} {w0 w : World} {e sz : Nat} {v : Value} {n : Nat} {xs : List Value}
theorem Mine.nil (h : Later w0 w) : Mine w0 e sz w (.slice none 0 0) 0 [] := ⟨World.ownsRow_nil _ _ _ _, h⟩
theorem Mine.lat (h : Mine w0 e sz w v n xs) : Later w0 w := h.2
theorem Mine.later {w' : World} (h : Mine w0 e sz w v n xs) (hb : Later w w') : Mine w0 e sz w' v n xs := by
 refine ⟨h.1.kept (row := none) ⟨hb.os, hb.tape, hb.output, hb.size, fun k hk _ => hb.block k hk⟩ ?_, h.2.trans hb⟩
 cases v.ownBlock <;> simp
theorem Mine.form (h : Mine w0 e sz w v n xs) : ∃ p cap, v = .slice p n cap := by
 rcases h.1.2 with ⟨h1, h2⟩ | ⟨g, cap, cur, h1, _⟩
 ·subst h2; exact ⟨_, _, h1⟩
 ·exact ⟨_, _, h1⟩
def CellsAt (w : World) (b o : Nat) (cs : List Value) : Prop := ∀ j, j < cs.length → w.cell? ⟨b, o + j, none⟩ = cs[j]?
theorem add_plain (b o j : Nat) : (⟨b, o, none⟩ : Addr).add j = ⟨b, o + j, none⟩ := by unfold Addr.add; split <;> simp_all
theorem wpList_app {ops : Array Oper} {rest : List Oper} {o : Oper} {a : Act} {Q : Exit → Act → World → Prop} {t bytes : Nat} (T : SliceOf P t e sz bytes) (hM : Mine w0 e sz w v n xs) (hgd : o.guard = none) (s x : Operand)
  (ho : o.op = .call { callee := .builtin .append, args := #[s, x], argTypes := #[t, t] }) (hs : a.eval s = v)
  (b p m c : Nat) (news : List Value) (hx : a.eval x = .slice (some ⟨b, p, none⟩) m c) (hl : news.length = m * sz) (hc : CellsAt w b p news) (h1 : ∀ u ∈ news, u.oneCell' = true)
  (h63 : (n + m) * bytes ≤ 140737488355328) (h64 : n + m ≤ maxLen)
  (h : ∀ v' w', Mine w0 e sz w' v' (n + m) (xs ++ news) → w.grownBy w' v.ownBlock → wpList P ops Q rest (a.put o.dst v') w') : wpList P ops Q (o :: rest) a w := by
 obtain ⟨i, z, t1, t2, t3, t4, t5, t6, t7⟩ := T
 refine wpList_append_own _ hgd s x t ho w0.heap.size e i z sz bytes t1 t2 t3 t4 t5 t6 t7 v n xs hs hM.1 ⟨b, p, none⟩ m c news hx hl ?_ h1 h64 h63 (Later.size hM.2) (fun v' w' h1' h2' _ => h v' w' ⟨h1', Later.grown hM.2 h2' (fun k hk => (hM.1.lt k hk).1)⟩ h2')
 intro j u hj
 have hjl : j < news.length := (List.getElem?_eq_some_iff.1 hj).1
 rw [add_plain, hc j hjl, hj]
end
def Own (w : World) : List (Nat × Array Value) → Prop
 | [] => True
 | (b, A) :: l => (b < w.heap.size ∧ (∀ i, w.cell? ⟨b, i, none⟩ = A[i]?) ∧ (∀ i, i < A.size → w.frozen? ⟨b, i, none⟩ = false)) ∧ Own w l
theorem Own.later {w w' : World} : ∀ {l : List (Nat × Array Value)}, Own w l → Later w w' → Own w' l
 | [], _, _ => trivial
 | (_, _) :: l, h, hb => ⟨⟨by have := Later.size hb; have := h.1.1; omega, fun i => ((bcell hb).1 _ i h.1.1).trans (h.1.2.1 i), fun i hi => ((bcell hb).2 _ i h.1.1).trans (h.1.2.2 i hi)⟩, h.2.later hb⟩
theorem Own.cons {w : World} {b : Nat} {A : Array Value} {l : List (Nat × Array Value)} (hb : b < w.heap.size) (hc : ∀ i, w.cell? ⟨b, i, none⟩ = A[i]?) (hf : ∀ i, i < A.size → w.frozen? ⟨b, i, none⟩ = false) (h : Own w l) : Own w ((b, A) :: l) := ⟨⟨hb, hc, hf⟩, h⟩
theorem Own.boxed {w w' : World} {A : Array Value} {ta : TypeId} {l : List (Nat × Array Value)} (h : Later (w.alloc (.cells A ta)) w') (hl : Own w' l) : Own w' ((w.heap.size, A) :: l) := by
 have := own1 h
 exact ⟨⟨by have := this.2.2; omega, this.1, this.2.1⟩, hl⟩
theorem Own.one {w w' : World} {A : Array Value} {ta : TypeId} (h : Later (w.alloc (.cells A ta)) w') : Own w' [(w.heap.size, A)] := Own.boxed h trivial
theorem Own.two {w w' : World} {A B : Array Value} {ta tb : TypeId} (h : Later ((w.alloc (.cells A ta)).alloc (.cells B tb)) w') : Own w' [(w.heap.size, A), (w.heap.size + 1, B)] := by
 have := Own.one h; rw [World.size_alloc] at this
 exact Own.boxed (Later.trans ((Later.refl _).alloc _) h) this
theorem Own.three {w w' : World} {A B C : Array Value} {ta tb tc : TypeId} (h : Later (((w.alloc (.cells A ta)).alloc (.cells B tb)).alloc (.cells C tc)) w') : Own w' [(w.heap.size, A), (w.heap.size + 1, B), (w.heap.size + 1 + 1, C)] := by
 have := Own.two h; rw [World.size_alloc] at this
 exact Own.boxed (Later.trans (((Later.refl _).alloc _).alloc _) h) this
theorem Own.four {w w' : World} {A B C D : Array Value} {ta tb tc td : TypeId} (h : Later ((((w.alloc (.cells A ta)).alloc (.cells B tb)).alloc (.cells C tc)).alloc (.cells D td)) w') : Own w' [(w.heap.size, A), (w.heap.size + 1, B), (w.heap.size + 1 + 1, C), (w.heap.size + 1 + 1 + 1, D)] := by
 have := Own.three h; rw [World.size_alloc] at this
 exact Own.boxed (Later.trans ((((Later.refl _).alloc _).alloc _).alloc _) h) this
theorem own_alloc (w : World) (A : Array Value) (ta : TypeId) : Own (w.alloc (.cells A ta)) [(w.heap.size, A)] := Own.one (Later.refl _)
theorem own_one_d {w w' : World} {A : Array Value} {ta : TypeId} (h : Later (w.alloc (.cells A ta)).drew w') : Own w' [(w.heap.size, A)] := Own.one h.undrew
theorem own_set2 {w : World} {b : Nat} {u v x y : Value} (h : Own w [(b, #[u, v])]) : Own ((w.setCell ⟨b, 0, none⟩ x).setCell ⟨b, 1, none⟩ y) [(b, #[x, y])] :=
 Own.cons (by simpa using h.1.1) (fun i => set_own (k := 1) (set_own (k := 0) h.1.2.1 x (by simp)) y (by simp) i) (fun i hi => set_frozen (n := 2) (fun i hi => set_frozen (n := 2) h.1.2.2 x i hi) y i hi) trivial
theorem own_get {w : World} {b : Nat} {A : Array Value} (h : Own w [(b, A)]) : b < w.heap.size ∧ (∀ i, w.cell? ⟨b, i, none⟩ = A[i]?) ∧ (∀ i, i < A.size → w.frozen? ⟨b, i, none⟩ = false) := h.1
theorem Later.putCell {a b : World} (h : Later a b) {k i : Nat} (hk : a.heap.size ≤ k) (u : Value) : Later a (b.setCell ⟨k, i, none⟩ u) := h.setCell hk u
theorem Later.un1 {a b : World} {o : Obj} (h : Later (a.alloc o) b) : Later a b := Later.unalloc h
end Go.Proofs.YtkjabiabeemfhaaGreatDoor
end
section
namespace Go.Proofs.YtkjabiabeemfhaaGreatDoor
open Go.RowKit
set_option maxRecDepth 100000
def I64 (x : Int) : Prop := -9223372036854775808 ≤ x ∧ x ≤ 9223372036854775807
def IsRow {α : Type} (sz : Nat) (f : α → Nat → Value) (w : World) (v : Value) (xs : List α) : Prop :=
 ((∃ p, v = .slice p 0 0) ∧ xs = []) ∨ ∃ b o cap, v = .slice (some ⟨b, o, none⟩) xs.length cap ∧ b < w.heap.size ∧ xs.length ≤ cap ∧ cap ≤ maxLen ∧
  ∀ i (h : i < xs.length) j, j < sz → w.cell? ⟨b, o + i * sz + j, none⟩ = some (f xs[i] j)
section
variable {α : Type} {sz : Nat} {f : α → Nat → Value} {w w' : World} {v : Value} {xs : List α}
theorem IsRow.later (h : IsRow sz f w v xs) (hb : Later w w') : IsRow sz f w' v xs := by
 rcases h with h | ⟨b, o, cap, h1, h2, h3, h4, h5⟩
 ·exact .inl h
 ·exact .inr ⟨b, o, cap, h1, Nat.lt_of_lt_of_le h2 (Later.size hb), h3, h4, fun i hi j hj => ((bcell hb).1 _ _ h2).trans (h5 i hi j hj)⟩
theorem IsRow.form (h : IsRow sz f w v xs) : ∃ p cap, v = .slice p xs.length cap := by
 rcases h with ⟨⟨p, h1⟩, h2⟩ | ⟨b, o, cap, h1, _⟩
 ·subst h2; exact ⟨p, 0, h1⟩
 ·exact ⟨_, _, h1⟩
theorem IsRow.full (h : IsRow sz f w v xs) {i : Nat} (hi : i < xs.length) : ∃ b o cap, v = .slice (some ⟨b, o, none⟩) xs.length cap ∧ b < w.heap.size ∧ ∀ j, j < sz → w.cell? ⟨b, o + i * sz + j, none⟩ = some (f xs[i] j) := by
 rcases h with ⟨_, rfl⟩ | ⟨b, o, cap, h1, h2, h3, h4, h5⟩
 ·simp at hi
 ·exact ⟨b, o, cap, h1, h2, fun j hj => h5 i hi j hj⟩
theorem flat_get (cs : α → List Value) (hcs : ∀ x, (cs x).length = sz) : ∀ (xs : List α) (i : Nat) (hi : i < xs.length) (j : Nat), j < sz → (xs.flatMap cs)[i * sz + j]? = (cs xs[i])[j]?
 | [], i, hi, _, _ => by simp at hi
 | x :: r, 0, _, j, hj => by
  rw [List.flatMap_cons, Nat.zero_mul, Nat.zero_add, List.getElem?_append_left (by rw [hcs]; exact hj)]; rfl
 | x :: r, i + 1, hi, j, hj => by
  rw [List.flatMap_cons, List.getElem?_append_right (by rw [hcs]; have : (i + 1) * sz = i * sz + sz := Nat.succ_mul i sz; omega), hcs]
  have := flat_get cs hcs r i (by simpa using hi) j hj
  have e : (i + 1) * sz + j - sz = i * sz + j := by rw [Nat.succ_mul]; omega
  rw [e, this]; rfl
theorem flat_len (cs : α → List Value) (hcs : ∀ x, (cs x).length = sz) : ∀ (xs : List α), (xs.flatMap cs).length = xs.length * sz
 | [] => by simp
 | x :: r => by rw [List.flatMap_cons, List.length_append, hcs, flat_len cs hcs r, List.length_cons, Nat.succ_mul]; omega
theorem Mine.row_ {w0 : World} {e : TypeId} {n : Nat} (cs : α → List Value) (hcs : ∀ x, (cs x).length = sz) (hf : ∀ x j, j < sz → (cs x)[j]? = some (f x j)) (hsz : 0 < sz) (h : Mine w0 e sz w v n (xs.flatMap cs)) : IsRow sz f w v xs ∧ n = xs.length := by
 have hn : n = xs.length := by have := h.1.1; rw [flat_len cs hcs] at this; exact Nat.eq_of_mul_eq_mul_right hsz this.symm
 refine ⟨?_, hn⟩
 subst hn
 rcases h.1.2 with ⟨h1, h2⟩ | ⟨g, cap, cur, h1, h2, h3, h4, h5, h6, h7⟩
 ·exact .inl ⟨⟨none, by rw [h1]⟩, List.eq_nil_of_length_eq_zero h2⟩
 ·refine .inr ⟨g, 0, cap, h1, (h.1.lt g (by rw [h1]; rfl)).2, h4, h5, fun i hi j hj => ?_⟩
  have := h.1.cells (g := g) (by rw [h1]; rfl) (i * sz + j) (f xs[i] j) (by rw [flat_get cs hcs xs i hi j hj]; exact hf _ _ hj)
  rwa [add_plain, ← Nat.add_assoc] at this
end
def IsInts (w : World) (v : Value) (zs : List Int) : Prop :=
 (v = .slice none 0 0 ∧ zs = []) ∨ ∃ b o cap, v = .slice (some ⟨b, o, none⟩) zs.length cap ∧ b < w.heap.size ∧ zs.length ≤ cap ∧ cap ≤ maxLen ∧ ∀ j (h : j < zs.length), w.cell? ⟨b, o + j, none⟩ = some (.int .i64 zs[j])
theorem IsInts.later {w w' : World} {v : Value} {zs : List Int} (h : IsInts w v zs) (hb : Later w w') : IsInts w' v zs := by
 rcases h with h | ⟨b, o, cap, h1, h2, h3, h4, h5⟩
 ·exact .inl h
 ·exact .inr ⟨b, o, cap, h1, Nat.lt_of_lt_of_le h2 (Later.size hb), h3, h4, fun j hj => ((bcell hb).1 _ _ h2).trans (h5 j hj)⟩
theorem IsInts.form {w : World} {v : Value} {zs : List Int} (h : IsInts w v zs) : ∃ p cap, v = .slice p zs.length cap := by
 rcases h with ⟨h1, h2⟩ | ⟨b, o, cap, h1, _⟩
 ·subst h2; exact ⟨_, _, h1⟩
 ·exact ⟨_, _, h1⟩
theorem IsInts.full {w : World} {v : Value} {zs : List Int} {j : Nat} (h : IsInts w v zs) (hj : j < zs.length) : ∃ b o cap, v = .slice (some ⟨b, o, none⟩) zs.length cap ∧ b < w.heap.size ∧ w.cell? ⟨b, o + j, none⟩ = some (.int .i64 zs[j]) := by
 rcases h with ⟨_, rfl⟩ | ⟨b, o, cap, h1, h2, h3, h4, h5⟩
 ·simp at hj
 ·exact ⟨b, o, cap, h1, h2, h5 j hj⟩
theorem Mine.ints {w0 w : World} {e : TypeId} {v : Value} {n : Nat} {zs : List Int} (h : Mine w0 e 1 w v n (zs.map (Value.int .i64))) : IsInts w v zs ∧ n = zs.length := by
 have hn : n = zs.length := by have := h.1.1; simp at this; omega
 refine ⟨?_, hn⟩
 subst hn
 rcases h.1.2 with ⟨h1, h2⟩ | ⟨g, cap, cur, h1, h2, h3, h4, h5, h6, h7⟩
 ·exact .inl ⟨by rw [h1], List.eq_nil_of_length_eq_zero h2⟩
 ·refine .inr ⟨g, 0, cap, h1, (h.1.lt g (by rw [h1]; rfl)).2, h4, h5, fun j hj => ?_⟩
  have := h.1.cells (g := g) (by rw [h1]; rfl) j (.int .i64 zs[j]) (by simp [hj])
  rwa [add_plain] at this
theorem intInfo : (Tryz.prog.info? 3).map (fun i => (i.zero, i.size, i.bytes)) = some (some (.int .i64 0), 1, 8) := by kernel_rfl
theorem wpList_push {P : Program} {w0 w : World} {e sz : Nat} {v : Value} {n : Nat} {xs : List Value} {ops : Array Oper} {rest : List Oper} {o : Oper} {a : Act} {Q : Exit → Act → World → Prop} {t bytes : Nat} {ta : TypeId} {news : Array Value}
  (T : SliceOf P t e sz bytes) (hM : Mine w0 e sz w v n xs) (hgd : o.guard = none) (s x : Operand)
  (ho : o.op = .call { callee := .builtin .append, args := #[s, x], argTypes := #[t, t] }) (hs : a.eval s = v) (c : Nat) (hx : a.eval x = .slice (some ⟨w.heap.size, 0, none⟩) 1 c) (hl : news.size = sz) (h1 : ∀ u ∈ news.toList, u.oneCell' = true)
  (h63 : (n + 1) * bytes ≤ 140737488355328) (h64 : n + 1 ≤ maxLen)
  (h : ∀ v' w', Mine w0 e sz w' v' (n + 1) (xs ++ news.toList) → (w.alloc (.cells news ta)).grownBy w' v.ownBlock → wpList P ops Q rest (a.put o.dst v') w') : wpList P ops Q (o :: rest) a (w.alloc (.cells news ta)) := by
 have hc := (own_get (own_alloc w news ta)).2.1
 refine wpList_app T (hM.later ((Later.refl _).alloc _)) hgd s x ho hs w.heap.size 0 1 c news.toList hx (by rw [Nat.one_mul, Array.length_toList, hl]) ?_ h1 h63 h64 h
 intro j hj
 rw [Nat.zero_add, hc j, Array.getElem?_toList]
theorem wpList_pushAt {P : Program} {w0 w : World} {e sz : Nat} {v : Value} {n : Nat} {xs : List Value} {ops : Array Oper} {rest : List Oper} {o : Oper} {a : Act} {Q : Exit → Act → World → Prop} {t bytes : Nat} {ta : TypeId} {news : Array Value}
  (T : SliceOf P t e sz bytes) (hM : Mine w0 e sz w v n xs) (hgd : o.guard = none) (s x : Operand)
  (ho : o.op = .call { callee := .builtin .append, args := #[s, x], argTypes := #[t, t] }) (hs : a.eval s = v) (c b : Nat) (hx : a.eval x = .slice (some ⟨b, 0, none⟩) 1 c) (hb : b = w.heap.size) (hl : news.size = sz) (h1 : ∀ u ∈ news.toList, u.oneCell' = true)
  (h63 : (n + 1) * bytes ≤ 140737488355328) (h64 : n + 1 ≤ maxLen)
  (h : ∀ v' w', Mine w0 e sz w' v' (n + 1) (xs ++ news.toList) → (w.alloc (.cells news ta)).grownBy w' v.ownBlock → wpList P ops Q rest (a.put o.dst v') w') : wpList P ops Q (o :: rest) a (w.alloc (.cells news ta)) :=
 wpList_push T hM hgd s x ho hs c (by rw [hx, hb]) hl h1 h63 h64 h
theorem sliceInt : SliceOf Tryz.prog 94 3 1 8 := sliceOf_mk Tryz.underlying94 intInfo rfl (by decide)
theorem Mine.lit {w0 w : World} {e sz n : Nat} {cur : Array Value} (h : Later w0 w) (hs : cur.size = n * sz) (hn : n ≤ maxLen) : Mine w0 e sz (w.alloc (.cells cur e)) (.slice (some ⟨w.heap.size, 0, none⟩) n n) n cur.toList :=
 ⟨⟨by simp [hs], .inr ⟨w.heap.size, n, cur, rfl, Later.size h, heap_alloc_new w _, Nat.le_refl _, hn, hs, by rw [← hs, ← Array.length_toList, List.take_length]⟩⟩, h.alloc _⟩
theorem row_of_own1 {w : World} {b : Nat} {A : Array Value} (h : Own w [(b, A)]) (h0 : 0 < A.size) : ∃ t fr, w.heap[b]? = some (.cells A t fr) := by
 obtain ⟨-, c, -⟩ := own_get h
 have c0 := c 0
 have hs : A[0]? = some A[0] := Array.getElem?_eq_getElem h0
 rw [hs] at c0
 cases hh : w.heap[b]? with
 | none => simp [World.cell?, hh] at c0
 | some o =>
  cases o with
  | cells cs t fr =>
   refine ⟨t, fr, ?_⟩
   have : cs = A := by
    apply Array.ext_getElem?
    intro i
    have := c i
    simpa [World.cell?, hh] using this
   rw [this]
  | _ => simp [World.cell?, hh] at c0
theorem run_index_agg {P : Program} (t e : TypeId) (n : Nat) (cs : Array Value) (k : Nat) (v : Value) (w : World) (h : P.underlying t = some (.array n e)) (hk : k < n) (hv : cs[k]? = some v) (hs : ∀ w, (sizeOf e).run P w = .ok 1 w) (ha : ∀ w, (isAgg e).run P w = .ok false w) :
  (Instr.index t (.agg cs) (.int .i64 (k : Int))).run P w = .ok v w := by
 have h1 : (0 : Int) ≤ (k : Int) ∧ (k : Int) < (n : Int) := by omega
 simp [Instr.index, run_underlying h, asIntOf, hk, hs, part, ha, hv, Result.andThen]
theorem wpList_idx {P : Program} {ops : Array Oper} {rest : List Oper} {o : Oper} {a : Act} {w : World} {Q : Exit → Act → World → Prop} {t : TypeId} {x i : Operand} {X I v : Value}
  (hr : (Instr.index t X I).run P w = .ok v w) (ho : o.op = .index t x i) (hg : o.guard = none) (hx : a.eval x = X) (hi : a.eval i = I)
  (h : wpList P ops Q rest (a.put o.dst v) w) : wpList P ops Q (o :: rest) a w :=
 wpList_plain hg fun _ hK => by
  unfold Oper.wp execOp
  simp only [ho, hx, hi, Sem.run_bind, hr, Result.andThen_ok]
  exact hK _ _ h
end Go.Proofs.YtkjabiabeemfhaaGreatDoor
end
section
namespace Go.Proofs.YtkjabiabeemfhaaGreatDoor
open Go.RowKit
set_option maxRecDepth 100000
open Go.WideMaps Go.ChangeMaps
structure KL (P : Program) (k : TypeId) : Prop where
 check : ∀ (w : World) (em : Bool) {v : Value} {l : Lit}, keyOf P k v = some l → (Instr.checkKey em 10000 k v).run P w = .ok () w
 find : ∀ (w : World) {x : Value} {lx : Lit}, keyOf P k x = some lx → ∀ es : List MapEntry, (∀ e ∈ es, ∃ l, keyOf P k e.key = some l) →
  ((Instr.findKey k x es).run P w = .ok none w ∧ ∀ e ∈ es, e.key ≠ x) ∨ ∃ j e, (Instr.findKey k x es).run P w = .ok (some (j, e.val)) w ∧ es[j]? = some e ∧ e.key = x
 stays : ∀ (w : World) {v : Value} {l : Lit}, keyOf P k v = some l → (Instr.keyThatStays v v).run P w = .ok v w
theorem KL.of {P : Program} {k : TypeId} (K : KeyLaw P k) : KL P k := ⟨K.check, K.find, K.stays⟩
section
variable {κ β : Type} [DecidableEq κ]
def getA (l : List (κ × β)) (k : κ) : Option β := (l.find? (fun p => decide (p.1 = k))).map (·.2)
def putA (l : List (κ × β)) (k : κ) (v : β) : List (κ × β) := if l.any (fun p => decide (p.1 = k)) then l.map (fun p => if p.1 = k then (k, v) else p) else l ++ [(k, v)]
theorem getA_none {l : List (κ × β)} {k : κ} (h : ∀ p ∈ l, p.1 ≠ k) : getA l k = none := by
 unfold getA
 rw [List.find?_eq_none.2 (by simpa using h)]; rfl
theorem getA_some {l : List (κ × β)} (hn : (l.map (·.1)).Nodup) {p : κ × β} (hp : p ∈ l) : getA l p.1 = some p.2 := by
 unfold getA
 induction l with
 | nil => cases hp
 | cons q r ih =>
  rw [List.map_cons, List.nodup_cons] at hn
  rw [List.find?_cons]
  by_cases h : q.1 = p.1
  ·rcases List.mem_cons.1 hp with rfl | hp
   ·simp
   ·exact absurd (List.mem_map.2 ⟨p, hp, h.symm⟩) hn.1
  ·rcases List.mem_cons.1 hp with rfl | hp
   ·exact absurd rfl h
   ·simp only [h, decide_false]
    exact ih hn.2 hp
theorem any_key {l : List (κ × β)} {k : κ} : l.any (fun p => decide (p.1 = k)) = true ↔ ∃ p ∈ l, p.1 = k := by simp
theorem putA_keys (l : List (κ × β)) (k : κ) (v : β) (hn : (l.map (·.1)).Nodup) : ((putA l k v).map (·.1)).Nodup := by
 unfold putA
 split
 ·rw [List.map_map]
  have : (l.map ((fun x : κ × β => x.1) ∘ fun p => if p.1 = k then (k, v) else p)) = l.map (·.1) := by
   apply List.map_congr_left
   intro p _
   simp only [Function.comp]
   split
   ·rename_i h; exact h.symm
   ·rfl
  rw [this]; exact hn
 ·rename_i h
  rw [List.map_append, List.nodup_append]
  refine ⟨hn, by simp, ?_⟩
  intro a ha b hb
  simp at hb
  subst hb
  rintro rfl
  obtain ⟨p, hp, rfl⟩ := List.mem_map.1 ha
  exact h (any_key.2 ⟨p, hp, rfl⟩)
theorem putA_get (l : List (κ × β)) (k j : κ) (v : β) (hn : (l.map (·.1)).Nodup) : getA (putA l k v) j = if j = k then some v else getA l j := by
 have hn' := putA_keys l k v hn
 by_cases hj : j = k
 ·subst hj
  rw [if_pos rfl]
  have hm : (j, v) ∈ putA l j v := by
   unfold putA
   split
   ·rename_i h
    obtain ⟨p, hp, hk⟩ := any_key.1 h
    exact List.mem_map.2 ⟨p, hp, by rw [if_pos hk]⟩
   ·simp
  exact getA_some hn' hm
 ·rw [if_neg hj]
  cases hg : getA l j with
  | none =>
   apply getA_none
   intro p hp hk
   unfold putA at hp
   split at hp
   ·obtain ⟨q, hq, rfl⟩ := List.mem_map.1 hp
    split at hk
    ·exact hj hk.symm
    ·subst hk; rw [getA_some hn hq] at hg; cases hg
   ·rcases List.mem_append.1 hp with hp | hp
    ·subst hk; rw [getA_some hn hp] at hg; cases hg
    ·simp at hp; subst hp; exact hj hk.symm
  | some u =>
   have : ∃ p ∈ l, p.1 = j ∧ p.2 = u := by
    unfold getA at hg
    obtain ⟨p, hp, rfl⟩ := Option.map_eq_some_iff.1 hg
    have h1 := List.find?_some hp
    exact ⟨p, List.mem_of_find?_eq_some hp, by simpa using h1, rfl⟩
   obtain ⟨p, hp, rfl, rfl⟩ := this
   refine getA_some hn' (p := p) ?_
   unfold putA
   split
   ·exact List.mem_map.2 ⟨p, hp, by rw [if_neg hj]⟩
   ·exact List.mem_append_left _ hp
end
section
variable {κ β : Type}
variable {P : Program} {k e t : TypeId} {ek : κ → Value} {ev : κ → β → Value} {w : World} {b : Nat} {l : List (κ × β)}
def MapL (P : Program) (k : TypeId) (ek : κ → Value) (ev : κ → β → Value) (w : World) (b : Nat) (l : List (κ × β)) : Prop :=
 ∃ es clock, w.heap[b]? = some (.map es clock) ∧ es.toList.map (fun e => (e.key, e.val)) = l.map (fun p => (ek p.1, ev p.1 p.2)) ∧ (l.map (·.1)).Nodup ∧ (∀ p ∈ l, ∃ lit, keyOf P k (ek p.1) = some lit) ∧ MapKept.Stamped es clock
theorem MapL.lt (h : MapL P k ek ev w b l) : b < w.heap.size := by obtain ⟨es, cl, h1, _⟩ := h; exact (Array.getElem?_eq_some_iff.1 h1).1
theorem MapL.later {w' : World} (h : MapL P k ek ev w b l) (hb : Later w w') : MapL P k ek ev w' b l := by
 obtain ⟨es, cl, h1, h2⟩ := h
 exact ⟨es, cl, (hb.block b (Array.getElem?_eq_some_iff.1 h1).1).trans h1, h2⟩
theorem MapL.kept {w' : World} {row : Option Nat} (h : MapL P k ek ev w b l) (hg : w.grownBy w' row) (hne : some b ≠ row) : MapL P k ek ev w' b l := by
 obtain ⟨es, cl, h1, h2⟩ := h
 exact ⟨es, cl, (hg.block b (Array.getElem?_eq_some_iff.1 h1).1 hne).trans h1, h2⟩
theorem MapL.made (w : World) : MapL P k ek ev (w.alloc (.map #[] 0)) w.heap.size ([] : List (κ × β)) :=
 ⟨#[], 0, (MapKept.heap_alloc w _).1, rfl, by simp, by simp, MapKept.stamped_empty 0⟩
theorem map_entry {es : Array MapEntry} {l : List (κ × β)} (h : es.toList.map (fun e => (e.key, e.val)) = l.map (fun p => (ek p.1, ev p.1 p.2))) {e : MapEntry} (he : e ∈ es.toList) : ∃ p ∈ l, e.key = ek p.1 ∧ e.val = ev p.1 p.2 := by
 have : (e.key, e.val) ∈ l.map (fun p => (ek p.1, ev p.1 p.2)) := by rw [← h]; exact List.mem_map.2 ⟨e, he, rfl⟩
 obtain ⟨p, hp, hpe⟩ := List.mem_map.1 this
 simp only [Prod.mk.injEq] at hpe
 exact ⟨p, hp, hpe.1.symm, hpe.2.symm⟩
theorem map_entry' {es : Array MapEntry} {l : List (κ × β)} (h : es.toList.map (fun e => (e.key, e.val)) = l.map (fun p => (ek p.1, ev p.1 p.2))) {p : κ × β} (hp : p ∈ l) : ∃ e ∈ es.toList, e.key = ek p.1 ∧ e.val = ev p.1 p.2 := by
 have : (ek p.1, ev p.1 p.2) ∈ es.toList.map (fun e => (e.key, e.val)) := by rw [h]; exact List.mem_map.2 ⟨p, hp, rfl⟩
 obtain ⟨e, he, hpe⟩ := List.mem_map.1 this
 simp only [Prod.mk.injEq] at hpe
 exact ⟨e, he, hpe.1, hpe.2⟩
variable [DecidableEq κ]
theorem map_find (K : KL P k) (hek : ∀ x y, ek x = ek y → x = y) {es : Array MapEntry} (h2 : es.toList.map (fun e => (e.key, e.val)) = l.map (fun p => (ek p.1, ev p.1 p.2))) (h3 : (l.map (·.1)).Nodup) (h4 : ∀ p ∈ l, ∃ lit, keyOf P k (ek p.1) = some lit)
  (x : κ) {lit : Lit} (hx : keyOf P k (ek x) = some lit) (w : World) :
  ((Instr.findKey k (ek x) es.toList).run P w = .ok none w ∧ (∀ p ∈ l, p.1 ≠ x) ∧ getA l x = none) ∨
  ∃ j v e0, (Instr.findKey k (ek x) es.toList).run P w = .ok (some (j, ev x v)) w ∧ getA l x = some v ∧ es.toList[j]? = some e0 ∧ e0.key = ek x ∧ l[j]? = some (x, v) := by
 have hks : ∀ e ∈ es.toList, ∃ lit, keyOf P k e.key = some lit := fun e he => by
  obtain ⟨p, hp, h5, _⟩ := map_entry h2 he
  rw [h5]; exact h4 p hp
 rcases K.find w hx es.toList hks with ⟨h5, h6⟩ | ⟨j, e0, h5, h6, h7⟩
 ·left
  have h8 : ∀ p ∈ l, p.1 ≠ x := fun p hp he => by
   obtain ⟨e, he1, he2, _⟩ := map_entry' h2 hp
   exact h6 e he1 (by rw [he2, he])
  exact ⟨h5, h8, getA_none h8⟩
 ·right
  have hj : (l.map (fun p => (ek p.1, ev p.1 p.2)))[j]? = some (e0.key, e0.val) := by rw [← h2, List.getElem?_map, h6]; rfl
  rw [List.getElem?_map] at hj
  obtain ⟨p, hp, hpe⟩ := Option.map_eq_some_iff.1 hj
  simp only [Prod.mk.injEq] at hpe
  have hpx : p.1 = x := hek _ _ (by rw [hpe.1, h7])
  have hm := List.mem_of_getElem? hp
  refine ⟨j, p.2, e0, ?_, ?_, h6, h7, ?_⟩
  ·rw [h5, ← hpe.2, hpx]
  ·rw [← hpx]; exact getA_some h3 hm
  ·rw [hp, ← hpx]
theorem map_lookup (K : KL P k) (hek : ∀ x y, ek x = ek y → x = y) (ht : P.underlying t = some (.map k e)) (h : MapL P k ek ev w b l) (x : κ) {lit : Lit} (hx : keyOf P k (ek x) = some lit) {z : Value} (hz : (zeroValue e).run P w = .ok z w) :
  (Instr.lookup t (.map (some b)) (ek x) true).run P w = .ok (.tuple #[(match getA l x with | none => z | some v => ev x v), .bool (getA l x).isSome]) w := by
 obtain ⟨es, cl, h1, h2, h3, h4, hst⟩ := h
 rcases map_find K hek h2 h3 h4 x hx w with ⟨h5, -, h7⟩ | ⟨j, v, e0, h5, h6, -⟩
 ·rw [h7]
  simp [Instr.lookup, run_underlying ht, MapKept.run_getObj_map h1, K.check w _ hx, h5, hz, Result.andThen]
 ·rw [h6]
  simp [Instr.lookup, run_underlying ht, MapKept.run_getObj_map h1, K.check w _ hx, h5, Result.andThen]
theorem map_put (K : KL P k) (hek : ∀ x y, ek x = ek y → x = y) (ht : P.underlying t = some (.map k e)) (h : MapL P k ek ev w b l) (x : κ) (v : β) {lit : Lit} (hx : keyOf P k (ek x) = some lit) :
  ∃ w', (Instr.mapUpdate t (.map (some b)) (ek x) (ev x v)).run P w = .ok () w' ∧ MapL P k ek ev w' b (putA l x v) ∧ w.grownBy w' (some b) := by
 obtain ⟨es, cl, h1, h2, h3, h4, hst⟩ := h
 have hgr : ∀ o : Obj, w.grownBy (setBlock w b o) (some b) := fun o => ⟨rfl, rfl, rfl, by simp [setBlock], fun i _ hi => heap_setBlock_other h1 _ (fun e => hi (by rw [e]))⟩
 rcases map_find K hek h2 h3 h4 x hx w with ⟨h5, h6, h7⟩ | ⟨j, v0, e0, h5, h6, h7, h8, h9⟩
 ·refine ⟨setBlock w b (.map (es.push ⟨ek x, ev x v, cl⟩) (cl + 1)), ?_, ⟨_, _, heap_setBlock_same h1 _, ?_, putA_keys l x v h3, ?_, MapKept.stamped_push hst (fun e he e2 => by obtain ⟨p, hp, h8, -⟩ := map_entry h2 he; exact h6 p hp (hek _ _ (h8.symm.trans e2)))⟩, hgr _⟩
  ·simp [Instr.mapUpdate, run_underlying ht, MapKept.run_getObj_map h1, K.check w false hx, h5, MapKept.run_setObj_map _ h1, Result.andThen, setBlock]
  ·have : l.any (fun p => decide (p.1 = x)) = false := by rw [List.any_eq_false]; intro p hp; simpa using h6 p hp
   unfold putA
   simp [this, h2]
  ·intro p hp
   have : l.any (fun p => decide (p.1 = x)) = false := by rw [List.any_eq_false]; intro p hp; simpa using h6 p hp
   unfold putA at hp
   rw [if_neg (by simp [this])] at hp
   rcases List.mem_append.1 hp with hp | hp
   ·exact h4 p hp
   ·simp at hp; subst hp; exact ⟨_, hx⟩
 ·have hj : es[j]? = some e0 := by simpa using h7
  have hany : l.any (fun p => decide (p.1 = x)) = true := any_key.2 ⟨_, List.mem_of_getElem? h9, rfl⟩
  refine ⟨setBlock w b (.map (es.modify j fun e => { e with key := ek x, val := ev x v }) cl), ?_, ⟨_, _, heap_setBlock_same h1 _, ?_, putA_keys l x v h3, ?_, MapKept.stamped_modify hst j _ (fun _ _ => rfl) (fun e _ he => by rw [hj] at he; cases he; exact h8.symm)⟩, hgr _⟩
  ·simp [Instr.mapUpdate, run_underlying ht, MapKept.run_getObj_map h1, K.check w false hx, h5, hj, h8, K.stays w hx, MapKept.run_setObj_map _ h1, Result.andThen, setBlock]
  ·rw [Array.toList_modify, modify_eq_set _ _ _ _ h7, List.map_set, h2]
   unfold putA
   rw [if_pos hany, List.map_map]
   apply List.ext_getElem?
   intro i
   rw [List.getElem?_set, List.length_map, List.getElem?_map]
   by_cases hij : j = i
   ·subst hij
    rw [if_pos rfl, if_pos (List.getElem?_eq_some_iff.1 h9).1, List.getElem?_map, h9]
    simp
   ·rw [if_neg hij, List.getElem?_map]
    cases hli : l[i]? with
    | none => rfl
    | some q =>
     have hq : q.1 ≠ x := by
      intro hqx
      have hil := (List.getElem?_eq_some_iff.1 hli).1
      have hjl := (List.getElem?_eq_some_iff.1 h9).1
      have e1 : (l.map (·.1))[i]'(by simpa using hil) = x := by
       rw [List.getElem_map, ← hqx]
       have := (List.getElem?_eq_some_iff.1 hli).2
       rw [this]
      have e2 : (l.map (·.1))[j]'(by simpa using hjl) = x := by
       rw [List.getElem_map]
       have := (List.getElem?_eq_some_iff.1 h9).2
       rw [this]
      have hpw := List.pairwise_iff_getElem.1 h3
      rcases Nat.lt_or_gt_of_ne hij with hlt | hlt
      ·exact hpw j i (by simpa using hjl) (by simpa using hil) hlt (e2.trans e1.symm)
      ·exact hpw i j (by simpa using hil) (by simpa using hjl) hlt (e1.trans e2.symm)
     simp [hq]
  ·intro p hp
   unfold putA at hp
   rw [if_pos hany] at hp
   obtain ⟨q, hq, rfl⟩ := List.mem_map.1 hp
   split
   ·exact ⟨_, hx⟩
   ·exact h4 q hq
theorem wpList_put {ops : Array Oper} {rest : List Oper} {o : Oper} {a : Act} {Q : Exit → Act → World → Prop} (K : KL P k) (hek : ∀ x y, ek x = ek y → x = y) (ht : P.underlying t = some (.map k e)) (h : MapL P k ek ev w b l)
  (hg : o.guard = none) (m x v : Operand) (hop : o.op = Op.mapUpdate t m x v) (hm : a.eval m = .map (some b)) (key : κ) (val : β) (hkey : a.eval x = ek key) (hval : a.eval v = ev key val) {lit : Lit} (hx : keyOf P k (ek key) = some lit)
  (hK : ∀ w', MapL P k ek ev w' b (putA l key val) → w.grownBy w' (some b) → wpList P ops Q rest (a.put o.dst undef) w') : wpList P ops Q (o :: rest) a w := by
 refine wpList_plain hg fun K' hK' => ?_
 obtain ⟨w', hrun, r1, r2⟩ := map_put K hek ht h key val hx
 unfold Oper.wp
 simp [execOp, hop, hm, hkey, hval, hrun, Result.andThen]
 exact hK' _ _ (hK w' r1 r2)
end
end Go.Proofs.YtkjabiabeemfhaaGreatDoor
end
section
namespace Go.Proofs.YtkjabiabeemfhaaGreatDoor
open Go.RowKit
set_option maxRecDepth 100000
def noDefer (ops : Array Oper) : Bool := ops.all (fun o => match o.op with | .defer _ => false | _ => true)
theorem noDefer_spec {ops : Array Oper} (h : noDefer ops = true) {i : Nat} {o : Oper} (ho : ops[i]? = some o) : ∀ c, o.op ≠ .defer c := by
 intro c hc
 obtain ⟨hi, rfl⟩ := Array.getElem?_eq_some_iff.1 ho
 have := Array.all_eq_true.1 h i hi
 rw [hc] at this
 cases this
section
variable {P : Program} {ops : Array Oper} {Q : Exit → Act → World → Prop} {md : Region.Mode} {l n : Nat}
theorem oper_in_round {o : Oper} {a : Act} {w : World} {K : Act → World → Prop} (hd : ∀ c, o.op ≠ .defer c) (h : o.wp P a w K Q) : o.wpIn (Fence.wide.inRound l) n P a w K Q := by
 unfold Oper.wpIn
 refine ⟨fun _ _ => trivial, ?_⟩
 show o.uponIn (Fence.wide.inRound l) n P a K Q ((o.semAt (some l) a.eval).run P w)
 rw [Oper.semAt_some l a.eval o hd]
 unfold Oper.wp at h
 generalize (execOp a.eval o).run P w = r at *
 cases r with
 | ok x w' =>
  cases x with
  | value v => exact h
  | skip => exact h
  | defer d => exact h
  | enter f args => exact ⟨fun hh => (by cases hh), CallsIn.inRound l (callsIn_wide.2 (Calls.mono h (fun e w'' he => by cases e <;> exact he)))⟩
  | row row args => exact ⟨fun hh => (by cases hh), fun c cs _ => let ⟨v, w', r, s⟩ := h c cs; ⟨v, w', r, stepsIn_wide.2 s⟩⟩
  | _ => exact h.elim
 | halt x w' =>
  cases x with
  | panic v => exact h
  | _ => exact h.elim
theorem wpOp_in_round {i : Nat} {a : Act} {w : World} {K K' : Act → World → Prop} (hd : noDefer ops = true) (hQ : ¬ LetsOut Q) (hK : ∀ a w, K a w → K' a w) (h : wpOp P ops Q i K a w) : wpOpIn (Fence.wide.inRound l) n P ops Q i K' a w := by
 unfold wpOp at h
 unfold wpOpIn
 split at h
 ·rename_i ho; simp only [ho]; exact hK _ _ h
 ·rename_i o ho
  simp only [ho]
  split at h
  ·rename_i hw
   rw [if_pos hw]
   rcases h with h | ⟨_, h2⟩
   ·exact oper_in_round (noDefer_spec hd ho) (Oper.wp_mono hK h)
   ·exact absurd h2 hQ
  ·rename_i hw
   rw [if_neg hw]
   exact ⟨fun _ _ => trivial, hK _ _ h⟩
theorem wpAny_in_round (hd : noDefer ops = true) (hQ : ¬ LetsOut Q) : ∀ (fuel : Nat) (listed : Array Bool) (a : Act) (w : World), wpAny P md ops Q fuel listed a w → wpAnyIn (Fence.wide.inRound l) n P md ops Q fuel listed a w
 | 0, _, _, _, h => h
 | fuel + 1, listed, _, _, h => ⟨h.1, fun i hi => wpOp_in_round hd hQ (fun a w h' => wpAny_in_round hd hQ fuel _ a w h') (h.2 i hi)⟩
theorem wpIn_region_plan {id : Nat} {a : Act} {w : World} (t : Nat) (p : Plan) (hm : P.follows .mixedOrders = true)
  (hB : (noDefer ops && (Region.noSelect ops && p.has ops.size && okPlan .any ops t p (Array.replicate ops.size false))) = true) (hQo : ¬ LetsOut Q)
  (hQ : ∀ c a d v w, Q (.panic c) (Act.put a d v) w → Q (.panic c) a w) (h : wpPlan P ops t Q p a w.drew) : (Code.region id ops true).wpIn (Fence.wide.inRound l) n P Q a w := by
 simp only [Bool.and_eq_true] at hB
 obtain ⟨hd, ⟨hs, hn⟩, hb⟩ := hB
 exact wpIn_region_any hm (wpAny_in_round hd hQo _ _ _ _ (wpAny_of_T (C := Later w.drew) (t := t) _ _ _ _ (run_plan hs hQ p _ _ a _ hn hb h)))
end
def Kb (n₀ : Nat) (bs : List Nat) (W W' : World) : Prop := Below n₀ W W' ∧ ∀ b ∈ bs, ∀ i, W'.cell? ⟨b, i, none⟩ = W.cell? ⟨b, i, none⟩
theorem Kb.refl (n₀ : Nat) (bs : List Nat) (W : World) : Kb n₀ bs W W := ⟨Below.refl _ _, fun _ _ _ => rfl⟩
theorem kb_t {n₀ : Nat} {bs : List Nat} {A B C : World} (h : Kb n₀ bs A B) (k : Kb n₀ bs B C) : Kb n₀ bs A C := ⟨h.1.trans k.1, fun b hb i => (k.2 b hb i).trans (h.2 b hb i)⟩
theorem kb_b {n₀ : Nat} {bs : List Nat} {w : World} (hn : n₀ ≤ w.heap.size) (hbs : ∀ b ∈ bs, b < w.heap.size) (W : World) (l : Nat) (o o' : Obj) (hl : w.heap.size ≤ l) (h : W.heap[l]? = some o) (h1 : o.isCells = false) (h2 : o.isWalk = false) : Kb n₀ bs W (W.putObj l o') :=
 ⟨belowK_b hn W l o o' hl h h1 h2, fun b hb i => by
  have h4 : (W.putObj l o').heap[b]? = W.heap[b]? := World.putObj_heap_other (by have := hbs b hb; omega)
  unfold World.cell?
  simp only [h4]⟩
theorem Later.grownBy {W W' : World} (hb : Later W W') : W.grownBy W' none := ⟨hb.os, hb.tape, hb.output, hb.size, fun k hk _ => hb.block k hk⟩
theorem abides_later {β : Type} {B : Nat} {J : β → World → Prop} (h : AbidesFrom B J) {s : β} {W W' : World} (hs : J s W) (hb : Later W W') : J s W' := h s W W' none hs hb.grownBy (fun r e => by cases e)
theorem cell_other {w : World} {b c : Nat} {i j : Nat} (h : b ≠ c) (x : Value) : (w.setCell ⟨c, j, none⟩ x).cell? ⟨b, i, none⟩ = w.cell? ⟨b, i, none⟩ := World.cell?_setCell_other _ _ _ _ (fun e => h (by cases e; rfl))
theorem keepsOthers_later {W W' : World} (hb : Later W W') : KeepsOthers W W' := ⟨Below.size hb, fun k o hk _ => (hb.block k (Array.getElem?_eq_some_iff.1 hk).1).trans hk⟩
def calmPost (K : Act → World → Prop) : Exit → Act → World → Prop
 | .normal, a, w => K a w
 | _, _, _ => False
@[go_sem] theorem calmPost_normal (K : Act → World → Prop) (a : Act) (w : World) : calmPost K .normal a w = K a w := rfl
theorem calm_intro {K : Act → World → Prop} {a : Act} {w : World} (h : K a w) : calmPost K .normal a w := h
theorem wp_calm {P : Program} {c : Code} {K : Act → World → Prop} {Q : Exit → Act → World → Prop} {a : Act} {w : World} (h : c.wp P (calmPost K) a w) : c.wp P (Exit.then K Q) a w :=
 wp_mono h (fun e a w he => by cases e <;> first | exact he | exact he.elim)
theorem below_later {n₀ : Nat} {a b c : World} (h : Below n₀ a b) (hn : n₀ ≤ b.heap.size) (k : Later b c) : Below n₀ a c := h.trans (Below.mono k hn)
def mark (D : Nat) : Deferred := { target := .collected D, args := #[] }
def Marks (lo : Nat) (Ds : List Nat) (W : World) : Prop := Ds.Nodup ∧ ∀ D ∈ Ds, lo ≤ D ∧ W.heap[D]? = some (.deferred (some []))
theorem Marks.nil (lo : Nat) (W : World) : Marks lo [] W := ⟨List.nodup_nil, fun _ h => by cases h⟩
theorem Marks.lt {lo : Nat} {Ds : List Nat} {W : World} (h : Marks lo Ds W) {D : Nat} (hD : D ∈ Ds) : D < W.heap.size := (Array.getElem?_eq_some_iff.1 (h.2 D hD).2).1
theorem Marks.others {lo : Nat} {Ds : List Nat} {W W' : World} (h : Marks lo Ds W) (hk : KeepsOthers W W') : Marks lo Ds W' := ⟨h.1, fun D hD => ⟨(h.2 D hD).1, hk.same D _ (h.2 D hD).2 rfl⟩⟩
theorem Marks.later {lo : Nat} {Ds : List Nat} {W W' : World} (h : Marks lo Ds W) (hb : Later W W') : Marks lo Ds W' := h.others (keepsOthers_later hb)
theorem Marks.cons {lo : Nat} {Ds : List Nat} {Ws W : World} (h0 : Marks lo Ds Ws) (h : Marks lo Ds W) {D : Nat} (hlo : lo ≤ D) (hD : Ws.heap.size ≤ D) (hK : W.heap[D]? = some (.deferred (some []))) : Marks lo (D :: Ds) W :=
 ⟨List.nodup_cons.2 ⟨fun hm => by have := h0.lt hm; omega, h.1⟩, fun E hE => by
  rcases List.mem_cons.1 hE with rfl | hE
  ·exact ⟨hlo, hK⟩
  ·exact h.2 E hE⟩
theorem marks_own {β : Type} {lo : Nat} {Ds : List Nat} {Ws : World} (h0 : Marks lo Ds Ws) : OwnFrom Ws.heap.size (fun (_ : β) W => Marks lo Ds W) := fun _ W W' row hs hg hr =>
 ⟨hs.1, fun D hD => ⟨(hs.2 D hD).1, (hg.block D (hs.lt hD) (fun e => by have := (hr D e.symm).1; have := h0.lt hD; omega)).trans (hs.2 D hD).2⟩⟩
theorem leaves_marks {F : Fence} {n : Nat} {P : Program} {fn : Func} {tmps : Array Value} {R : Ending → World → Prop} {lo : Nat} : ∀ (Ds : List Nat) (W : World), Marks lo Ds W →
  (∀ W', (∀ a v, W.cell? a = some v → W'.cell? a = some v) → Below lo W W' → LeavesIn F n P fn tmps R [] .returning W') → LeavesInM F n P fn tmps R (Ds.map mark) .returning W
 | [], W, _, h => h W (fun _ _ h => h) (Below.refl _ _)
 | D :: Ds, W, hM, h => by
  have hK := (hM.2 D (by simp)).2
  have hlo := (hM.2 D (by simp)).1
  have hlt := hM.lt (D := D) (by simp)
  have hnd := List.nodup_cons.1 hM.1
  refine ⟨by simp, .inl ⟨D, W.putObj D (.deferred none), rfl, run_takeDeferred hK, leaves_marks (lo := lo) Ds _ ⟨hnd.2, fun E hE => ⟨(hM.2 E (by simp [hE])).1, (World.putObj_heap_other (r := D) (k := E) (fun e => hnd.1 (by rw [← e]; exact hE))).trans (hM.2 E (by simp [hE])).2⟩⟩ ?_⟩⟩
  intro W' hc hb
  refine h W' (fun a v ha => hc a v (cell_kept ha (grownBy_putObj' _ D (.deferred none)) (fun r e => by cases e; exact ⟨_, hK, rfl⟩))) ?_
  have hb1 : Below lo W (W.putObj D (.deferred none)) := (Below.refl lo W).grown (grownBy_putObj' W D _) (by omega) (fun k e => by cases e; omega)
  exact hb1.trans hb
end Go.Proofs.YtkjabiabeemfhaaGreatDoor
end
