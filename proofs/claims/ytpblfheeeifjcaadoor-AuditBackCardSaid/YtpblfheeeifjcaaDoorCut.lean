/- rows cut, rows put together, two rows side by side -/
import Derived.Test.YtpblfheeeifjcaaDoorPst
import Derived.ArgAppend
set_option linter.all false
namespace Go.Proofs.YtpblfheeeifjcaaDoor
open Go.RowKit
set_option maxRecDepth 100000

theorem rows_upto (b o L cp k : Nat) (hk : k ≤ cp) (W : World) : (Instr.slice 27 (.slice (some ⟨b, o, none⟩) L cp) none (some (.int .i64 (k : Int))) none).run Tryd.prog W = .ok (.slice (some ⟨b, o, none⟩) k cp) W := by
  rw [run_slice_h _ _ _ _ _ (by kernel_rfl) _ _ (by omega) (by omega)]
  have e : (sizeOf (Tryd.prog.elem 27)).run Tryd.prog W = .ok 9 W := by kernel_rfl
  rw [e]
  simp only [Result.andThen, sliced, Int.toNat_natCast, Nat.zero_mul, Nat.sub_zero]
  split
  · rfl
  · simp only [Option.map]; rw [add_plain]; rfl
theorem rows_from (b o L cp k : Nat) (hk : k < L) (hc : L ≤ cp) (W : World) : (Instr.slice 27 (.slice (some ⟨b, o, none⟩) L cp) (some (.int .i64 (k : Int))) none none).run Tryd.prog W = .ok (.slice (some ⟨b, o + k * 9, none⟩) (L - k) (cp - k)) W := by
  rw [run_slice_l _ _ _ _ _ (by kernel_rfl) _ _ (by omega) (by omega)]
  have e : (sizeOf (Tryd.prog.elem 27)).run Tryd.prog W = .ok 9 W := by kernel_rfl
  rw [e]
  simp only [Result.andThen, sliced, Int.toNat_natCast]
  rw [if_neg (by omega)]
  simp only [Option.map]; rw [add_plain]
/-- The rows from the last one on: the address stays where the room ends there. -/
theorem rows_from_end (b o L cp : Nat) (hc : L ≤ cp) (W : World) : ∃ p, (Instr.slice 27 (.slice (some ⟨b, o, none⟩) L cp) (some (.int .i64 (L : Int))) none none).run Tryd.prog W = .ok (.slice (some ⟨b, p, none⟩) 0 (cp - L)) W := by
  rw [run_slice_l _ _ _ _ _ (by kernel_rfl) _ _ (by omega) (by omega)]
  have e : (sizeOf (Tryd.prog.elem 27)).run Tryd.prog W = .ok 9 W := by kernel_rfl
  rw [e]
  simp only [Result.andThen, sliced, Int.toNat_natCast, Nat.sub_self]
  split
  · exact ⟨o, rfl⟩
  · simp only [Option.map]; rw [add_plain]; exact ⟨_, rfl⟩
theorem IsRow.take {α : Type} {sz : Nat} {f : α → Nat → Value} {w : World} {b o n c : Nat} {xs : List α} (h : IsRow sz f w (.slice (some ⟨b, o, none⟩) n c) xs) {k : Nat} (hk : k ≤ xs.length) : IsRow sz f w (.slice (some ⟨b, o, none⟩) k c) (xs.take k) ∧ k ≤ c := by
  rcases h with ⟨⟨p, h1⟩, h6⟩ | ⟨b', o', c', h1, h2, h3, h4, h5⟩
  · subst h6
    have hk0 : k = 0 := by simpa using hk
    subst hk0
    cases h1
    exact ⟨.inl ⟨⟨_, rfl⟩, rfl⟩, Nat.le_refl _⟩
  · cases h1
    refine ⟨.inr ⟨b, o, c, by rw [List.length_take, Nat.min_eq_left hk], h2, by rw [List.length_take]; omega, h4, fun i hi j hj => ?_⟩, by omega⟩
    rw [List.length_take] at hi
    rw [List.getElem_take]
    exact h5 i (by omega) j hj
theorem IsRow.drop {α : Type} {sz : Nat} {f : α → Nat → Value} {w : World} {b o n c : Nat} {xs : List α} (h : IsRow sz f w (.slice (some ⟨b, o, none⟩) n c) xs) {k : Nat} (hk : k < xs.length) : IsRow sz f w (.slice (some ⟨b, o + k * sz, none⟩) (xs.length - k) (c - k)) (xs.drop k) ∧ n = xs.length ∧ n ≤ c := by
  rcases h with ⟨⟨p, h1⟩, h6⟩ | ⟨b', o', c', h1, h2, h3, h4, h5⟩
  · subst h6
    simp at hk
  · cases h1
    refine ⟨.inr ⟨b, o + k * sz, c - k, by rw [List.length_drop], h2, by rw [List.length_drop]; omega, by omega, fun i hi j hj => ?_⟩, rfl, h3⟩
    rw [List.length_drop] at hi
    have := h5 (k + i) (by omega) j hj
    rw [show o + k * sz + i * sz + j = o + (k + i) * sz + j by rw [Nat.add_mul]; omega, this, List.getElem_drop]
theorem IsRow.cellsR {w : World} {v : Value} {ts : List Rw} (h : IsRow 9 rwF w v ts) : (v = .slice none 0 0 ∧ ts = []) ∨ ∃ ad c, v = .slice (some ad) ts.length c ∧ ∀ j u, (ts.flatMap rwCs)[j]? = some u → w.cell? (ad.add j) = some u := by
  by_cases h0 : v = .slice none 0 0
  · rcases h with ⟨_, h2⟩ | ⟨b', o', c', h1, _⟩
    · exact .inl ⟨h0, h2⟩
    · rw [h0] at h1; cases h1
  · obtain ⟨ad, cap, h1, _, h2⟩ := h.cellsAt rwCs rwCs_len rwCs_cell (by decide) h0
    exact .inr ⟨ad, cap, h1, fun j u hj => h2 w (Later.refl _) j u hj⟩
theorem rwCs_ones (ts : List Rw) : ∀ u ∈ ts.flatMap rwCs, u.oneCell' = true := by
  intro u hu
  obtain ⟨y, _, hy⟩ := List.mem_flatMap.1 hu
  exact rwCs_one y u hy

section
variable {P : Program} {w0 w : World} {e sz : Nat} {v : Value} {n : Nat} {xs : List Value}
/-- What an append to a row of a call's own does: the row lies where it lay, or in a new block. -/
theorem run_append_fresh (base : Nat) (t ty : TypeId) {bytes : Nat} (T : SliceOf P t e sz bytes) (hown : w.ownsRow base e sz v n xs)
    (a : Addr) (m c : Nat) (news : List Value) (hl : news.length = m * sz) (hnews : ∀ j u, news[j]? = some u → w.cell? (a.add j) = some u) (h1 : ∀ u ∈ news, u.oneCell' = true)
    (h63 : n + m ≤ maxLen) (hbytes : (n + m) * bytes ≤ 140737488355328) (hbase : base ≤ w.heap.size) :
    ∃ v' w', (Builtin.append_ #[t, t] ty #[v, .slice (some a) m c]).run P w = .ok v' w' ∧ w'.ownsRow base e sz v' (n + m) (xs ++ news) ∧ w.grownBy w' v.ownBlock ∧ (v'.ownBlock = v.ownBlock ∨ ∀ k, v'.ownBlock = some k → w.heap.size ≤ k) := by
  obtain ⟨i, z, t1, t2, t3, t4, t5, t6, t7⟩ := T
  obtain ⟨v', w', r1, r2, r3, r4⟩ := run_append_own (P := P) w base t ty e i z sz bytes t1 t2 t3 t4 t5 t6 t7 v n xs hown a m c news hl hnews h1 h63 hbytes hbase
  refine ⟨v', w', r1, r2, r3, ?_⟩
  subst t4
  subst t5
  have hsmall : n + m ≤ 9223372036854775807 := by simp only [maxLen] at h63; omega
  rcases hown.2 with ⟨rfl, rfl⟩ | ⟨g, cap, cur, rfl, hbg, hg, hnc, hcm, hcs, htake⟩
  · have hx : xs = [] := List.eq_nil_of_length_eq_zero (by simpa using hown.1)
    subst hx
    obtain ⟨v2, w2, q1, q2, _⟩ := run_append_own (P := P) w w.heap.size t ty e i z i.size i.bytes t1 t2 t3 rfl rfl t6 t7 (.slice none 0 0) 0 [] (World.ownsRow_nil _ _ _ _) a m c news hl hnews h1 h63 hbytes (Nat.le_refl _)
    rw [r1] at q1
    cases q1
    exact .inr (fun k hk => (q2.lt k hk).1)
  · by_cases hroom : n + m ≤ cap
    · have hfit : n * i.size + news.length ≤ cur.size := by rw [hl, hcs, ← Nat.add_mul]; exact Nat.mul_le_mul_right _ hroom
      have hr := run_append_room (P := P) w t ty e i t1 t2 g n cap cur hg a m c news hl hnews h1 hroom hfit
      rw [r1] at hr
      simp only [Result.ok.injEq] at hr
      rw [hr.1]
      exact .inl rfl
    · have holds : ∀ j u, xs[j]? = some u → w.cell? ((⟨g, 0, none⟩ : Addr).add j) = some u := hown.cells (g := g) rfl
      have hr := run_append_grow (P := P) w t ty e i z t1 t2 t3 ⟨g, 0, none⟩ n cap xs hown.1 holds a m c news hl hnews (by omega) (by omega) (growslice_fits (by omega) hbytes)
      rw [r1] at hr
      simp only [Result.ok.injEq] at hr
      rw [hr.1]
      refine .inr (fun k hk => ?_)
      simp only [Value.ownBlock, Option.some.injEq] at hk
      omega
theorem wpList_appF {ops : Array Oper} {rest : List Oper} {o : Oper} {a : Act} {Q : Exit → Act → World → Prop} {t bytes : Nat} (T : SliceOf P t e sz bytes) (hM : Mine w0 e sz w v n xs) (hgd : o.guard = none) (s x : Operand)
    (ho : o.op = .call { callee := .builtin .append, args := #[s, x], argTypes := #[t, t] }) (hs : a.eval s = v)
    (ad : Addr) (m c : Nat) (news : List Value) (hx : a.eval x = .slice (some ad) m c) (hl : news.length = m * sz) (hnews : ∀ j u, news[j]? = some u → w.cell? (ad.add j) = some u) (h1 : ∀ u ∈ news, u.oneCell' = true)
    (h63 : (n + m) * bytes ≤ 140737488355328) (h64 : n + m ≤ maxLen)
    (h : ∀ v' w', Mine w0 e sz w' v' (n + m) (xs ++ news) → w.grownBy w' v.ownBlock → (v'.ownBlock = v.ownBlock ∨ ∀ k, v'.ownBlock = some k → w.heap.size ≤ k) → wpList P ops Q rest (a.put o.dst v') w') : wpList P ops Q (o :: rest) a w := by
  refine wpList_plain hgd fun _ hK => ?_
  obtain ⟨v', w', hr, h2, h3, h4⟩ := run_append_fresh (P := P) w0.heap.size t o.type T hM.1 ad m c news hl hnews h1 h64 h63 (Later.size hM.2)
  unfold Oper.wp execOp
  simp only [ho, resolve, invoke, builtin, Sem.run_bind, Sem.run_pure, Result.andThen_ok, List.map_toArray, List.map_cons, List.map_nil, hs, hx, hr]
  exact hK _ _ (h v' w' ⟨h2, Later.grown hM.2 h3 (fun k hk => (hM.1.lt k hk).1)⟩ h3 h4)
theorem wpList_pushF {ops : Array Oper} {rest : List Oper} {o : Oper} {a : Act} {Q : Exit → Act → World → Prop} {t bytes : Nat} {ta : TypeId} {news : Array Value} (T : SliceOf P t e sz bytes) (hM : Mine w0 e sz w v n xs) (hgd : o.guard = none) (s x : Operand)
    (ho : o.op = .call { callee := .builtin .append, args := #[s, x], argTypes := #[t, t] }) (hs : a.eval s = v) (c b : Nat) (hx : a.eval x = .slice (some ⟨b, 0, none⟩) 1 c) (hb : b = w.heap.size) (hl : news.size = sz) (h1 : ∀ u ∈ news.toList, u.oneCell' = true)
    (h63 : (n + 1) * bytes ≤ 140737488355328) (h64 : n + 1 ≤ maxLen)
    (h : ∀ v' w', Mine w0 e sz w' v' (n + 1) (xs ++ news.toList) → (w.alloc (.cells news ta)).grownBy w' v.ownBlock → (v'.ownBlock = v.ownBlock ∨ ∀ k, v'.ownBlock = some k → w.heap.size ≤ k) → wpList P ops Q rest (a.put o.dst v') w') : wpList P ops Q (o :: rest) a (w.alloc (.cells news ta)) := by
  subst hb
  have hc := (own_get (own_alloc w news ta)).2.1
  refine wpList_appF T (hM.later ((Later.refl _).alloc _)) hgd s x ho hs ⟨w.heap.size, 0, none⟩ 1 c news.toList hx (by rw [Nat.one_mul, Array.length_toList, hl]) ?_ h1 h63 h64 (fun v' w' a b c => h v' w' a b (c.imp id (fun h k hk => by have := h k hk; simp at this; omega)))
  intro j u hj
  rw [add_plain, Nat.zero_add, hc j, ← Array.getElem?_toList, hj]
/-- Two rows of a call's own lie apart. -/
def Apart (v u : Value) : Prop := ∀ k, v.ownBlock = some k → u.ownBlock ≠ some k
theorem Mine.beside {w' : World} {u : Value} {m : Nat} {ys : List Value} (h : Mine w0 e sz w u m ys) (hg : w.grownBy w' v.ownBlock) (hne : Apart v u) (hv : ∀ k, v.ownBlock = some k → w0.heap.size ≤ k) : Mine w0 e sz w' u m ys := by
  refine ⟨h.1.kept hg ?_, Later.grown h.2 hg hv⟩
  cases hu : u.ownBlock with
  | none => exact .inl rfl
  | some g => exact .inr (fun e => hne g e.symm hu)
theorem Apart.grow {v' u : Value} {m : Nat} {ys : List Value} {base : Nat} (h : Apart v u) (hu : w.ownsRow base e sz u m ys) (hf : v'.ownBlock = v.ownBlock ∨ ∀ k, v'.ownBlock = some k → w.heap.size ≤ k) : Apart v' u := by
  intro k hk e
  rcases hf with hf | hf
  · exact h k (by rw [← hf]; exact hk) e
  · have := hf k hk
    have := (hu.lt k e).2
    omega
theorem Apart.symm {u : Value} (h : Apart v u) : Apart u v := fun k hk e => h k e hk
end

theorem rwInfo_bytes : SliceOf Tryd.prog 27 39 9 72 := sliceRw
/-- Rows are put behind rows. -/
theorem wpList_rows {w0 w : World} {v V : Value} {L ts : List Rw} {ops : Array Oper} {rest : List Oper} {o : Oper} {a : Act} {Q : Exit → Act → World → Prop} (hM : Mine w0 39 9 w v L.length (L.flatMap rwCs)) (hN : IsRow 9 rwF w V ts) (hgd : o.guard = none) (s x : Operand)
    (ho : o.op = .call { callee := .builtin .append, args := #[s, x], argTypes := #[27, 27] }) (hs : a.eval s = v) (hx : a.eval x = V) (h64 : L.length + ts.length ≤ 1000000)
    (h : ∀ v' w', Mine w0 39 9 w' v' (L ++ ts).length ((L ++ ts).flatMap rwCs) → w.grownBy w' v.ownBlock → (v'.ownBlock = v.ownBlock ∨ ∀ k, v'.ownBlock = some k → w.heap.size ≤ k) → wpList Tryd.prog ops Q rest (a.put o.dst v') w') : wpList Tryd.prog ops Q (o :: rest) a w := by
  rcases hN.cellsR with ⟨rfl, rfl⟩ | ⟨ad, c, rfl, hc⟩
  · exact wpList_app_none sliceRw hM hgd s x ho hs hx (h v w (by rw [List.append_nil]; exact hM) (grown_later (Later.refl _) _) (.inl rfl))
  · refine wpList_appF sliceRw hM hgd s x ho hs ad ts.length c (ts.flatMap rwCs) hx (flat_len (sz := 9) rwCs rwCs_len ts) hc (rwCs_ones ts) (by omega) (by unfold maxLen; omega) (fun v' w' h1 h2 h3 => h v' w' ?_ h2 h3)
    rw [List.length_append, List.flatMap_append]
    exact h1
end Go.Proofs.YtpblfheeeifjcaaDoor
