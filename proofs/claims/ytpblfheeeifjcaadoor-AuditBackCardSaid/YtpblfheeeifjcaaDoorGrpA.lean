/- groups of rows, under way and as they stand: words -/
import Derived.Test.YtpblfheeeifjcaaDoorRowsB
set_option linter.all false
namespace Go.Proofs.YtpblfheeeifjcaaDoor
open Go.RowKit
set_option maxRecDepth 100000

theorem grInfo : (Tryd.prog.info? 27).map (fun i => (i.zero, i.size, i.bytes)) = some (some (.slice none 0 0), 1, 24) := by kernel_rfl
theorem sliceGr : SliceOf Tryd.prog 67 27 1 24 := sliceOf_mk Tryd.underlying67 grInfo rfl (by decide)
theorem gr_one (p : Option Addr) (n c : Nat) (w : World) :
    (Instr.buildSlice 67 1 #[(0, .slice p n c)]).run Tryd.prog w = .ok (.slice (some ⟨w.heap.size, 0, none⟩) 1 1) (w.alloc (.cells #[.slice p n c] 27)) := by kernel_rfl

def sndF (x : List Rw × Value) (_ : Nat) : Value := x.2
theorem RowT.other {α : Type} {t : TypeId} {sz : Nat} {f : α → Nat → Value} {w w' : World} {v : Value} {xs : List α} {row : Option Nat} (h : RowT t sz f w v xs) (hg : w.grownBy w' row) (hne : ∀ g, v.ownBlock = some g → some g ≠ row) : RowT t sz f w' v xs := by
  have hb : ∀ b, v.ownBlock = some b → w'.heap[b]? = w.heap[b]? := by
    intro b e
    obtain ⟨cs, fr, h1⟩ := h.2 b e
    exact hg.block b (Array.getElem?_eq_some_iff.1 h1).1 (hne b e)
  refine ⟨?_, fun b e => ?_⟩
  · rcases h.1 with h1 | ⟨b, o, cap, h1, h2, h3, h4, h5⟩
    · exact .inl h1
    · refine .inr ⟨b, o, cap, h1, Nat.lt_of_lt_of_le h2 hg.size, h3, h4, fun i hi j hj => ?_⟩
      rw [World.cell?_of_block (hb b (by rw [h1]; rfl))]
      exact h5 i hi j hj
  · obtain ⟨cs, fr, h1⟩ := h.2 b e
    exact ⟨cs, fr, (hb b e).trans h1⟩
/-- Groups as a slice of slices holds them. -/
def GrAt (w : World) (v : Value) (gs : List (List Rw)) : Prop :=
  ∃ xs : List (List Rw × Value), xs.map (·.1) = gs ∧ IsRow 1 sndF w v xs ∧ ∀ x ∈ xs, x.1 ≠ [] ∧ IsRow 9 rwF w x.2 x.1
theorem GrAt.later {w w' : World} {v : Value} {gs : List (List Rw)} (h : GrAt w v gs) (hb : Later w w') : GrAt w' v gs := by
  obtain ⟨xs, h1, h2, h3⟩ := h
  exact ⟨xs, h1, h2.later hb, fun x hx => ⟨(h3 x hx).1, (h3 x hx).2.later hb⟩⟩
theorem GrAt.form {w : World} {v : Value} {gs : List (List Rw)} (h : GrAt w v gs) : ∃ p cap, v = .slice p gs.length cap := by
  obtain ⟨xs, rfl, h2, _⟩ := h
  obtain ⟨p, cap, h⟩ := h2.form
  exact ⟨p, cap, by rw [h, List.length_map]⟩
theorem GrAt.full {w : World} {v : Value} {gs : List (List Rw)} (h : GrAt w v gs) {i : Nat} (hi : i < gs.length) :
    ∃ b o cap u, v = .slice (some ⟨b, o, none⟩) gs.length cap ∧ b < w.heap.size ∧ w.cell? ⟨b, o + i, none⟩ = some u ∧ gs[i] ≠ [] ∧ IsRow 9 rwF w u gs[i] := by
  obtain ⟨xs, rfl, h2, h3⟩ := h
  rw [List.length_map] at hi
  obtain ⟨b, o, cap, e1, e2, e3⟩ := h2.full hi
  have e4 := e3 0 (by omega)
  rw [Nat.mul_one, Nat.add_zero] at e4
  refine ⟨b, o, cap, xs[i].2, by rw [e1, List.length_map], e2, e4, ?_⟩
  rw [List.getElem_map]
  exact h3 _ (List.getElem_mem hi)

def sndCs (x : List Rw × Value) : List Value := [x.2]
theorem sndCs_cell (x : List Rw × Value) (j : Nat) (h : j < 1) : (sndCs x)[j]? = some (sndF x j) := by
  have : j = 0 := by omega
  subst this; rfl
theorem sndCs_flat (xs : List (List Rw × Value)) : xs.flatMap sndCs = xs.map (·.2) := by
  induction xs with
  | nil => rfl
  | cons x t ih => rw [List.flatMap_cons, ih]; rfl
/-- Groups under way: the last one may grow. -/
def GrSt (w0 W : World) (v : Value) (gs : List (List Rw)) : Prop :=
  (gs = [] ∧ v = .slice none 0 0 ∧ Later w0 W) ∨
  ∃ (prev : List (List Rw × Value)) (last : List Rw × Value) (N : Nat), gs = (prev ++ [last]).map (·.1) ∧ last.1 ≠ [] ∧ Mine w0 27 1 W v (prev.length + 1) ((prev ++ [last]).map (·.2)) ∧
    (∀ x ∈ prev, x.1 ≠ [] ∧ RowT 39 9 rwF W x.2 x.1 ∧ ∀ g, x.2.ownBlock = some g → g < N) ∧ W.ownsRow N 39 9 last.2 last.1.length (last.1.flatMap rwCs) ∧ w0.heap.size ≤ N ∧ N ≤ W.heap.size
theorem GrSt.lat {w0 W : World} {v : Value} {gs : List (List Rw)} (h : GrSt w0 W v gs) : Later w0 W := by
  rcases h with ⟨_, _, h⟩ | ⟨prev, last, N, _, _, h, _⟩
  · exact h
  · exact h.lat
theorem ownsRow_later {w w' : World} {base e sz n : Nat} {v : Value} {xs : List Value} (h : w.ownsRow base e sz v n xs) (hb : Later w w') : w'.ownsRow base e sz v n xs := h.kept (row := none) (grown_later hb none) (by cases v.ownBlock <;> simp)
theorem GrSt.later {w0 W W' : World} {v : Value} {gs : List (List Rw)} (h : GrSt w0 W v gs) (hb : Later W W') : GrSt w0 W' v gs := by
  rcases h with ⟨h1, h2, h⟩ | ⟨prev, last, N, h1, h2, h3, h4, h5, h6, h7⟩
  · exact .inl ⟨h1, h2, h.trans hb⟩
  · exact .inr ⟨prev, last, N, h1, h2, h3.later hb, fun x hx => ⟨(h4 x hx).1, (h4 x hx).2.1.later hb, (h4 x hx).2.2⟩, ownsRow_later h5 hb, h6, Nat.le_trans h7 (Later.size hb)⟩
theorem rowT_row {w : World} {v : Value} {N n : Nat} {l : List Rw} (h : w.ownsRow N 39 9 v n (l.flatMap rwCs)) : RowT 39 9 rwF w v l := rowT_owns rwCs rwCs_len rwCs_cell (by decide) h
theorem out_block {w0 w : World} {v : Value} {n : Nat} {xs : List (List Rw × Value)} (h : Mine w0 27 1 w v n (xs.map (·.2))) : ∀ g, v.ownBlock = some g → ∃ cs fr, w.heap[g]? = some (.cells cs 27 fr) := by
  rw [← sndCs_flat] at h
  exact (h.rowT sndCs (fun _ => rfl) sndCs_cell (by decide)).1.2
theorem GrSt.at_ {w0 W : World} {v : Value} {gs : List (List Rw)} (h : GrSt w0 W v gs) : GrAt W v gs := by
  rcases h with ⟨rfl, rfl, h⟩ | ⟨prev, last, N, h1, h2, h3, h4, h5, h6, h7⟩
  · exact ⟨[], rfl, IsRow.nil W, fun x hx => by cases hx⟩
  · refine ⟨prev ++ [last], h1.symm, ?_, ?_⟩
    · rw [← sndCs_flat] at h3
      exact (h3.row_ sndCs (fun _ => rfl) sndCs_cell (by decide)).1
    · intro x hx
      rcases List.mem_append.1 hx with hx | hx
      · exact ⟨(h4 x hx).1, (h4 x hx).2.1.1⟩
      · simp only [List.mem_singleton] at hx; subst hx; exact ⟨h2, (rowT_row h5).1⟩
theorem frame_row {W w' : World} {v : Value} {n : Nat} {xs : List (List Rw × Value)} {w0 : World} (hM : Mine w0 27 1 W v n (xs.map (·.2))) (hg : W.grownBy w' v.ownBlock) {u : Value} {l : List Rw} (h : RowT 39 9 rwF W u l) : RowT 39 9 rwF w' u l :=
  h.kept hg (fun q e cs fr e2 => by
    obtain ⟨cs', fr', e3⟩ := out_block hM q e
    rw [e2] at e3; cases e3)
theorem frame_own {W w' : World} {v : Value} {n : Nat} {xs : List (List Rw × Value)} {w0 : World} (hM : Mine w0 27 1 W v n (xs.map (·.2))) (hg : W.grownBy w' v.ownBlock) {u : Value} {N k : Nat} {l : List Rw} (h : W.ownsRow N 39 9 u k (l.flatMap rwCs)) : w'.ownsRow N 39 9 u k (l.flatMap rwCs) := by
  refine h.kept hg ?_
  cases hu : u.ownBlock with
  | none => exact .inl rfl
  | some g =>
    refine .inr (fun e => ?_)
    obtain ⟨cs', fr', e3⟩ := out_block hM g e.symm
    obtain ⟨cs, fr, e2⟩ := (rowT_row h).2 g hu
    rw [e2] at e3; cases e3
/-- A row begins a group of its own. -/
theorem GrSt.out {w0 W : World} {v : Value} {gs : List (List Rw)} (h : GrSt w0 W v gs) : ∃ xs : List (List Rw × Value), Mine w0 27 1 W v gs.length (xs.map (·.2)) ∧
    ∀ (U w' : World) (v' : Value) (r : Rw), Later W U → ((U.alloc (.cells (rwCs r).toArray 39)).alloc (.cells #[.slice (some ⟨U.heap.size, 0, none⟩) 1 1] 27)).grownBy w' v.ownBlock →
      Mine w0 27 1 w' v' (gs.length + 1) (xs.map (·.2) ++ [.slice (some ⟨U.heap.size, 0, none⟩) 1 1]) → GrSt w0 w' v' (gs ++ [[r]]) := by
  have key : ∀ (prev : List (List Rw × Value)), gs = prev.map (·.1) → Mine w0 27 1 W v gs.length (prev.map (·.2)) → (∀ x ∈ prev, x.1 ≠ [] ∧ RowT 39 9 rwF W x.2 x.1) →
      ∀ (U w' : World) (v' : Value) (r : Rw), Later W U → ((U.alloc (.cells (rwCs r).toArray 39)).alloc (.cells #[.slice (some ⟨U.heap.size, 0, none⟩) 1 1] 27)).grownBy w' v.ownBlock →
      Mine w0 27 1 w' v' (gs.length + 1) (prev.map (·.2) ++ [.slice (some ⟨U.heap.size, 0, none⟩) 1 1]) → GrSt w0 w' v' (gs ++ [[r]]) := by
    intro prev hgs hM hp U w' v' r hU hg hM'
    have hlen : gs.length = prev.length := by rw [hgs, List.length_map]
    have hl2 : Later W ((U.alloc (.cells (rwCs r).toArray 39)).alloc (.cells #[.slice (some ⟨U.heap.size, 0, none⟩) 1 1] 27)) := (hU.alloc _).alloc _
    have hM2 := hM.later hl2
    have hown : (U.alloc (.cells (rwCs r).toArray 39)).ownsRow U.heap.size 39 9 (.slice (some ⟨U.heap.size, 0, none⟩) 1 1) 1 ([r].flatMap rwCs) := by
      have := (Mine.lit (w0 := U) (w := U) (e := 39) (sz := 9) (n := 1) (cur := (rwCs r).toArray) (Later.refl U) rfl (by decide)).1
      rw [List.flatMap_singleton]
      exact this
    refine .inr ⟨prev, ([r], .slice (some ⟨U.heap.size, 0, none⟩) 1 1), U.heap.size, ?_, by simp, ?_, ?_, frame_own hM2 hg (hown.alloc _), ?_, ?_⟩
    · rw [List.map_append, ← hgs]; rfl
    · rw [List.map_append, ← hlen]; exact hM'
    · intro x hx
      refine ⟨(hp x hx).1, frame_row hM2 hg ((hp x hx).2.later hl2), fun g hgx => ?_⟩
      obtain ⟨cs, fr, e⟩ := (hp x hx).2.2 g hgx
      have := (Array.getElem?_eq_some_iff.1 e).1
      have := Later.size hU
      omega
    · have := Later.size hM.lat
      have := Later.size hU
      omega
    · have := hg.size
      simp at this
      omega
  rcases h with ⟨h1, h2, h⟩ | ⟨prev, last, N, h1, h2, h3, h4, h5, h6, h7⟩
  · subst h1 h2
    exact ⟨[], Mine.nil h, key [] rfl (Mine.nil h) (fun x hx => by cases hx)⟩
  · have hM : Mine w0 27 1 W v gs.length ((prev ++ [last]).map (·.2)) := by rw [h1, List.length_map, List.length_append]; exact h3
    refine ⟨prev ++ [last], hM, key _ h1 hM (fun x hx => ?_)⟩
    rcases List.mem_append.1 hx with hx | hx
    · exact ⟨(h4 x hx).1, (h4 x hx).2.1⟩
    · simp only [List.mem_singleton] at hx; subst hx; exact ⟨h2, rowT_row h5⟩
/-- A row comes behind those of the last group. -/
theorem GrSt.last {w0 W : World} {v : Value} {gs : List (List Rw)} (h : GrSt w0 W v gs) (hne : gs ≠ []) : ∃ (g cap N n : Nat) (u : Value) (l : List Rw), gs.getLast? = some l ∧ l ≠ [] ∧ gs.length = n + 1 ∧ v = .slice (some ⟨g, 0, none⟩) (n + 1) cap ∧ g < W.heap.size ∧ w0.heap.size ≤ g ∧
    W.cell? ⟨g, n, none⟩ = some u ∧ W.ownsRow N 39 9 u l.length (l.flatMap rwCs) ∧ N ≤ W.heap.size ∧
    ∀ (U w' : World) (u' : Value) (r : Rw), Later W U → U.grownBy w' u.ownBlock → w'.ownsRow N 39 9 u' (l.length + 1) (l.flatMap rwCs ++ rwCs r) →
      (w'.cell? ⟨g, n, none⟩ = some u ∧ w'.frozen? ⟨g, n, none⟩ = false ∧ g < w'.heap.size) ∧ GrSt w0 (w'.setCell ⟨g, n, none⟩ u') v (gs.dropLast ++ [l ++ [r]]) := by
  rcases h with ⟨h1, _⟩ | ⟨prev, last, N, h1, h2, h3, h4, h5, h6, h7⟩
  · exact absurd h1 hne
  obtain ⟨g, cap, rfl⟩ : ∃ g cap, v = .slice (some ⟨g, 0, none⟩) (prev.length + 1) cap := by
    rcases h3.1.2 with ⟨_, e⟩ | ⟨g, cap, cur, e, _⟩
    · omega
    · exact ⟨g, cap, e⟩
  have hat : ∀ {X : World}, Mine w0 27 1 X (.slice (some ⟨g, 0, none⟩) (prev.length + 1) cap) (prev.length + 1) ((prev ++ [last]).map (·.2)) → X.cell? ⟨g, prev.length, none⟩ = some last.2 := fun hX => by
    rw [hX.1.cellAt prev.length (by omega)]; simp
  have hlt := h3.1.lt g rfl
  refine ⟨g, cap, N, prev.length, last.2, last.1, by rw [h1]; simp, h2, by rw [h1]; simp, rfl, hlt.2, hlt.1, hat h3, h5, h7, ?_⟩
  intro U w' u' r hU hg hM'
  have h3U := h3.later hU
  have h5U := ownsRow_later h5 hU
  have hlast : ∀ k, last.2.ownBlock = some k → N ≤ k ∧ ∃ cs fr, U.heap[k]? = some (.cells cs 39 fr) := fun k e => ⟨(h5U.lt k e).1, (rowT_row h5U).2 k e⟩
  have hMo : Mine w0 27 1 w' (.slice (some ⟨g, 0, none⟩) (prev.length + 1) cap) (prev.length + 1) ((prev ++ [last]).map (·.2)) := by
    refine ⟨h3U.1.kept hg (.inr (fun e => ?_)), Later.grown h3U.2 hg (fun k e => Nat.le_trans h6 (hlast k e).1)⟩
    obtain ⟨cs, fr, e2⟩ := (hlast g e.symm).2
    obtain ⟨cs', fr', e3⟩ := out_block h3U g rfl
    rw [e2] at e3; cases e3
  have hf := hMo.1.frozenAt prev.length
  have hz := (hMo.1.lt g rfl).2
  refine ⟨⟨hat hMo, hf, hz⟩, ?_⟩
  have hst := hMo.1.stored prev.length u'
  have hMs : Mine w0 27 1 (w'.setCell ⟨g, prev.length, none⟩ u') (.slice (some ⟨g, 0, none⟩) (prev.length + 1) cap) (prev.length + 1) ((prev ++ [(last.1 ++ [r], u')]).map (·.2)) := by
    refine ⟨?_, hMo.2.setCell (p := ⟨g, prev.length, none⟩) hlt.1 _⟩
    have := hst.1
    rw [List.map_append, List.set_append_right _ _ (by simp)] at this
    rw [List.map_append]
    simpa using this
  have hno : ∀ cs fr, w'.heap[g]? ≠ some (.cells cs 39 fr) := fun cs fr e => by
    obtain ⟨cs', fr', e3⟩ := out_block hMo g rfl
    rw [e] at e3; cases e3
  refine .inr ⟨prev, (last.1 ++ [r], u'), N, ?_, by simp, hMs, ?_, ?_, h6, ?_⟩
  · rw [h1]; simp
  · intro x hx
    obtain ⟨p1, p2, p3⟩ := h4 x hx
    refine ⟨p1, ((p2.later hU).other hg (fun q e e2 => ?_)).grown hst.2 hno, p3⟩
    have := p3 q e
    have := (hlast q e2.symm).1
    omega
  · rw [List.flatMap_append, List.flatMap_singleton, List.length_append, List.length_singleton]
    refine hM'.kept hst.2 ?_
    cases hu : u'.ownBlock with
    | none => exact .inl rfl
    | some k =>
      refine .inr (fun e => ?_)
      cases e
      have hM2 : w'.ownsRow N 39 9 u' (last.1.length + 1) ((last.1 ++ [r]).flatMap rwCs) := by rw [List.flatMap_append, List.flatMap_singleton]; exact hM'
      obtain ⟨cs, fr, e2⟩ := (rowT_row hM2).2 g hu
      exact hno cs fr e2
  · have := hg.size; have := Later.size hU; simp; omega
end Go.Proofs.YtpblfheeeifjcaaDoor
