/- audit's reference, plain: spans, starts, the document's answer over rows gone through each time -/
import Derived.Test.YtckeaibamgkegaaGreatDoorQ16
set_option linter.all false
set_option linter.all false
section
/- groups of rows, under way and as they stand: words -/
namespace Go.Proofs.YtckeaibamgkegaaGreatDoor
open Go.RowKit
set_option maxRecDepth 100000

theorem grInfo : (Tryz.prog.info? 22).map (fun i => (i.zero, i.size, i.bytes)) = some (some (.slice none 0 0), 1, 24) := by kernel_rfl
theorem sliceGr : SliceOf Tryz.prog 56 22 1 24 := sliceOf_mk Tryz.underlying56 grInfo rfl (by decide)
theorem gr_one (p : Option Addr) (n c : Nat) (w : World) :
    (Instr.buildSlice 56 1 #[(0, .slice p n c)]).run Tryz.prog w = .ok (.slice (some ⟨w.heap.size, 0, none⟩) 1 1) (w.alloc (.cells #[.slice p n c] 22)) := by kernel_rfl

def sndF (x : List Rw × Value) (_ : Nat) : Value := x.2
theorem RowT.other {α : Type} {t : TypeId} {sz : Nat} {f : α → Nat → Value} {w w' : World} {v : Value} {xs : List α} {row : Option Nat} (h : RowT t sz f w v xs) (hg : w.grownBy w' row) (hne : ∀ g, v.ownBlock = some g → some g ≠ row) : RowT t sz f w' v xs := by
  have hb : ∀ b, v.ownBlock = some b → w'.heap[b]? = w.heap[b]? := by
    intro b e
    obtain ⟨cs, fr, h1⟩ := h.2 b e
    exact hg.block b (Array.getElem?_eq_some_iff.1 h1).1 (hne b e)
  refine ⟨?_, fun b e => ?_⟩
  · rcases h.1 with h1 | ⟨b, o, cap, h1, h2, h3, h4, h5⟩
    · exact .inl h1
    · refine .inr ⟨b, o, cap, h1, Nat.lt_of_lt_of_le h2 hg.size, h3, h4, fun i hi j hj => ?_⟩
      rw [World.cell?_of_block (hb b (by rw [h1]; rfl))]
      exact h5 i hi j hj
  · obtain ⟨cs, fr, h1⟩ := h.2 b e
    exact ⟨cs, fr, (hb b e).trans h1⟩
/-- Groups as a slice of slices holds them. -/
def GrAt (w : World) (v : Value) (gs : List (List Rw)) : Prop :=
  ∃ xs : List (List Rw × Value), xs.map (·.1) = gs ∧ IsRow 1 sndF w v xs ∧ ∀ x ∈ xs, x.1 ≠ [] ∧ IsRow 9 rwF w x.2 x.1
theorem GrAt.later {w w' : World} {v : Value} {gs : List (List Rw)} (h : GrAt w v gs) (hb : Later w w') : GrAt w' v gs := by
  obtain ⟨xs, h1, h2, h3⟩ := h
  exact ⟨xs, h1, h2.later hb, fun x hx => ⟨(h3 x hx).1, (h3 x hx).2.later hb⟩⟩
theorem GrAt.form {w : World} {v : Value} {gs : List (List Rw)} (h : GrAt w v gs) : ∃ p cap, v = .slice p gs.length cap := by
  obtain ⟨xs, rfl, h2, _⟩ := h
  obtain ⟨p, cap, h⟩ := h2.form
  exact ⟨p, cap, by rw [h, List.length_map]⟩
theorem GrAt.full {w : World} {v : Value} {gs : List (List Rw)} (h : GrAt w v gs) {i : Nat} (hi : i < gs.length) :
    ∃ b o cap u, v = .slice (some ⟨b, o, none⟩) gs.length cap ∧ b < w.heap.size ∧ w.cell? ⟨b, o + i, none⟩ = some u ∧ gs[i] ≠ [] ∧ IsRow 9 rwF w u gs[i] := by
  obtain ⟨xs, rfl, h2, h3⟩ := h
  rw [List.length_map] at hi
  obtain ⟨b, o, cap, e1, e2, e3⟩ := h2.full hi
  have e4 := e3 0 (by omega)
  rw [Nat.mul_one, Nat.add_zero] at e4
  refine ⟨b, o, cap, xs[i].2, by rw [e1, List.length_map], e2, e4, ?_⟩
  rw [List.getElem_map]
  exact h3 _ (List.getElem_mem hi)

def sndCs (x : List Rw × Value) : List Value := [x.2]
theorem sndCs_cell (x : List Rw × Value) (j : Nat) (h : j < 1) : (sndCs x)[j]? = some (sndF x j) := by
  have : j = 0 := by omega
  subst this; rfl
theorem sndCs_flat (xs : List (List Rw × Value)) : xs.flatMap sndCs = xs.map (·.2) := by
  induction xs with
  | nil => rfl
  | cons x t ih => rw [List.flatMap_cons, ih]; rfl
/-- Groups under way: the last one may grow. -/
def GrSt (w0 W : World) (v : Value) (gs : List (List Rw)) : Prop :=
  (gs = [] ∧ v = .slice none 0 0 ∧ Later w0 W) ∨
  ∃ (prev : List (List Rw × Value)) (last : List Rw × Value) (N : Nat), gs = (prev ++ [last]).map (·.1) ∧ last.1 ≠ [] ∧ Mine w0 22 1 W v (prev.length + 1) ((prev ++ [last]).map (·.2)) ∧
    (∀ x ∈ prev, x.1 ≠ [] ∧ RowT 55 9 rwF W x.2 x.1 ∧ ∀ g, x.2.ownBlock = some g → g < N) ∧ W.ownsRow N 55 9 last.2 last.1.length (last.1.flatMap rwCs) ∧ w0.heap.size ≤ N ∧ N ≤ W.heap.size
theorem GrSt.lat {w0 W : World} {v : Value} {gs : List (List Rw)} (h : GrSt w0 W v gs) : Later w0 W := by
  rcases h with ⟨_, _, h⟩ | ⟨prev, last, N, _, _, h, _⟩
  · exact h
  · exact h.lat
theorem ownsRow_later {w w' : World} {base e sz n : Nat} {v : Value} {xs : List Value} (h : w.ownsRow base e sz v n xs) (hb : Later w w') : w'.ownsRow base e sz v n xs := h.kept (row := none) (grown_later hb none) (by cases v.ownBlock <;> simp)
theorem GrSt.later {w0 W W' : World} {v : Value} {gs : List (List Rw)} (h : GrSt w0 W v gs) (hb : Later W W') : GrSt w0 W' v gs := by
  rcases h with ⟨h1, h2, h⟩ | ⟨prev, last, N, h1, h2, h3, h4, h5, h6, h7⟩
  · exact .inl ⟨h1, h2, h.trans hb⟩
  · exact .inr ⟨prev, last, N, h1, h2, h3.later hb, fun x hx => ⟨(h4 x hx).1, (h4 x hx).2.1.later hb, (h4 x hx).2.2⟩, ownsRow_later h5 hb, h6, Nat.le_trans h7 (Later.size hb)⟩
theorem rowT_row {w : World} {v : Value} {N n : Nat} {l : List Rw} (h : w.ownsRow N 55 9 v n (l.flatMap rwCs)) : RowT 55 9 rwF w v l := rowT_owns rwCs rwCs_len rwCs_cell (by decide) h
theorem out_block {w0 w : World} {v : Value} {n : Nat} {xs : List (List Rw × Value)} (h : Mine w0 22 1 w v n (xs.map (·.2))) : ∀ g, v.ownBlock = some g → ∃ cs fr, w.heap[g]? = some (.cells cs 22 fr) := by
  rw [← sndCs_flat] at h
  exact (h.rowT sndCs (fun _ => rfl) sndCs_cell (by decide)).1.2
theorem GrSt.at_ {w0 W : World} {v : Value} {gs : List (List Rw)} (h : GrSt w0 W v gs) : GrAt W v gs := by
  rcases h with ⟨rfl, rfl, h⟩ | ⟨prev, last, N, h1, h2, h3, h4, h5, h6, h7⟩
  · exact ⟨[], rfl, IsRow.nil W, fun x hx => by cases hx⟩
  · refine ⟨prev ++ [last], h1.symm, ?_, ?_⟩
    · rw [← sndCs_flat] at h3
      exact (h3.row_ sndCs (fun _ => rfl) sndCs_cell (by decide)).1
    · intro x hx
      rcases List.mem_append.1 hx with hx | hx
      · exact ⟨(h4 x hx).1, (h4 x hx).2.1.1⟩
      · simp only [List.mem_singleton] at hx; subst hx; exact ⟨h2, (rowT_row h5).1⟩
theorem frame_row {W w' : World} {v : Value} {n : Nat} {xs : List (List Rw × Value)} {w0 : World} (hM : Mine w0 22 1 W v n (xs.map (·.2))) (hg : W.grownBy w' v.ownBlock) {u : Value} {l : List Rw} (h : RowT 55 9 rwF W u l) : RowT 55 9 rwF w' u l :=
  h.kept hg (fun q e cs fr e2 => by
    obtain ⟨cs', fr', e3⟩ := out_block hM q e
    rw [e2] at e3; cases e3)
theorem frame_own {W w' : World} {v : Value} {n : Nat} {xs : List (List Rw × Value)} {w0 : World} (hM : Mine w0 22 1 W v n (xs.map (·.2))) (hg : W.grownBy w' v.ownBlock) {u : Value} {N k : Nat} {l : List Rw} (h : W.ownsRow N 55 9 u k (l.flatMap rwCs)) : w'.ownsRow N 55 9 u k (l.flatMap rwCs) := by
  refine h.kept hg ?_
  cases hu : u.ownBlock with
  | none => exact .inl rfl
  | some g =>
    refine .inr (fun e => ?_)
    obtain ⟨cs', fr', e3⟩ := out_block hM g e.symm
    obtain ⟨cs, fr, e2⟩ := (rowT_row h).2 g hu
    rw [e2] at e3; cases e3
/-- A row begins a group of its own. -/
theorem GrSt.out {w0 W : World} {v : Value} {gs : List (List Rw)} (h : GrSt w0 W v gs) : ∃ xs : List (List Rw × Value), Mine w0 22 1 W v gs.length (xs.map (·.2)) ∧
    ∀ (U w' : World) (v' : Value) (r : Rw), Later W U → ((U.alloc (.cells (rwCs r).toArray 55)).alloc (.cells #[.slice (some ⟨U.heap.size, 0, none⟩) 1 1] 22)).grownBy w' v.ownBlock →
      Mine w0 22 1 w' v' (gs.length + 1) (xs.map (·.2) ++ [.slice (some ⟨U.heap.size, 0, none⟩) 1 1]) → GrSt w0 w' v' (gs ++ [[r]]) := by
  have key : ∀ (prev : List (List Rw × Value)), gs = prev.map (·.1) → Mine w0 22 1 W v gs.length (prev.map (·.2)) → (∀ x ∈ prev, x.1 ≠ [] ∧ RowT 55 9 rwF W x.2 x.1) →
      ∀ (U w' : World) (v' : Value) (r : Rw), Later W U → ((U.alloc (.cells (rwCs r).toArray 55)).alloc (.cells #[.slice (some ⟨U.heap.size, 0, none⟩) 1 1] 22)).grownBy w' v.ownBlock →
      Mine w0 22 1 w' v' (gs.length + 1) (prev.map (·.2) ++ [.slice (some ⟨U.heap.size, 0, none⟩) 1 1]) → GrSt w0 w' v' (gs ++ [[r]]) := by
    intro prev hgs hM hp U w' v' r hU hg hM'
    have hlen : gs.length = prev.length := by rw [hgs, List.length_map]
    have hl2 : Later W ((U.alloc (.cells (rwCs r).toArray 55)).alloc (.cells #[.slice (some ⟨U.heap.size, 0, none⟩) 1 1] 22)) := (hU.alloc _).alloc _
    have hM2 := hM.later hl2
    have hown : (U.alloc (.cells (rwCs r).toArray 55)).ownsRow U.heap.size 55 9 (.slice (some ⟨U.heap.size, 0, none⟩) 1 1) 1 ([r].flatMap rwCs) := by
      have := (Mine.lit (w0 := U) (w := U) (e := 55) (sz := 9) (n := 1) (cur := (rwCs r).toArray) (Later.refl U) rfl (by decide)).1
      rw [List.flatMap_singleton]
      exact this
    refine .inr ⟨prev, ([r], .slice (some ⟨U.heap.size, 0, none⟩) 1 1), U.heap.size, ?_, by simp, ?_, ?_, frame_own hM2 hg (hown.alloc _), ?_, ?_⟩
    · rw [List.map_append, ← hgs]; rfl
    · rw [List.map_append, ← hlen]; exact hM'
    · intro x hx
      refine ⟨(hp x hx).1, frame_row hM2 hg ((hp x hx).2.later hl2), fun g hgx => ?_⟩
      obtain ⟨cs, fr, e⟩ := (hp x hx).2.2 g hgx
      have := (Array.getElem?_eq_some_iff.1 e).1
      have := Later.size hU
      omega
    · have := Later.size hM.lat
      have := Later.size hU
      omega
    · have := hg.size
      simp at this
      omega
  rcases h with ⟨h1, h2, h⟩ | ⟨prev, last, N, h1, h2, h3, h4, h5, h6, h7⟩
  · subst h1 h2
    exact ⟨[], Mine.nil h, key [] rfl (Mine.nil h) (fun x hx => by cases hx)⟩
  · have hM : Mine w0 22 1 W v gs.length ((prev ++ [last]).map (·.2)) := by rw [h1, List.length_map, List.length_append]; exact h3
    refine ⟨prev ++ [last], hM, key _ h1 hM (fun x hx => ?_)⟩
    rcases List.mem_append.1 hx with hx | hx
    · exact ⟨(h4 x hx).1, (h4 x hx).2.1⟩
    · simp only [List.mem_singleton] at hx; subst hx; exact ⟨h2, rowT_row h5⟩
/-- A row comes behind those of the last group. -/
theorem GrSt.last {w0 W : World} {v : Value} {gs : List (List Rw)} (h : GrSt w0 W v gs) (hne : gs ≠ []) : ∃ (g cap N n : Nat) (u : Value) (l : List Rw), gs.getLast? = some l ∧ l ≠ [] ∧ gs.length = n + 1 ∧ v = .slice (some ⟨g, 0, none⟩) (n + 1) cap ∧ g < W.heap.size ∧ w0.heap.size ≤ g ∧
    W.cell? ⟨g, n, none⟩ = some u ∧ W.ownsRow N 55 9 u l.length (l.flatMap rwCs) ∧ N ≤ W.heap.size ∧
    ∀ (U w' : World) (u' : Value) (r : Rw), Later W U → U.grownBy w' u.ownBlock → w'.ownsRow N 55 9 u' (l.length + 1) (l.flatMap rwCs ++ rwCs r) →
      (w'.cell? ⟨g, n, none⟩ = some u ∧ w'.frozen? ⟨g, n, none⟩ = false ∧ g < w'.heap.size) ∧ GrSt w0 (w'.setCell ⟨g, n, none⟩ u') v (gs.dropLast ++ [l ++ [r]]) := by
  rcases h with ⟨h1, _⟩ | ⟨prev, last, N, h1, h2, h3, h4, h5, h6, h7⟩
  · exact absurd h1 hne
  obtain ⟨g, cap, rfl⟩ : ∃ g cap, v = .slice (some ⟨g, 0, none⟩) (prev.length + 1) cap := by
    rcases h3.1.2 with ⟨_, e⟩ | ⟨g, cap, cur, e, _⟩
    · omega
    · exact ⟨g, cap, e⟩
  have hat : ∀ {X : World}, Mine w0 22 1 X (.slice (some ⟨g, 0, none⟩) (prev.length + 1) cap) (prev.length + 1) ((prev ++ [last]).map (·.2)) → X.cell? ⟨g, prev.length, none⟩ = some last.2 := fun hX => by
    rw [hX.1.cellAt prev.length (by omega)]; simp
  have hlt := h3.1.lt g rfl
  refine ⟨g, cap, N, prev.length, last.2, last.1, by rw [h1]; simp, h2, by rw [h1]; simp, rfl, hlt.2, hlt.1, hat h3, h5, h7, ?_⟩
  intro U w' u' r hU hg hM'
  have h3U := h3.later hU
  have h5U := ownsRow_later h5 hU
  have hlast : ∀ k, last.2.ownBlock = some k → N ≤ k ∧ ∃ cs fr, U.heap[k]? = some (.cells cs 55 fr) := fun k e => ⟨(h5U.lt k e).1, (rowT_row h5U).2 k e⟩
  have hMo : Mine w0 22 1 w' (.slice (some ⟨g, 0, none⟩) (prev.length + 1) cap) (prev.length + 1) ((prev ++ [last]).map (·.2)) := by
    refine ⟨h3U.1.kept hg (.inr (fun e => ?_)), Later.grown h3U.2 hg (fun k e => Nat.le_trans h6 (hlast k e).1)⟩
    obtain ⟨cs, fr, e2⟩ := (hlast g e.symm).2
    obtain ⟨cs', fr', e3⟩ := out_block h3U g rfl
    rw [e2] at e3; cases e3
  have hf := hMo.1.frozenAt prev.length
  have hz := (hMo.1.lt g rfl).2
  refine ⟨⟨hat hMo, hf, hz⟩, ?_⟩
  have hst := hMo.1.stored prev.length u'
  have hMs : Mine w0 22 1 (w'.setCell ⟨g, prev.length, none⟩ u') (.slice (some ⟨g, 0, none⟩) (prev.length + 1) cap) (prev.length + 1) ((prev ++ [(last.1 ++ [r], u')]).map (·.2)) := by
    refine ⟨?_, hMo.2.setCell (p := ⟨g, prev.length, none⟩) hlt.1 _⟩
    have := hst.1
    rw [List.map_append, List.set_append_right _ _ (by simp)] at this
    rw [List.map_append]
    simpa using this
  have hno : ∀ cs fr, w'.heap[g]? ≠ some (.cells cs 55 fr) := fun cs fr e => by
    obtain ⟨cs', fr', e3⟩ := out_block hMo g rfl
    rw [e] at e3; cases e3
  refine .inr ⟨prev, (last.1 ++ [r], u'), N, ?_, by simp, hMs, ?_, ?_, h6, ?_⟩
  · rw [h1]; simp
  · intro x hx
    obtain ⟨p1, p2, p3⟩ := h4 x hx
    refine ⟨p1, ((p2.later hU).other hg (fun q e e2 => ?_)).grown hst.2 hno, p3⟩
    have := p3 q e
    have := (hlast q e2.symm).1
    omega
  · rw [List.flatMap_append, List.flatMap_singleton, List.length_append, List.length_singleton]
    refine hM'.kept hst.2 ?_
    cases hu : u'.ownBlock with
    | none => exact .inl rfl
    | some k =>
      refine .inr (fun e => ?_)
      cases e
      have hM2 : w'.ownsRow N 55 9 u' (last.1.length + 1) ((last.1 ++ [r]).flatMap rwCs) := by rw [List.flatMap_append, List.flatMap_singleton]; exact hM'
      obtain ⟨cs, fr, e2⟩ := (rowT_row hM2).2 g hu
      exact hno cs fr e2
  · have := hg.size; have := Later.size hU; simp; omega
end Go.Proofs.YtckeaibamgkegaaGreatDoor
end
section
/- audit.group -/
namespace Go.Proofs.YtckeaibamgkegaaGreatDoor
open Go.RowKit
set_option maxRecDepth 100000

theorem groups_step {l : List Rw} {j : Nat} (h : j < l.length) : (l.take (j + 1)).foldl addG [] = addG ((l.take j).foldl addG []) l[j] := by
  rw [List.take_add_one, List.getElem?_eq_getElem h, Option.toList_some, List.foldl_append]; rfl
theorem groups_bd : ∀ (l : List Rw) (gs : List (List Rw)), (l.foldl addG gs).length ≤ gs.length + l.length
  | [], gs => by simp
  | x :: t, gs => by
    rw [List.foldl_cons]
    refine Nat.le_trans (groups_bd t _) ?_
    have : (addG gs x).length ≤ gs.length + 1 := by
      unfold addG
      split
      · simp
      · split
        · simp
          try omega
        · simp
    rw [List.length_cons]; omega
theorem addG_nil (r : Rw) : addG [] r = [] ++ [[r]] := rfl
theorem addG_same {gs : List (List Rw)} {l : List Rw} {r : Rw} (h : gs.getLast? = some l) (hn : (hd l).no = r.no) : addG gs r = gs.dropLast ++ [l ++ [r]] := by unfold addG; rw [h]; simp only; rw [if_pos hn]
theorem addG_new {gs : List (List Rw)} {l : List Rw} {r : Rw} (h : gs.getLast? = some l) (hn : (hd l).no ≠ r.no) : addG gs r = gs ++ [[r]] := by unfold addG; rw [h]; simp only; rw [if_neg hn]
theorem hd_cell {w : World} {u : Value} {l : List Rw} (h : IsRow 9 rwF w u l) (hl : l ≠ []) : ∃ b o cap, u = .slice (some ⟨b, o, none⟩) l.length cap ∧ b < w.heap.size ∧ 0 < l.length ∧ ∀ k, k < 9 → w.cell? ⟨b, o + k, none⟩ = some (rwF (hd l) k) := by
  have h0 : 0 < l.length := List.length_pos_iff.2 hl
  obtain ⟨b, o, cap, e1, e2, e3⟩ := h.full h0
  refine ⟨b, o, cap, e1, e2, h0, fun k hk => ?_⟩
  have := e3 k hk
  rw [Nat.zero_mul, Nat.add_zero] at this
  rw [this]
  cases l with
  | nil => exact absurd rfl hl
  | cons x t => rfl


set_option maxHeartbeats 4000000 in
theorem group_any (l : List Rw) (hlen : l.length ≤ 10000) (v : Value) (w : World) (hN : IsRow 9 rwF w v l) :
    Calls Tryz.prog 18 #[v] w fun e w' => ∃ v', e = .returned v' ∧ GrAt w' v' (groups l) ∧ Later w w' := by
  obtain ⟨p, cp, rfl⟩ := hN.form
  have HN := Lib.hid hN
  clear hN
  obtain ⟨L, hL⟩ : ∃ L, l.length = L := ⟨_, rfl⟩
  rw [hL] at HN hlen ⊢
  have HL := Lib.hid hL
  clear hL
  go_enter Tryz.func18, Tryz.ntmps18
  go_wp2
  go_step3
  go_wp2
  go_step3
  go_wp2
  go_loopw [3, 9] (fun s3 s9 wr => ∃ j : Nat, j ≤ L ∧ s9 = .int .i64 j ∧ Hid (GrSt w wr s3 ((l.take j).foldl addG []))) (fun _ s9 _ => L - (intOf s9).toNat)
  case atStart => exact ⟨0, Nat.zero_le _, rfl, Lib.hid (.inl ⟨rfl, rfl, Later.refl _⟩)⟩
  case round =>
    obtain ⟨j, hj, rfl, hG⟩ := hrel
    have hlat := hG.out.lat
    by_cases hlt : j < L
    · have hjl : j < l.length := by rw [HL.out]; exact hlt
      obtain ⟨b, o, cp', hv, hb, g⟩ := HN.out.full (i := j) hjl
      rw [HL.out] at hv
      cases hv
      replace g := fun k (hk : k < 9) => ((bcell hlat).1 _ _ hb).trans (g k hk)
      have g0 := g 0 (by omega)
      have g1 := g 1 (by omega)
      have g2 := g 2 (by omega)
      have g3 := g 3 (by omega)
      have g4 := g 4 (by omega)
      have g5 := g 5 (by omega)
      have g6 := g 6 (by omega)
      have g7 := g 7 (by omega)
      have g8 := g 8 (by omega)
      simp only [rwF, Rw.nums, List.getD_cons_zero, List.getD_cons_succ, Nat.add_zero] at g0 g1 g2 g3 g4 g5 g6 g7 g8
      have hbw := Nat.lt_of_lt_of_le hb (Later.size hlat)
      have hbd : ((l.take j).foldl addG []).length ≤ 10000 := by
        have := groups_bd (l.take j) []
        rw [List.length_take] at this
        simp at this
        omega
      have HA := Lib.hid (groups_step hjl)
      have hflat : Hid (((l.take j).foldl addG []).flatten = l.take j) := Lib.hid (groups_sum (l.take j)).2
      have hlL := Lib.hid HL.out
      clear g HN HL hb
      generalize (l.take j).foldl addG [] = gs at *
      generalize l[j] = r at *
      obtain ⟨r0, r1, r2, r3, r4, r5, r6, r7, r8⟩ := r
      simp only at g0 g1 g2 g3 g4 g5 g6 g7 g8
      obtain ⟨xs, hM, hC⟩ := hG.out.out
      have HC8 := Lib.hid hC
      have HM8 := Lib.hid (fun W (hl : Later wr W) => hM.later hl)
      by_cases hgs : gs = []
      · subst hgs
        have hv0 := hG.out
        obtain ⟨pv, cv, rfl⟩ := hM.form
        rw [addG_nil] at HA
        clear hM hC hv0
        simp only [List.length_nil] at HM8 HC8 hbd ⊢
        go_upto_region 6 with (fail)
        refine wp_opaque (fun W8 hb8 => ?_)
        have hO8 := Own.one hb8
        have HO8 := Lib.hid hO8
        have hb9 := hb8.un1
        clear hb8
        obtain ⟨⟨z8, d8, f8⟩, -⟩ := hO8
        refine wp_region_plan 15 (.done [0, 1, 2, 3, 4, 5, 6, 7, 8, 9, 10, 11, 12, 13, 14]) (by kernel_rfl) (by kernel_rfl) (fun _ _ d _ _ h => by cases d <;> exact h) ?_
        repeat' (first
          | (refine plan_done (fun K hK => ?_); (first | (simp only [pick_cons, pick_nil, toList_some_append, List.getElem?_toArray, List.getElem?_cons_zero, List.getElem?_cons_succ]; repeat (go_big_quiet_step (fail))) | simp only [pick_nil]); refine wpQuiet_nil (hK _ ?_); clear hK K)
          | ((with_reducible refine at_list ?_); go_wp2_with (fail); first | refine behind_store (t := 15) (by decide) ?_ | refine behind (by repeat (first | with_reducible exact Later.refl _ | with_reducible assumption | with_reducible refine Later.ofdrew ?_ | with_reducible refine Later.ofdrewN ?_ | with_reducible refine Later.alloc ?_ _ | with_reducible refine Later.drewN ?_ _ | with_reducible refine Later.drew ?_ | (with_reducible refine Later.trans ?_ (by assumption)))) ?_))
        go_upto_region 8 with (fail)
        refine wp_opaque (fun W10 hb10 => ?_)
        obtain ⟨⟨z9, d9, f9⟩, -⟩ := HO8.out.later ((show Later W8 W8.drew by repeat (first | with_reducible exact Later.refl _ | with_reducible assumption | with_reducible refine Later.ofdrew ?_ | with_reducible refine Later.ofdrewN ?_ | with_reducible refine Later.setCell ?_ ?_ _ | with_reducible refine Later.alloc ?_ _ | with_reducible refine Later.drewN ?_ _ | with_reducible refine Later.drew ?_ | (with_reducible refine Later.trans ?_ (by assumption)) | (simp only [World.size_setCell, World.size_alloc, World.heap_drewN]; omega) | (simp; done) | (simp; omega))).trans hb10)
        have hw10 : Later wr W10 := Later.trans (by repeat (first | with_reducible exact Later.refl _ | with_reducible assumption | with_reducible refine Later.ofdrew ?_ | with_reducible refine Later.ofdrewN ?_ | with_reducible refine Later.setCell ?_ ?_ _ | with_reducible refine Later.alloc ?_ _ | with_reducible refine Later.drewN ?_ _ | with_reducible refine Later.drew ?_ | (with_reducible refine Later.trans ?_ (by assumption)) | (simp only [World.size_setCell, World.size_alloc, World.heap_drewN]; omega) | (simp; done) | (simp; omega))) ((show Later W8 W8.drew by repeat (first | with_reducible exact Later.refl _ | with_reducible assumption | with_reducible refine Later.ofdrew ?_ | with_reducible refine Later.ofdrewN ?_ | with_reducible refine Later.setCell ?_ ?_ _ | with_reducible refine Later.alloc ?_ _ | with_reducible refine Later.drewN ?_ _ | with_reducible refine Later.drew ?_ | (with_reducible refine Later.trans ?_ (by assumption)) | (simp only [World.size_setCell, World.size_alloc, World.heap_drewN]; omega) | (simp; done) | (simp; omega))).trans hb10)
        clear z8 d8 f8 hb10 HO8
        go_wp2_with (first | refine wpList_builtS (rw_one _ _ _ _ _ _ _ _ _ _) rfl rfl rfl ?_ | refine wpList_builtS (gr_one _ _ _ _) rfl rfl rfl ?_ | (at_builtin; go_must (refine wpList_pushAt sliceGr (HM8.out _ (by repeat (first | with_reducible exact Later.refl _ | with_reducible assumption | with_reducible refine Later.ofdrew ?_ | with_reducible refine Later.ofdrewN ?_ | with_reducible refine Later.setCell ?_ ?_ _ | with_reducible refine Later.alloc ?_ _ | with_reducible refine Later.drewN ?_ _ | with_reducible refine Later.drew ?_ | (with_reducible refine Later.trans ?_ (by assumption)) | (simp only [World.size_setCell, World.size_alloc, World.heap_drewN]; omega) | (simp; done) | (simp; omega)))) rfl _ _ rfl rfl 1 _ rfl (by simp) rfl (by simp [Value.oneCell']) (by omega) (by unfold maxLen; omega) ?_; intro v9 w9 hM9 hg9; obtain ⟨p9, cp9, rfl⟩ := hM9.form; have hG9 := Lib.hid (HC8.out _ w9 _ (⟨r0, r1, r2, r3, r4, r5, r6, r7, r8⟩ : Rw) (show Later wr _ by repeat (first | with_reducible exact Later.refl _ | with_reducible assumption | with_reducible refine Later.ofdrew ?_ | with_reducible refine Later.ofdrewN ?_ | with_reducible refine Later.setCell ?_ ?_ _ | with_reducible refine Later.alloc ?_ _ | with_reducible refine Later.drewN ?_ _ | with_reducible refine Later.drew ?_ | (with_reducible refine Later.trans ?_ (by assumption)) | (simp only [World.size_setCell, World.size_alloc, World.heap_drewN]; omega) | (simp; done) | (simp; omega))) hg9 hM9); clear hM9 hg9)))
        go_roundw
        case rel => exact ⟨j + 1, by omega, by go_num, Lib.hid (by rw [HA.out]; exact hG9.out)⟩
        case measure => simp [intOf]; omega
      · obtain ⟨g, cap, N, n, u, ll, hgl, hll, hgn, rfl, hgz, hgw, hcu, hown, hNw, hcont⟩ := hG.out.last hgs
        obtain ⟨hb2, ho2, hcap2, rfl, hbz, hl0, hc2⟩ := hd_cell (rowT_row hown).1 hll
        have hc20 := hc2 0 (by omega)
        simp only [rwF, Rw.nums, List.getD_cons_zero, Nat.add_zero] at hc20
        have hiN : IntKind.i64.wrap (((n + 1 : Nat) : Int) - 1) = n := by rw [show ((n + 1 : Nat) : Int) - 1 = n by omega]; exact IntWalk.i64_in _ (by omega)
        have hll3 : ll.length ≤ 10000 := by
          have h1 : (gs.flatten).length ≤ 10000 := by rw [hflat.out]; rw [List.length_take]; omega
          have h2 : ll ∈ gs := List.mem_of_getLast? hgl
          have h3 : ll.length ≤ gs.flatten.length := by
            obtain ⟨s, t, rfl⟩ := List.append_of_mem h2
            rw [List.flatten_append, List.flatten_cons, List.length_append, List.length_append]; omega
          omega
        by_cases hno : (hd ll).no = r0
        · rw [addG_same hgl hno] at HA
          have hnb : ((hd ll).no == r0) = true := by simpa using hno
          have HCONT := Lib.hid hcont
          have HOWN := Lib.hid (fun U (hl : Later wr U) => ownsRow_later hown hl)
          rw [hgn] at hbd
          have hll2 : ll.length ≤ 10000 := hll3
          clear hM hC HM8 HC8 hno hcont hown hgl hgs hgn hc2
          generalize (hd ll).no = ln at *
          generalize ll.length = M at *
          go_upto_region 6 with (fail)
          refine wp_opaque (fun W8 hb8 => ?_)
          have hO8 := Own.one hb8
          have HO8 := Lib.hid hO8
          have hb9 := hb8.un1
          clear hb8
          obtain ⟨⟨z8, d8, f8⟩, -⟩ := hO8
          have hcu8 := ((bcell hb9).1 _ _ hgz).trans hcu
          have hc8 := ((bcell hb9).1 _ _ hbz).trans hc20
          have hgz8 := Nat.lt_of_lt_of_le hgz (Later.size hb9)
          have hbz8 := Nat.lt_of_lt_of_le hbz (Later.size hb9)
          refine wp_region_plan 15 (.done [0, 1, 2, 3, 4, 5, 6, 7, 8, 9, 10, 11, 12, 13, 14]) (by kernel_rfl) (by kernel_rfl) (fun _ _ d _ _ h => by cases d <;> exact h) ?_
          repeat' (first
            | (refine plan_done (fun K hK => ?_); (first | (simp only [pick_cons, pick_nil, toList_some_append, List.getElem?_toArray, List.getElem?_cons_zero, List.getElem?_cons_succ]; repeat (go_big_quiet_step (fail))) | simp only [pick_nil]); refine wpQuiet_nil (hK _ ?_); clear hK K)
            | ((with_reducible refine at_list ?_); go_wp2_with (fail); first | refine behind_store (t := 15) (by decide) ?_ | refine behind (by repeat (first | with_reducible exact Later.refl _ | with_reducible assumption | with_reducible refine Later.ofdrew ?_ | with_reducible refine Later.ofdrewN ?_ | with_reducible refine Later.alloc ?_ _ | with_reducible refine Later.drewN ?_ _ | with_reducible refine Later.drew ?_ | (with_reducible refine Later.trans ?_ (by assumption)))) ?_))
          go_upto_region 7 with (fail)
          refine wp_opaque (fun W10 hb10 => ?_)
          have hl10 := (show Later W8 W8.drew by repeat (first | with_reducible exact Later.refl _ | with_reducible assumption | with_reducible refine Later.ofdrew ?_ | with_reducible refine Later.ofdrewN ?_ | with_reducible refine Later.setCell ?_ ?_ _ | with_reducible refine Later.alloc ?_ _ | with_reducible refine Later.drewN ?_ _ | with_reducible refine Later.drew ?_ | (with_reducible refine Later.trans ?_ (by assumption)) | (simp only [World.size_setCell, World.size_alloc, World.heap_drewN]; omega) | (simp; done) | (simp; omega))).trans hb10
          clear z8 d8 f8 hb10 hcu8 hc8 hgz8 hbz8
          refine W.wp_region_plan 10 (.two [0, 1, 3, 4, 5, 6, 7, 8] 2 (.one [] 9 (.one [] 10 (.one [] 11 (.one [] 12 (.done []))))) 9 (.two [] 2 (.one [] 10 (.one [] 11 (.one [] 12 (.done [])))) 10 (.one [] 2 (.one [] 11 (.one [] 12 (.done [])))))) (by kernel_rfl) (by kernel_rfl) (fun _ _ d _ _ h => by cases d <;> exact h) ?_
          refine W.open_drew (fun D hD => ?_)
          obtain ⟨⟨zD, dD, fD⟩, -⟩ := HO8.out.later (hl10.trans hD); have hwD : Later wr D := (hb9.trans hl10).trans hD; have cD := ((bcell hwD).1 _ _ hgz).trans hcu; have gD := Nat.lt_of_lt_of_le hgz (Later.size hwD); have szD := Nat.le_trans hNw (Later.size hwD)
          repeat' (first
            | (refine plan_done (fun K hK => ?_); (first | (simp only [pick_cons, pick_nil, toList_some_append, List.getElem?_toArray, List.getElem?_cons_zero, List.getElem?_cons_succ]; repeat (go_big_quiet_step (fail))) | simp only [pick_nil]); refine wpQuiet_nil (hK _ ?_); clear hK K)
            | (refine plan_one (by rfl) (fun K hK => ?_); (first | (simp only [pick_cons, pick_nil, toList_some_append, List.getElem?_toArray, List.getElem?_cons_zero, List.getElem?_cons_succ]; repeat (go_big_quiet_step (fail))) | simp only [pick_nil]); refine wpQuiet_nil (hK _ ?_); clear hK K)
            | (refine plan_two (by rfl) (by rfl) (fun K hK => ?_); (first | (simp only [pick_cons, pick_nil, toList_some_append, List.getElem?_toArray, List.getElem?_cons_zero, List.getElem?_cons_succ]; repeat (go_big_quiet_step (fail))) | simp only [pick_nil]); refine wpQuiet_nil (hK _ ?_); clear hK K; refine ⟨?_, ?_⟩)
            | ((with_reducible refine at_list ?_); (try simp only [List.getElem_toArray, List.getElem_cons_succ, List.getElem_cons_zero]); go_wp2_with (first | refine wpList_builtS (rw_one _ _ _ _ _ _ _ _ _ _) rfl rfl rfl ?_ | (at_builtin; go_must (refine wpList_pushB sliceRw (HOWN.out _ hwD) szD rfl _ _ rfl rfl 1 _ rfl (by simp) rfl (by simp [Value.oneCell']) (by omega) (by unfold maxLen; omega) ?_; intro v9 w9 hM9 hg9; obtain ⟨p9, cp9, rfl⟩ := ownsRow_form_ hM9; obtain ⟨⟨c9, fz9, zz9⟩, hG9⟩ := HCONT.out _ w9 _ (⟨r0, r1, r2, r3, r4, r5, r6, r7, r8⟩ : Rw) (show Later wr _ from hwD.alloc _) hg9 hM9; have HG9 := Lib.hid hG9; clear hG9 hM9 hg9))); first | refine behind_store (t := 10) (by decide) ?_ | refine behind (by repeat (first | with_reducible exact Later.refl _ | with_reducible assumption | with_reducible refine Later.ofdrew ?_ | with_reducible refine Later.ofdrewN ?_ | with_reducible refine Later.alloc ?_ _ | with_reducible refine Later.drewN ?_ _ | with_reducible refine Later.drew ?_ | (with_reducible refine Later.trans ?_ (by assumption)))) ?_))
          all_goals
            go_wp2
            go_roundw
            case rel => exact ⟨j + 1, by omega, by go_num, Lib.hid (by rw [HA.out]; exact HG9.out)⟩
            case measure => simp [intOf]; omega
        · rw [addG_new hgl hno] at HA
          have hnb : ((hd ll).no == r0) = false := by simpa using hno
          rw [hgn] at HM8 HC8 hbd
          clear hM hC hno hcont hown hgl hgs hgn hc2
          generalize (hd ll).no = ln at *
          go_upto_region 6 with (fail)
          refine wp_opaque (fun W8 hb8 => ?_)
          have hO8 := Own.one hb8
          have HO8 := Lib.hid hO8
          have hb9 := hb8.un1
          clear hb8
          obtain ⟨⟨z8, d8, f8⟩, -⟩ := hO8
          have hcu8 := ((bcell hb9).1 _ _ hgz).trans hcu
          have hc8 := ((bcell hb9).1 _ _ hbz).trans hc20
          have hgz8 := Nat.lt_of_lt_of_le hgz (Later.size hb9)
          have hbz8 := Nat.lt_of_lt_of_le hbz (Later.size hb9)
          clear hcu hc20 hgz hbz
          refine wp_region_plan 15 (.done [0, 1, 2, 3, 4, 5, 6, 7, 8, 9, 10, 11, 12, 13, 14]) (by kernel_rfl) (by kernel_rfl) (fun _ _ d _ _ h => by cases d <;> exact h) ?_
          repeat' (first
            | (refine plan_done (fun K hK => ?_); (first | (simp only [pick_cons, pick_nil, toList_some_append, List.getElem?_toArray, List.getElem?_cons_zero, List.getElem?_cons_succ]; repeat (go_big_quiet_step (fail))) | simp only [pick_nil]); refine wpQuiet_nil (hK _ ?_); clear hK K)
            | ((with_reducible refine at_list ?_); go_wp2_with (fail); first | refine behind_store (t := 15) (by decide) ?_ | refine behind (by repeat (first | with_reducible exact Later.refl _ | with_reducible assumption | with_reducible refine Later.ofdrew ?_ | with_reducible refine Later.ofdrewN ?_ | with_reducible refine Later.alloc ?_ _ | with_reducible refine Later.drewN ?_ _ | with_reducible refine Later.drew ?_ | (with_reducible refine Later.trans ?_ (by assumption)))) ?_))
          go_upto_region 8 with (fail)
          refine wp_opaque (fun W10 hb10 => ?_)
          obtain ⟨⟨z9, d9, f9⟩, -⟩ := HO8.out.later ((show Later W8 W8.drew by repeat (first | with_reducible exact Later.refl _ | with_reducible assumption | with_reducible refine Later.ofdrew ?_ | with_reducible refine Later.ofdrewN ?_ | with_reducible refine Later.setCell ?_ ?_ _ | with_reducible refine Later.alloc ?_ _ | with_reducible refine Later.drewN ?_ _ | with_reducible refine Later.drew ?_ | (with_reducible refine Later.trans ?_ (by assumption)) | (simp only [World.size_setCell, World.size_alloc, World.heap_drewN]; omega) | (simp; done) | (simp; omega))).trans hb10)
          have hw10 : Later wr W10 := Later.trans (by repeat (first | with_reducible exact Later.refl _ | with_reducible assumption | with_reducible refine Later.ofdrew ?_ | with_reducible refine Later.ofdrewN ?_ | with_reducible refine Later.setCell ?_ ?_ _ | with_reducible refine Later.alloc ?_ _ | with_reducible refine Later.drewN ?_ _ | with_reducible refine Later.drew ?_ | (with_reducible refine Later.trans ?_ (by assumption)) | (simp only [World.size_setCell, World.size_alloc, World.heap_drewN]; omega) | (simp; done) | (simp; omega))) ((show Later W8 W8.drew by repeat (first | with_reducible exact Later.refl _ | with_reducible assumption | with_reducible refine Later.ofdrew ?_ | with_reducible refine Later.ofdrewN ?_ | with_reducible refine Later.setCell ?_ ?_ _ | with_reducible refine Later.alloc ?_ _ | with_reducible refine Later.drewN ?_ _ | with_reducible refine Later.drew ?_ | (with_reducible refine Later.trans ?_ (by assumption)) | (simp only [World.size_setCell, World.size_alloc, World.heap_drewN]; omega) | (simp; done) | (simp; omega))).trans hb10)
          clear z8 d8 f8 hb10 HO8
          go_wp2_with (first | refine wpList_builtS (rw_one _ _ _ _ _ _ _ _ _ _) rfl rfl rfl ?_ | refine wpList_builtS (gr_one _ _ _ _) rfl rfl rfl ?_ | (at_builtin; go_must (refine wpList_pushAt sliceGr (HM8.out _ (by repeat (first | with_reducible exact Later.refl _ | with_reducible assumption | with_reducible refine Later.ofdrew ?_ | with_reducible refine Later.ofdrewN ?_ | with_reducible refine Later.setCell ?_ ?_ _ | with_reducible refine Later.alloc ?_ _ | with_reducible refine Later.drewN ?_ _ | with_reducible refine Later.drew ?_ | (with_reducible refine Later.trans ?_ (by assumption)) | (simp only [World.size_setCell, World.size_alloc, World.heap_drewN]; omega) | (simp; done) | (simp; omega)))) rfl _ _ rfl rfl 1 _ rfl (by simp) rfl (by simp [Value.oneCell']) (by omega) (by unfold maxLen; omega) ?_; intro v9 w9 hM9 hg9; obtain ⟨p9, cp9, rfl⟩ := hM9.form; have hG9 := Lib.hid (HC8.out _ w9 _ (⟨r0, r1, r2, r3, r4, r5, r6, r7, r8⟩ : Rw) (show Later wr _ by repeat (first | with_reducible exact Later.refl _ | with_reducible assumption | with_reducible refine Later.ofdrew ?_ | with_reducible refine Later.ofdrewN ?_ | with_reducible refine Later.setCell ?_ ?_ _ | with_reducible refine Later.alloc ?_ _ | with_reducible refine Later.drewN ?_ _ | with_reducible refine Later.drew ?_ | (with_reducible refine Later.trans ?_ (by assumption)) | (simp only [World.size_setCell, World.size_alloc, World.heap_drewN]; omega) | (simp; done) | (simp; omega))) hg9 hM9); clear hM9 hg9)))
          go_roundw
          case rel => exact ⟨j + 1, by omega, by go_num, Lib.hid (by rw [HA.out]; exact hG9.out)⟩
          case measure => simp [intOf]; omega
    · have HF := hG.out.at_
      rw [List.take_of_length_le (by rw [HL.out]; omega)] at HF
      replace HF := Lib.hid HF
      obtain ⟨xs, hM, -⟩ := hG.out.out
      obtain ⟨pv, cv, rfl⟩ := hM.form
      clear hM hG
      go_wp2
      rw [Exit.noGoto_ret]
      go_ret
      exact ⟨_, rfl, HF.out, hlat⟩

end Go.Proofs.YtckeaibamgkegaaGreatDoor
end
section
/- audit's reference, plain: spans, starts, the document's answer over rows gone through each time -/
namespace Go.Proofs.YtckeaibamgkegaaGreatDoor
open Go.RowKit
set_option maxRecDepth 100000

/-- How many rows lie ahead of the n-th group. -/
def offG (gs : List (List Rw)) (n : Nat) : Nat := ((gs.take n).flatten).length
/-- Groups whose rows have one number each, neighbours' numbers not the same. -/
structure Parted (gs : List (List Rw)) : Prop where
  ne : ∀ g ∈ gs, g ≠ []
  one : ∀ g ∈ gs, ∀ r ∈ g, r.no = (hd g).no
  two : ∀ i, i + 1 < gs.length → (hd (gs.getD (i + 1) [])).no ≠ (hd (gs.getD i [])).no
theorem offG_succ {gs : List (List Rw)} {n : Nat} (h : n < gs.length) : offG gs (n + 1) = offG gs n + gs[n].length := by
  unfold offG
  rw [List.take_add_one, List.getElem?_eq_getElem h, Option.toList_some, List.flatten_append, List.length_append]
  simp
theorem offG_zero (gs : List (List Rw)) : offG gs 0 = 0 := by unfold offG; simp
theorem offG_all (gs : List (List Rw)) : offG gs gs.length = gs.flatten.length := by unfold offG; rw [List.take_length]
theorem Parted.nil : Parted [] := ⟨(fun _ h => by cases h), (fun _ h => by cases h), (fun i h => by simp at h)⟩
theorem getD_l {α : Type} {a b : List α} {i : Nat} {d : α} (h : i < a.length) : (a ++ b).getD i d = a.getD i d := by
  rw [List.getD_eq_getElem?_getD, List.getD_eq_getElem?_getD, List.getElem?_append_left h]
theorem getD_e {α : Type} {a : List α} {x : α} {d : α} : (a ++ [x]).getD a.length d = x := by
  rw [List.getD_eq_getElem?_getD, List.getElem?_append_right (Nat.le_refl _), Nat.sub_self]; rfl
theorem parted_add {gs : List (List Rw)} (h : Parted gs) (r : Rw) : Parted (addG gs r) := by
  rcases List.eq_nil_or_concat gs with rfl | ⟨init, g, hgs⟩
  · refine ⟨?_, ?_, ?_⟩
    · intro g hg
      simp only [addG, List.getLast?_nil, List.mem_singleton] at hg
      subst hg; simp
    · intro g hg x hx
      simp only [addG, List.getLast?_nil, List.mem_singleton] at hg
      subst hg
      simp only [List.mem_singleton] at hx
      subst hx; rfl
    · intro i hi
      simp [addG] at hi
  · rw [List.concat_eq_append] at hgs
    subst hgs
    have hg := h.ne g (by simp)
    have hl : (init ++ [g]).getLast? = some g := by simp
    by_cases hn : (hd g).no = r.no
    · rw [addG_same hl hn, List.dropLast_concat]
      refine ⟨?_, ?_, ?_⟩
      · intro x hx
        rcases List.mem_append.1 hx with hx | hx
        · exact h.ne x (by simp [hx])
        · simp only [List.mem_singleton] at hx; subst hx; simp
      · intro x hx y hy
        rcases List.mem_append.1 hx with hx | hx
        · exact h.one x (by simp [hx]) y hy
        · simp only [List.mem_singleton] at hx; subst hx
          rw [hd_app hg]
          rcases List.mem_append.1 hy with hy | hy
          · exact h.one g (by simp) y hy
          · simp only [List.mem_singleton] at hy; subst hy; exact hn.symm
      · intro i hi
        have h2 := h.two i (by simpa using hi)
        rw [List.length_append, List.length_singleton] at hi
        by_cases hi2 : i + 1 < init.length
        · rw [getD_l hi2, getD_l (by omega)] at h2 ⊢; exact h2
        · have hi3 : i + 1 = init.length := by omega
          rw [hi3, getD_e, getD_l (by omega)] at h2 ⊢
          rw [hd_app hg]; exact h2
    · rw [addG_new hl hn]
      refine ⟨?_, ?_, ?_⟩
      · intro x hx
        rcases List.mem_append.1 hx with hx | hx
        · exact h.ne x hx
        · simp only [List.mem_singleton] at hx; subst hx; simp
      · intro x hx y hy
        rcases List.mem_append.1 hx with hx | hx
        · exact h.one x hx y hy
        · simp only [List.mem_singleton] at hx; subst hx
          simp only [List.mem_singleton] at hy; subst hy; rfl
      · intro i hi
        rw [List.length_append, List.length_singleton] at hi
        by_cases hi2 : i + 1 < (init ++ [g]).length
        · rw [getD_l hi2, getD_l (a := init ++ [g]) (by omega)]; exact h.two i hi2
        · have hi3 : i + 1 = (init ++ [g]).length := by omega
          have hi4 : i = init.length := by rw [List.length_append, List.length_singleton] at hi3; omega
          rw [hi3, getD_e, getD_l (a := init ++ [g]) (by omega), hi4, getD_e]
          exact fun e => hn e.symm
theorem parted_groups (l : List Rw) : Parted (groups l) := by
  unfold groups
  suffices ∀ (l : List Rw) (gs : List (List Rw)), Parted gs → Parted (l.foldl addG gs) from this l [] Parted.nil
  intro l
  induction l with
  | nil => intro gs h; exact h
  | cons x t ih => intro gs h; rw [List.foldl_cons]; exact ih _ (parted_add h x)
theorem groups_flat (l : List Rw) : (groups l).flatten = l := (groups_sum l).2
/-- A row of a group, where it lies among all. -/
theorem flat_at {gs : List (List Rw)} {n k : Nat} (h : n < gs.length) (hk : k < gs[n].length) : gs.flatten[offG gs n + k]? = some gs[n][k] := by
  have e : gs.flatten = (gs.take n).flatten ++ (gs[n] ++ (gs.drop (n + 1)).flatten) := by
    rw [← List.flatten_cons, ← List.drop_eq_getElem_cons h, ← List.flatten_append, List.take_append_drop]
  rw [e]
  unfold offG
  rw [List.getElem?_append_right (Nat.le_add_right _ _), Nat.add_sub_cancel_left, List.getElem?_append_left hk, List.getElem?_eq_getElem hk]
theorem offG_le {gs : List (List Rw)} {n : Nat} (h : n ≤ gs.length) : offG gs n ≤ gs.flatten.length := by
  have e : gs.flatten = (gs.take n).flatten ++ (gs.drop n).flatten := by rw [← List.flatten_append, List.take_append_drop]
  rw [e, List.length_append]; exact Nat.le_add_right _ _
/-- Rows from one on that have one number, and then another one. -/
structure Seg (l : List Rw) (a b : Nat) : Prop where
  lt : a < b
  le : b ≤ l.length
  same : ∀ i (h : i < l.length), a ≤ i → i < b → (l[i]).no = (l[a]'(by omega)).no
  stop : ∀ (h : b < l.length), (l[b]).no ≠ (l[a]'(by omega)).no
/-- What the groups of rows are, told by where they lie. -/
theorem seg_groups (l : List Rw) {n : Nat} (hn : n < (groups l).length) : Seg l (offG (groups l) n) (offG (groups l) (n + 1)) := by
  have hp := parted_groups l
  have hf := groups_flat l
  generalize groups l = gs at *
  subst hf
  have hs := offG_succ hn
  have hne := hp.ne _ (List.getElem_mem hn)
  have h0 : 0 < gs[n].length := List.length_pos_iff.2 hne
  have hle := offG_le (gs := gs) (n := n + 1) hn
  have hhd : ∀ (g : List Rw), g ≠ [] → ∀ (h : 0 < g.length), g[0] = hd g := fun g hg h => by cases g with | nil => exact absurd rfl hg | cons x t => rfl
  have first : ∀ (h : offG gs n < gs.flatten.length), gs.flatten[offG gs n] = hd gs[n] := by
    intro h
    have e := flat_at hn h0
    rw [Nat.add_zero, List.getElem?_eq_getElem h] at e
    rw [Option.some.inj e, hhd _ hne]
  refine ⟨by omega, hle, ?_, ?_⟩
  · intro i hi h1 h2
    have e := flat_at hn (k := i - offG gs n) (by omega)
    rw [show offG gs n + (i - offG gs n) = i by omega, List.getElem?_eq_getElem hi] at e
    rw [Option.some.inj e, first]
    exact hp.one _ (List.getElem_mem hn) _ (List.getElem_mem _)
  · intro h
    by_cases hn1 : n + 1 < gs.length
    · have hne1 := hp.ne _ (List.getElem_mem hn1)
      have e := flat_at hn1 (k := 0) (List.length_pos_iff.2 hne1)
      rw [Nat.add_zero, List.getElem?_eq_getElem h] at e
      rw [Option.some.inj e, first, hhd _ hne1]
      have := hp.two n hn1
      rwa [getD_at hn1, getD_at hn] at this
    · have : n + 1 = gs.length := by omega
      rw [this, offG_all] at h
      omega
theorem groups_get (l : List Rw) {n k : Nat} (hn : n < (groups l).length) (hk : k < ((groups l)[n]).length) : l[offG (groups l) n + k]? = some ((groups l)[n])[k] := by
  have hf := groups_flat l
  have h := flat_at hn hk
  rwa [hf] at h
theorem groups_end (l : List Rw) : offG (groups l) (groups l).length = l.length := by rw [offG_all, groups_flat]
end Go.Proofs.YtckeaibamgkegaaGreatDoor
end
