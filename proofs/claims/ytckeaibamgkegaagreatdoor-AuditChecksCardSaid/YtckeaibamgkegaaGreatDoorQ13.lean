/- the copy that Post works at: an entry that is put behind, a key that is laid, the copy laid down -/
import Derived.Test.YtckeaibamgkegaaGreatDoorQ10
import Derived.Test.YtckeaibamgkegaaGreatDoorQ12
set_option linter.all false
set_option linter.all false
section
/- the copy that Post works at: an entry that is put behind, a key that is laid, the copy laid down -/
namespace Go.Proofs.YtckeaibamgkegaaGreatDoor
open Go.RowKit
set_option maxRecDepth 100000

section
variable {α : Type} {t : TypeId} {sz : Nat} {f : α → Nat → Value} {w w' : World} {v : Value} {xs : List α}
theorem RowT.kept (h : RowT t sz f w v xs) {row : Option Nat} (hg : w.grownBy w' row) (hq : ∀ q, row = some q → ∀ cs fr, w.heap[q]? ≠ some (.cells cs t fr)) : RowT t sz f w' v xs := by
  cases row with
  | some q => exact h.grown hg (hq q rfl)
  | none =>
    refine h.grown (q := w.heap.size) ⟨hg.os, hg.tape, hg.output, hg.size, fun k hk _ => hg.block k hk (by simp)⟩ (fun cs fr e => ?_)
    have := (Array.getElem?_eq_some_iff.1 e).1
    omega
end
theorem grown_set (w : World) (q i : Nat) (u : Value) : w.grownBy (w.setCell ⟨q, i, none⟩ u) (some q) :=
  ⟨rfl, rfl, rfl, by simp, fun k _ hk => heap_setCell_other w ⟨q, i, none⟩ k u (fun e => hk (by simp [e]))⟩
theorem grown_trans {a b c : World} {row : Option Nat} (h : a.grownBy b row) (k : b.grownBy c row) : a.grownBy c row :=
  ⟨k.os.trans h.os, k.tape.trans h.tape, k.output.trans h.output, Nat.le_trans h.size k.size, fun i hi hr => (k.block i (Nat.lt_of_lt_of_le hi h.size) hr).trans (h.block i hi hr)⟩
theorem grown_later {a b : World} (h : Later a b) (row : Option Nat) : a.grownBy b row := ⟨h.os, h.tape, h.output, h.size, fun k hk _ => h.block k hk⟩

theorem own_put {w : World} {b : Nat} {A : Array Value} (h : Own w [(b, A)]) {k : Nat} (hk : k < A.size) (x : Value) : Own (w.setCell ⟨b, k, none⟩ x) [(b, A.setIfInBounds k x)] :=
  Own.cons (by simpa using h.1.1) (fun i => set_own h.1.2.1 x hk i) (fun i hi => set_frozen (n := A.size) h.1.2.2 x i (by simpa using hi)) trivial
theorem own_grown {w w' : World} {b : Nat} {A : Array Value} (h : Own w [(b, A)]) {row : Option Nat} (hg : w.grownBy w' row) (hne : some b ≠ row) : Own w' [(b, A)] := by
  obtain ⟨z, c, f⟩ := own_get h
  have hb := hg.block b z hne
  exact Own.cons (Nat.lt_of_lt_of_le z hg.size) (fun i => (World.cell?_of_block hb).trans (c i)) (fun i hi => (World.frozen?_of_block hb).trans (f i hi)) trivial
theorem rowT_owns {α : Type} {t : TypeId} {sz : Nat} {f : α → Nat → Value} {w : World} {v : Value} {xs : List α} {base n : Nat} (cs : α → List Value) (hcs : ∀ x, (cs x).length = sz) (hf : ∀ x j, j < sz → (cs x)[j]? = some (f x j)) (hsz : 0 < sz) (h : w.ownsRow base t sz v n (xs.flatMap cs)) : RowT t sz f w v xs := by
  have hM : Mine { w with heap := #[] } t sz w v n (xs.flatMap cs) := ⟨ownsRow_low h (Nat.zero_le _), ⟨rfl, rfl, rfl, Nat.zero_le _, fun k hk => absurd hk (Nat.not_lt_zero _)⟩⟩
  exact (hM.rowT cs hcs hf hsz).1
theorem CopyAt.low {a b w : World} {q : Nat} {es : List En} (h : CopyAt b w q es) (hb : Later a b) : CopyAt a w q es := by
  obtain ⟨v, m, xs, h1, h2, h3, h4, h5, h6, h7⟩ := h
  have := Later.size hb
  exact ⟨v, m, xs, h1, by omega, by omega, h4, ⟨ownsRow_low h5.1 this, hb.trans h5.2⟩, h6, h7⟩
/-- The copy that a call works at. -/
def NxAt (w0 w : World) (q : Nat) (v : Value) (m : Nat) (xs : List (En × Value)) (l : List (Int × Int)) : Prop :=
  LedBk w q v m ∧ w0.heap.size ≤ q ∧ w0.heap.size ≤ m ∧ Mine w0 48 7 w v xs.length (xs.flatMap enCs) ∧ (∀ x ∈ xs, RowT 92 3 lnF w x.2 x.1.ls) ∧ byM w m l
section
variable {w0 w w' : World} {q m : Nat} {v v' : Value} {xs : List (En × Value)} {l l' : List (Int × Int)}
theorem CopyAt.nx {es : List En} (h : CopyAt w0 w q es) : ∃ v m xs, xs.map (·.1) = es ∧ NxAt w0 w q v m xs (byL es) := by
  obtain ⟨v, m, xs, h1, a, b, h2, h3, h4, h5⟩ := h
  exact ⟨v, m, xs, h2, h1, a, b, h3, h4, h5⟩
theorem NxAt.copy {es : List En} (h : NxAt w0 w q v m xs (byL es)) (he : xs.map (·.1) = es) : CopyAt w0 w q es := by
  obtain ⟨h1, a, b, h3, h4, h5⟩ := h
  exact ⟨v, m, xs, h1, a, b, he, h3, h4, h5⟩
theorem NxAt.later (h : NxAt w0 w q v m xs l) (hb : Later w w') : NxAt w0 w' q v m xs l := by
  obtain ⟨h1, a, b, h3, h4, h5⟩ := h
  exact ⟨h1.later hb, a, b, h3.later hb, fun x hx => (h4 x hx).later hb, MapL.later h5 hb⟩
theorem NxAt.lat (h : NxAt w0 w q v m xs l) : Later w0 w := h.2.2.2.1.lat
theorem NxAt.isMap (h : byM w m l) : ∃ es c, w.heap[m]? = some (.map es c) := by
  obtain ⟨es, c, h1, _⟩ := h
  exact ⟨es, c, h1⟩
theorem NxAt.row_block (h : Mine w0 48 7 w v xs.length (xs.flatMap enCs)) {g : Nat} (hg : v.ownBlock = some g) : ∃ cs fr, w.heap[g]? = some (.cells cs 48 fr) := (h.rowT enCs enCs_len enCs_cell (by decide)).1.2 g hg
theorem NxAt.put (h : NxAt w0 w q v m xs l) (hg : w.grownBy w' (some m)) (hm : byM w' m l') : NxAt w0 w' q v m xs l' := by
  obtain ⟨h1, a, b, h3, h4, h5⟩ := h
  obtain ⟨es, c, hmm⟩ := NxAt.isMap h5
  have hnc : ∀ t cs fr, w.heap[m]? ≠ some (.cells cs t fr) := fun t cs fr e => by rw [hmm] at e; cases e
  refine ⟨(hg.block q h1.lt (fun e => ?_)).trans h1, a, b, ⟨h3.1.kept hg ?_, Later.grown h3.2 hg (fun k e => by cases e; exact b)⟩, fun x hx => (h4 x hx).grown hg (fun cs fr => hnc _ cs fr), hm⟩
  · cases e; unfold LedBk at h1; rw [hmm] at h1; cases h1
  · cases hv : v.ownBlock with
    | none => exact .inl rfl
    | some g =>
      refine .inr (fun e => ?_)
      cases e
      obtain ⟨cs, fr, e⟩ := NxAt.row_block h3 hv
      exact hnc _ cs fr e
theorem NxAt.set (h1 : LedBk w q v m) (a : w0.heap.size ≤ q) (b : w0.heap.size ≤ m) (h3 : Mine w0 48 7 w v' xs.length (xs.flatMap enCs)) (h4 : ∀ x ∈ xs, RowT 92 3 lnF w x.2 x.1.ls) (h5 : byM w m l) :
    NxAt w0 (w.setCell ⟨q, 0, none⟩ v') q v' m xs l := by
  have hg := grown_set w q 0 v'
  have h1' := h1
  unfold LedBk at h1'
  refine ⟨?_, a, b, ⟨h3.1.kept hg ?_, Later.grown h3.2 hg (fun k e => by cases e; exact a)⟩, fun x hx => (h4 x hx).grown hg (fun cs fr e => by rw [h1'] at e; cases e), MapL.kept h5 hg (fun e => ?_)⟩
  · have := heap_setCell_same w q 0 #[v, .map (some m)] 84 v' h1'
    exact this
  · cases hv : v'.ownBlock with
    | none => exact .inl rfl
    | some g =>
      refine .inr (fun e => ?_)
      cases e
      obtain ⟨cs, fr, e⟩ := NxAt.row_block h3 hv
      rw [h1'] at e; cases e
  · cases e
    obtain ⟨es, c, hmm⟩ := NxAt.isMap h5
    rw [h1'] at hmm; cases hmm
theorem NxAt.push (h : NxAt w0 w q v m xs l) {x : En × Value} (hx : RowT 92 3 lnF w x.2 x.1.ls) (hg : w.grownBy w' v.ownBlock) (hM : Mine w0 48 7 w' v' (xs.length + 1) (xs.flatMap enCs ++ enCs x)) :
    LedBk w' q v m ∧ NxAt w0 (w'.setCell ⟨q, 0, none⟩ v') q v' m (xs ++ [x]) l := by
  obtain ⟨h1, a, b, h3, h4, h5⟩ := h
  have h1' := h1
  unfold LedBk at h1'
  have hrow : ∀ g, v.ownBlock = some g → ∃ cs fr, w.heap[g]? = some (.cells cs 48 fr) := fun g hg => NxAt.row_block h3 hg
  have hb : LedBk w' q v m := (hg.block q h1.lt (fun e => by
    obtain ⟨cs, fr, e2⟩ := hrow q e.symm
    rw [h1'] at e2; cases e2)).trans h1
  have hl : ∀ (y : En × Value), RowT 92 3 lnF w y.2 y.1.ls → RowT 92 3 lnF w' y.2 y.1.ls := fun y hy => hy.kept hg (fun g e cs fr e2 => by
    obtain ⟨cs', fr', e3⟩ := hrow g e
    rw [e2] at e3; cases e3)
  have hby : byM w' m l := MapL.kept h5 hg (fun e => by
    obtain ⟨cs, fr, e2⟩ := hrow m e.symm
    obtain ⟨es, c, hmm⟩ := NxAt.isMap h5
    rw [hmm] at e2; cases e2)
  refine ⟨hb, NxAt.set hb a b ?_ ?_ hby⟩
  · rw [List.length_append, List.length_singleton, List.flatMap_append, List.flatMap_singleton]; exact hM
  · intro y hy
    rcases List.mem_append.1 hy with hy | hy
    · exact hl y (h4 y hy)
    · simp only [List.mem_singleton] at hy; subst hy; exact hl y hx
/-- The copy is laid down where the books are. -/
theorem NxAt.lay {q' m0 : Nat} {v0 : Value} {es : List En} (h : NxAt w0 w q v m xs (byL es)) (he : xs.map (·.1) = es) (hq : LedBk w q' v0 m0) (hlt : q' < w0.heap.size) :
    Led ((w.setCell ⟨q', 0, none⟩ v).setCell ⟨q', 1, none⟩ (.map (some m))) q' es ∧ w.grownBy ((w.setCell ⟨q', 0, none⟩ v).setCell ⟨q', 1, none⟩ (.map (some m))) (some q') := by
  obtain ⟨h1, a, b, h3, h4, h5⟩ := h
  have hg := grown_trans (grown_set w q' 0 v) (grown_set (w.setCell ⟨q', 0, none⟩ v) q' 1 (.map (some m)))
  have hq' := hq
  unfold LedBk at hq'
  refine ⟨⟨v, m, ?_, ⟨xs, he, ?_, ?_⟩, ?_⟩, hg⟩
  · have e1 := heap_setCell_same w q' 0 #[v0, .map (some m0)] 84 v hq'
    exact heap_setCell_same _ q' 1 #[v, .map (some m0)] 84 (.map (some m)) e1
  · exact (h3.rowT enCs enCs_len enCs_cell (by decide)).1.grown hg (fun cs fr e => by rw [hq'] at e; cases e)
  · exact fun x hx => (h4 x hx).grown hg (fun cs fr e => by rw [hq'] at e; cases e)
  · exact MapL.kept h5 hg (fun e => by cases e; omega)
end
/-! Which keys there are behind an entry. -/
theorem byL_snoc (es : List En) (x : En) : byL (es ++ [x]) = byL es ++ (if x.ref = -1 then [] else [(x.ref, (es.length : Int))]) := by
  unfold byL
  rw [List.zipIdx_append, List.filterMap_append]
  congr 1
  by_cases h : x.ref = -1
  · simp [h]
  · simp [h]
theorem byL_put {es : List En} {x : En} (h : x.ref ≠ -1) (hn : ∀ j (hj : j < es.length), es[j].ref ≠ x.ref) : putA (byL es) x.ref (es.length : Int) = byL (es ++ [x]) := by
  have hany : (byL es).any (fun p => decide (p.1 = x.ref)) = false := by
    rw [← getA_isSome, by_some h, List.any_eq_false]
    intro y hy
    obtain ⟨i, hi, rfl⟩ := List.getElem_of_mem hy
    simpa using hn i hi
  rw [byL_snoc, if_neg h]
  unfold putA
  rw [if_neg (by rw [hany]; simp)]
theorem postL_len {period seq : Int} : ∀ (r es : List En), (postL period seq es r).1 = 0 → (postL period seq es r).2.length = es.length + r.length
  | [], es, _ => by simp [postL]
  | x :: r, es, h => by
    unfold postL at h ⊢
    split at h
    · rename_i hc; exact absurd h hc
    · rename_i hc
      rw [if_neg hc, postL_len r _ h]
      simp
      omega
/-- What Post does. -/
def postE (sz lk : Int) (es : List En) (period seq : Int) (xs : List En) : Int :=
  if perE sz period ≠ 0 then perE sz period else if period < lk then 19 else if seq < 0 ∨ seq < lastSeq es then 24 else (postL period seq es xs).1
def postR (sz lk : Int) (es : List En) (period seq : Int) (xs : List En) : List En := if postE sz lk es period seq xs = 0 then (postL period seq es xs).2 else es
end Go.Proofs.YtckeaibamgkegaaGreatDoor
end
