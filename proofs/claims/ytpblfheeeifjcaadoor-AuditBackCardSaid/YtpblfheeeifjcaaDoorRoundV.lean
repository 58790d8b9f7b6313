/- A range over a function whose elements may lie in memory that the iterator has just made: what a round is handed holds in the round's world. -/
import Derived.Test.YtpblfheeeifjcaaDoorRound
set_option linter.all false
namespace Go.Proofs.YtpblfheeeifjcaaDoor
open Go.RowKit
set_option maxRecDepth 100000

section
variable {α : Type} {F : Fence} {n : Nat} {P : Program}
/-- What an iterator does whose elements hold something (V) of the world that they are handed in. -/
def SeqV (F : Fence) (n : Nat) (P : Program) (g : Nat) (lb : Array Value) (encs : α → Array Value) (Kp : World → World → Prop) (V : List α → α → World → Prop) (S : List α → Prop) (w0 : World) : Prop :=
  ∀ (l : Nat) (J : List α → World → Prop) (W : World), Later w0 W → AbidesFrom W.heap.size J →
    (∀ pre x U, J pre U → V pre x U → YieldAt F (n - 1) P l (encs x) U fun e U' => e = .returned (.bool true) ∧ J (pre ++ [x]) U' ∧ Kp U U') →
    J [] W → CallsIn F n P g (#[.func (.yield l) #[] #[]] ++ lb) W fun e U => (∃ v, e = .returned v) ∧ ∃ ys, S ys ∧ J ys U

/-- The record of a loop over an iterator. -/
def recV (fn : FuncId) (tmps : Array Value) (ps : Array Tmp) (assign body : Code) (D : Nat) (st : LoopState) : Loop := { state := st, pending := none, fn, tmps, params := ps, assign, body, defers := D }
/-- The two blocks that a loop keeps. -/
def BookV (D : Nat) (r : Loop) (W : World) : Prop := W.heap[D + 1]? = some (.loop r) ∧ W.heap[D]? = some (.deferred (some []))
theorem BookV.lt {D : Nat} {r : Loop} {W : World} (h : BookV D r W) : D + 1 < W.heap.size := (Array.getElem?_eq_some_iff.1 h.1).1
theorem BookV.others {D : Nat} {r : Loop} {W W' : World} (h : BookV D r W) (k : KeepsOthers W W') : BookV D r W' := ⟨k.same _ _ h.1 rfl, k.same _ _ h.2 rfl⟩
theorem BookV.put {D : Nat} {r : Loop} {W : World} (h : BookV D r W) (r' : Loop) : BookV D r' (W.putObj (D + 1) (.loop r')) := ⟨World.putObj_heap_same h.lt, (World.putObj_heap_other (by omega)).trans h.2⟩
theorem BookV.abides (D : Nat) (r : Loop) (B : Nat) : AbidesFrom B (fun (_ : List α) W => BookV D r W) := fun _ _ _ _ hs hg hr =>
  ⟨(grownBy_keeps hg (fun k e => (hr k e).2) hs.1 rfl).trans hs.1, (grownBy_keeps hg (fun k e => (hr k e).2) hs.2 rfl).trans hs.2⟩
/-- How a round ends: it goes on. -/
def onPost (K : World → Prop) : Exit → Act → World → Prop
  | .normal, _, W => K W
  | _, _, _ => False
@[go_sem] theorem onPost_normal (K : World → Prop) (a : Act) (W : World) : onPost K .normal a W = K W := rfl

theorem wpIn_range_V {g : Operand} {ps : Array Tmp} {assign body : Code} {Q : Exit → Act → World → Prop} {a : Act} {w : World}
    (hro : F.round = none) (h1 : 1 ≤ n) {gf : Nat} {lb : Array Value} (hg : a.eval g = .func (.func gf) #[] lb) (hFg : F.fn gf) (eg : ∀ args w, (callFunc gf args).run P w = .ok (.enter gf args) w)
    {encs : α → Array Value} {Kp : World → World → Prop} {V : List α → α → World → Prop} {S : List α → Prop} (hseq : SeqV F (n - 1) P gf lb encs Kp V S w)
    (hKt : ∀ {A B C : World}, Kp A B → Kp B C → Kp A C) (hKb : ∀ (W : World) (o o' : Obj), W.heap[w.heap.size + 1]? = some o → o.isCells = false → o.isWalk = false → Kp W (W.putObj (w.heap.size + 1) o')) (hps : ∀ x, (encs x).size = ps.size)
    (I : List α → World → Prop) (hI : OwnFrom w.heap.size I) (h0 : I [] w) (Z : List α → α → Act → World → Prop) (hZ : ∀ pre x a', OwnFrom w.heap.size (fun (_ : Unit) W => Z pre x a' W))
    (hassign : ∀ (l : Nat) (pre : List α) (x : α) (W : World) (K : Act → World → Prop), I pre W → V pre x W → (∀ a' W', KeepsOthers W W' → Kp W W' → Z pre x a' W' → K a' W') →
      assign.wpIn (F.inRound l) (n - 1 - 1) P (Exit.then K (fun _ _ _ => False)) { tmps := (ps.zip (encs x)).foldl (fun t (p, v) => t.setIfInBounds p v) a.tmps, defers := [] } W)
    (hbody : ∀ (l : Nat) (pre : List α) (x : α) (a' : Act) (W : World), Z pre x a' W → body.wpIn (F.inRound l) (n - 1 - 1) P (onPost fun W' => KeepsOthers W W' ∧ Kp W W' ∧ I (pre ++ [x]) W') a' W)
    (hdone : ∀ (D : Nat) (xs : List α) (W : World), w.heap.size ≤ D → S xs → I xs W → W.heap[D]? = some (.deferred (some [])) → Q .normal { a with defers := mark D :: a.defers } W) :
    (Code.rangeFunc g ps assign body).wpIn F n P Q a w := by
  refine wpIn_rangeFunc (fun fn hfn => ?_)
  rw [hro]
  obtain ⟨r0, hr0⟩ : ∃ r, recV fn a.tmps ps assign body w.heap.size .ready = r := ⟨_, rfl⟩
  obtain ⟨r1, hr1⟩ : ∃ r, recV fn a.tmps ps assign body w.heap.size .busy = r := ⟨_, rfl⟩
  have e01 : ({ r0 with state := .busy } : Loop) = r1 := by rw [← hr0, ← hr1]; rfl
  have e10 : ({ r1 with state := if (none : Option Code).isNone then .ready else .done, pending := none } : Loop) = r0 := by rw [← hr0, ← hr1]; rfl
  obtain ⟨W1, hW1⟩ : ∃ W, (w.alloc (.deferred (some []))).alloc (.loop r0) = W := ⟨_, rfl⟩
  have hbk : BookV w.heap.size r0 W1 := by
    refine ⟨?_, ?_⟩
    · have h := World.alloc_heap_new (w.alloc (.deferred (some []))) (.loop r0)
      rw [World.size_alloc, hW1] at h
      exact h
    · rw [← hW1]; exact (Below.heap_alloc _ _ _ (by simp)).trans (World.alloc_heap_new w _)
  have hl1 : Later w W1 := by rw [← hW1]; exact ((Later.refl w).alloc _).alloc _
  have hi1 : I [] W1 := by rw [← hW1]; exact hI.alloc _ (hI.alloc _ h0)
  have hsz : w.heap.size ≤ W1.heap.size := Later.size hl1
  refine ⟨w.heap.size + 1, [mark w.heap.size], W1, { target := .fn (.func gf) lb, args := #[.func (.yield (w.heap.size + 1)) #[] #[]] }, W1, gf, #[.func (.yield (w.heap.size + 1)) #[] #[]] ++ lb, W1, ?_, ?_, ?_, ?_, fun _ => h1, ?_⟩
  · rw [← hW1, ← hr0]; exact run_enterLoop_outer _ _ _ _ _
  · simp only [resolve, hg]; simp [go_sem]
  · intro f' hf'; simp [Target.leads] at hf'; subst hf'; exact hFg
  · simp [invoke, go_sem, eg]
  have hJ : AbidesFrom W1.heap.size (fun (pre : List α) W => I pre W ∧ BookV w.heap.size r0 W) := fun s A B row hs hgr hr =>
    ⟨hI s A B row hs.1 hgr (fun k e => by
      obtain ⟨hk, o, ho, hw⟩ := hr k e
      exact ⟨by omega, o, ho, Obj.not_cells_of_walk hw⟩), BookV.abides (α := α) _ _ _ s A B row hs.2 hgr hr⟩
  refine (hseq (w.heap.size + 1) _ W1 hl1 hJ ?_ ⟨hi1, hbk⟩).mono ?_
  · rintro pre x W ⟨hi, hb⟩ hv
    have hy := run_yield (P := P) (args := encs x) hb.1 (by rw [← hr0]; exact hps x)
    refine ⟨_, _, _, _, hy, roundIn_of_wpIn (by rw [← hr0]; exact hfn) ?_⟩
    rw [← hr0]
    refine hassign _ pre x W _ hi hv (fun a' W' hk hp hz => ?_)
    have hb' := hb.others hk
    refine ⟨_, run_beginRound hb'.1 (by rw [← hr0]; rfl), ?_⟩
    rw [e01]
    have hb2 := hb'.put r1
    have hz2 := (hZ pre x a').putObj (s := ()) (.loop r1) hz (by omega) hb'.1 rfl
    refine wpIn_mono (hbody _ pre x a' _ hz2) ?_
    intro e a3 W3 h3
    cases e with
    | normal =>
      obtain ⟨k3, p3, i3⟩ := h3
      have hb3 := hb2.others k3
      have hend := run_endRound (P := P) none hb3.1
      rw [e10] at hend
      refine ⟨_, _, hend, rfl, ⟨hI.putObj _ i3 (by omega) hb3.1 rfl, (by rw [hr0]; exact hb3.put r0)⟩, hKt hp (hKt (hKb _ _ _ hb'.1 rfl rfl) (hKt p3 (hKb _ _ _ hb3.1 rfl rfl)))⟩
    | _ => exact h3.elim
  · rintro e W2 ⟨⟨v, rfl⟩, xs, hS, hi, hb⟩
    have hp : r0.pending = none := by rw [← hr0]; rfl
    have hend := run_endLoop (P := P) hb.1 (by rw [← hr0]; simp [recV])
    rw [hp] at hend
    exact ⟨none, _, hend, hdone _ xs _ (Nat.le_refl _) hS (hI.putObj _ hi (by omega) hb.1 rfl) (hb.put _).2⟩
end
end Go.Proofs.YtpblfheeeifjcaaDoor
