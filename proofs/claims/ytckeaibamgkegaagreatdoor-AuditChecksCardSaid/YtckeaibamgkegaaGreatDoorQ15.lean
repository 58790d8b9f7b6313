/- rows that a round puts behind others: words -/
import Derived.Test.YtckeaibamgkegaaGreatDoorQ3
import Derived.RangeFuncNested
import Derived.RangeFuncBound
import Derived.RangeFuncCalls
import Derived.RangeFuncLeaves
import Derived.Shelf.Abstract
import Derived.Shelf.RegionOpen
import Derived.OwnWalkIn
import Derived.TacticsInMore
import Derived.LoopNIn
import Derived.LoopIn
import Derived.Test.YtckeaibamgkegaaGreatDoorQ14
set_option linter.all false
set_option linter.all false
section
/- Rounds of a range over a function: a drawn region within one by a plan; what the rounds keep. -/
namespace Go.Proofs.YtckeaibamgkegaaGreatDoor
open Go.RowKit
set_option maxRecDepth 100000

/-- No operation defers. -/
def noDefer (ops : Array Oper) : Bool := ops.all (fun o => match o.op with | .defer _ => false | _ => true)
theorem noDefer_spec {ops : Array Oper} (h : noDefer ops = true) {i : Nat} {o : Oper} (ho : ops[i]? = some o) : ∀ c, o.op ≠ .defer c := by
  intro c hc
  obtain ⟨hi, rfl⟩ := Array.getElem?_eq_some_iff.1 ho
  have := Array.all_eq_true.1 h i hi
  rw [hc] at this
  cases this

section
variable {P : Program} {ops : Array Oper} {Q : Exit → Act → World → Prop} {md : Region.Mode} {l n : Nat}

/-- What an operation does by itself it does within a round. -/
theorem oper_in_round {o : Oper} {a : Act} {w : World} {K : Act → World → Prop} (hd : ∀ c, o.op ≠ .defer c) (h : o.wp P a w K Q) : o.wpIn (Fence.wide.inRound l) n P a w K Q := by
  unfold Oper.wpIn
  refine ⟨fun _ _ => trivial, ?_⟩
  show o.uponIn (Fence.wide.inRound l) n P a K Q ((o.semAt (some l) a.eval).run P w)
  rw [Oper.semAt_some l a.eval o hd]
  unfold Oper.wp at h
  generalize (execOp a.eval o).run P w = r at *
  cases r with
  | ok x w' =>
    cases x with
    | value v => exact h
    | skip => exact h
    | defer d => exact h
    | enter f args => exact ⟨fun hh => (by cases hh), CallsIn.inRound l (callsIn_wide.2 (Calls.mono h (fun e w'' he => by cases e <;> exact he)))⟩
    | row row args => exact ⟨fun hh => (by cases hh), fun c cs _ => let ⟨v, w', r, s⟩ := h c cs; ⟨v, w', r, stepsIn_wide.2 s⟩⟩
    | _ => exact h.elim
  | halt x w' =>
    cases x with
    | panic v => exact h
    | _ => exact h.elim

theorem wpOp_in_round {i : Nat} {a : Act} {w : World} {K K' : Act → World → Prop} (hd : noDefer ops = true) (hQ : ¬ LetsOut Q) (hK : ∀ a w, K a w → K' a w) (h : wpOp P ops Q i K a w) : wpOpIn (Fence.wide.inRound l) n P ops Q i K' a w := by
  unfold wpOp at h
  unfold wpOpIn
  split at h
  · rename_i ho; simp only [ho]; exact hK _ _ h
  · rename_i o ho
    simp only [ho]
    split at h
    · rename_i hw
      rw [if_pos hw]
      rcases h with h | ⟨_, h2⟩
      · exact oper_in_round (noDefer_spec hd ho) (Oper.wp_mono hK h)
      · exact absurd h2 hQ
    · rename_i hw
      rw [if_neg hw]
      exact ⟨fun _ _ => trivial, hK _ _ h⟩

theorem wpAny_in_round (hd : noDefer ops = true) (hQ : ¬ LetsOut Q) : ∀ (fuel : Nat) (listed : Array Bool) (a : Act) (w : World), wpAny P md ops Q fuel listed a w → wpAnyIn (Fence.wide.inRound l) n P md ops Q fuel listed a w
  | 0, _, _, _, h => h
  | fuel + 1, listed, _, _, h => ⟨h.1, fun i hi => wpOp_in_round hd hQ (fun a w h' => wpAny_in_round hd hQ fuel _ a w h') (h.2 i hi)⟩

/-- A region that asks the tape, within a round, by a plan of ours. -/
theorem wpIn_region_plan {id : Nat} {a : Act} {w : World} (t : Nat) (p : Plan) (hm : P.follows .mixedOrders = true)
    (hB : (noDefer ops && (Region.noSelect ops && p.has ops.size && okPlan .any ops t p (Array.replicate ops.size false))) = true) (hQo : ¬ LetsOut Q)
    (hQ : ∀ c a d v w, Q (.panic c) (Act.put a d v) w → Q (.panic c) a w) (h : wpPlan P ops t Q p a w.drew) : (Code.region id ops true).wpIn (Fence.wide.inRound l) n P Q a w := by
  simp only [Bool.and_eq_true] at hB
  obtain ⟨hd, ⟨hs, hn⟩, hb⟩ := hB
  exact wpIn_region_any hm (wpAny_in_round hd hQo _ _ _ _ (wpAny_of_T (C := Later w.drew) (t := t) _ _ _ _ (run_plan hs hQ p _ _ a _ hn hb h)))

theorem wpList_in_round (hQ : ¬ LetsOut Q) : ∀ (r : List Oper) (a : Act) (w : World), noDefer r.toArray = true → wpList P ops Q r a w → wpListIn (Fence.wide.inRound l) n P ops Q r a w
  | [], _, _, _, h => h
  | o :: r, a, w, hd, h => by
    have hd0 : ∀ c, o.op ≠ .defer c := noDefer_spec hd (i := 0) (by simp)
    have hd1 : noDefer r.toArray = true := by
      unfold noDefer at hd ⊢
      simp only [List.all_toArray, List.all_cons, Bool.and_eq_true] at hd ⊢
      exact hd.2
    simp only [wpList] at h
    simp only [wpListIn]
    split
    · rename_i hw
      simp only [hw, if_true] at h
      rcases h with h | ⟨_, h2⟩
      · exact oper_in_round hd0 (Oper.wp_mono (fun a w h' => wpList_in_round hQ r a w hd1 h') h)
      · exact absurd h2 hQ
    · rename_i hw
      simp only [hw] at h
      exact ⟨fun _ _ => trivial, wpList_in_round hQ r _ w hd1 h⟩
end

/-- What a round keeps for an iterator: what lay below n₀, and some blocks. -/
def Kb (n₀ : Nat) (bs : List Nat) (W W' : World) : Prop := Below n₀ W W' ∧ ∀ b ∈ bs, ∀ i, W'.cell? ⟨b, i, none⟩ = W.cell? ⟨b, i, none⟩
theorem Kb.refl (n₀ : Nat) (bs : List Nat) (W : World) : Kb n₀ bs W W := ⟨Below.refl _ _, fun _ _ _ => rfl⟩
theorem kb_t {n₀ : Nat} {bs : List Nat} {A B C : World} (h : Kb n₀ bs A B) (k : Kb n₀ bs B C) : Kb n₀ bs A C := ⟨h.1.trans k.1, fun b hb i => (k.2 b hb i).trans (h.2 b hb i)⟩
theorem kb_b {n₀ : Nat} {bs : List Nat} {w : World} (hn : n₀ ≤ w.heap.size) (hbs : ∀ b ∈ bs, b < w.heap.size) (W : World) (l : Nat) (o o' : Obj) (hl : w.heap.size ≤ l) (h : W.heap[l]? = some o) (h1 : o.isCells = false) (h2 : o.isWalk = false) : Kb n₀ bs W (W.putObj l o') :=
  ⟨belowK_b hn W l o o' hl h h1 h2, fun b hb i => by
    have h4 : (W.putObj l o').heap[b]? = W.heap[b]? := World.putObj_heap_other (by have := hbs b hb; omega)
    unfold World.cell?
    simp only [h4]⟩
theorem Later.grownBy {W W' : World} (hb : Later W W') : W.grownBy W' none := ⟨hb.os, hb.tape, hb.output, hb.size, fun k hk _ => hb.block k hk⟩
theorem abides_later {β : Type} {B : Nat} {J : β → World → Prop} (h : AbidesFrom B J) {s : β} {W W' : World} (hs : J s W) (hb : Later W W') : J s W' := h s W W' none hs hb.grownBy (fun r e => by cases e)
theorem own_later {β : Type} {B : Nat} {J : β → World → Prop} (h : OwnFrom B J) {s : β} {W W' : World} (hs : J s W) (hb : Later W W') : J s W' := h s W W' none hs hb.grownBy (fun r e => by cases e)
theorem cell_other {w : World} {b c : Nat} {i j : Nat} (h : b ≠ c) (x : Value) : (w.setCell ⟨c, j, none⟩ x).cell? ⟨b, i, none⟩ = w.cell? ⟨b, i, none⟩ := World.cell?_setCell_other _ _ _ _ (fun e => h (by cases e; rfl))
theorem keepsOthers_later {W W' : World} (hb : Later W W') : KeepsOthers W W' := ⟨Below.size hb, fun k o hk _ => (hb.block k (Array.getElem?_eq_some_iff.1 hk).1).trans hk⟩
/-- A piece that goes on, and does nothing else. -/
def calmPost (K : Act → World → Prop) : Exit → Act → World → Prop
  | .normal, a, w => K a w
  | _, _, _ => False
@[go_sem] theorem calmPost_normal (K : Act → World → Prop) (a : Act) (w : World) : calmPost K .normal a w = K a w := rfl
theorem calm_intro {K : Act → World → Prop} {a : Act} {w : World} (h : K a w) : calmPost K .normal a w := h
theorem wp_calm {P : Program} {c : Code} {K : Act → World → Prop} {Q : Exit → Act → World → Prop} {a : Act} {w : World} (h : c.wp P (calmPost K) a w) : c.wp P (Exit.then K Q) a w :=
  wp_mono h (fun e a w he => by cases e <;> first | exact he | exact he.elim)
theorem wpIn_calm {F : Fence} {n : Nat} {P : Program} {c : Code} {K : Act → World → Prop} {Q : Exit → Act → World → Prop} {a : Act} {w : World} (h : c.wpIn F n P (calmPost K) a w) : c.wpIn F n P (Exit.then K Q) a w :=
  wpIn_mono h (fun e a w he => by cases e <;> first | exact he | exact he.elim)
theorem below_later {n₀ : Nat} {a b c : World} (h : Below n₀ a b) (hn : n₀ ≤ b.heap.size) (k : Later b c) : Below n₀ a c := h.trans (Below.mono k hn)

/-- The mark of a range over a function that is over. -/
def mark (D : Nat) : Deferred := { target := .collected D, args := #[] }
/-- Marks, each of a block of its own. -/
def Marks (lo : Nat) (Ds : List Nat) (W : World) : Prop := Ds.Nodup ∧ ∀ D ∈ Ds, lo ≤ D ∧ W.heap[D]? = some (.deferred (some []))
theorem Marks.nil (lo : Nat) (W : World) : Marks lo [] W := ⟨List.nodup_nil, fun _ h => by cases h⟩
theorem Marks.lt {lo : Nat} {Ds : List Nat} {W : World} (h : Marks lo Ds W) {D : Nat} (hD : D ∈ Ds) : D < W.heap.size := (Array.getElem?_eq_some_iff.1 (h.2 D hD).2).1
theorem Marks.others {lo : Nat} {Ds : List Nat} {W W' : World} (h : Marks lo Ds W) (hk : KeepsOthers W W') : Marks lo Ds W' := ⟨h.1, fun D hD => ⟨(h.2 D hD).1, hk.same D _ (h.2 D hD).2 rfl⟩⟩
theorem Marks.later {lo : Nat} {Ds : List Nat} {W W' : World} (h : Marks lo Ds W) (hb : Later W W') : Marks lo Ds W' := h.others (keepsOthers_later hb)
theorem Marks.cons {lo : Nat} {Ds : List Nat} {Ws W : World} (h0 : Marks lo Ds Ws) (h : Marks lo Ds W) {D : Nat} (hlo : lo ≤ D) (hD : Ws.heap.size ≤ D) (hK : W.heap[D]? = some (.deferred (some []))) : Marks lo (D :: Ds) W :=
  ⟨List.nodup_cons.2 ⟨fun hm => by have := h0.lt hm; omega, h.1⟩, fun E hE => by
    rcases List.mem_cons.1 hE with rfl | hE
    · exact ⟨hlo, hK⟩
    · exact h.2 E hE⟩
theorem marks_own {β : Type} {lo : Nat} {Ds : List Nat} {Ws : World} (h0 : Marks lo Ds Ws) : OwnFrom Ws.heap.size (fun (_ : β) W => Marks lo Ds W) := fun _ W W' row hs hg hr =>
  ⟨hs.1, fun D hD => ⟨(hs.2 D hD).1, (hg.block D (hs.lt hD) (fun e => by have := (hr D e.symm).1; have := h0.lt hD; omega)).trans (hs.2 D hD).2⟩⟩
theorem leaves_marks {F : Fence} {n : Nat} {P : Program} {fn : Func} {tmps : Array Value} {R : Ending → World → Prop} {lo : Nat} : ∀ (Ds : List Nat) (W : World), Marks lo Ds W →
    (∀ W', (∀ a v, W.cell? a = some v → W'.cell? a = some v) → Below lo W W' → LeavesIn F n P fn tmps R [] .returning W') → LeavesInM F n P fn tmps R (Ds.map mark) .returning W
  | [], W, _, h => h W (fun _ _ h => h) (Below.refl _ _)
  | D :: Ds, W, hM, h => by
    have hK := (hM.2 D (by simp)).2
    have hlo := (hM.2 D (by simp)).1
    have hlt := hM.lt (D := D) (by simp)
    have hnd := List.nodup_cons.1 hM.1
    refine ⟨by simp, .inl ⟨D, W.putObj D (.deferred none), rfl, run_takeDeferred hK, leaves_marks (lo := lo) Ds _ ⟨hnd.2, fun E hE => ⟨(hM.2 E (by simp [hE])).1, (World.putObj_heap_other (r := D) (k := E) (fun e => hnd.1 (by rw [← e]; exact hE))).trans (hM.2 E (by simp [hE])).2⟩⟩ ?_⟩⟩
    intro W' hc hb
    refine h W' (fun a v ha => hc a v (cell_kept ha (grownBy_putObj' _ D (.deferred none)) (fun r e => by cases e; exact ⟨_, hK, rfl⟩))) ?_
    have hb1 : Below lo W (W.putObj D (.deferred none)) := (Below.refl lo W).grown (grownBy_putObj' W D _) (by omega) (fun k e => by cases e; omega)
    exact hb1.trans hb
end Go.Proofs.YtckeaibamgkegaaGreatDoor
end
section
/- A range over a function whose elements may lie in memory that the iterator has just made: what a round is handed holds in the round's world. -/
namespace Go.Proofs.YtckeaibamgkegaaGreatDoor
open Go.RowKit
set_option maxRecDepth 100000

section
variable {α : Type} {F : Fence} {n : Nat} {P : Program}
/-- What an iterator does whose elements hold something (V) of the world that they are handed in. -/
def SeqV (F : Fence) (n : Nat) (P : Program) (g : Nat) (lb : Array Value) (encs : α → Array Value) (Kp : World → World → Prop) (V : List α → α → World → Prop) (S : List α → Prop) (w0 : World) : Prop :=
  ∀ (l : Nat) (J : List α → World → Prop) (W : World), Later w0 W → AbidesFrom W.heap.size J →
    (∀ pre x U, J pre U → V pre x U → YieldAt F (n - 1) P l (encs x) U fun e U' => e = .returned (.bool true) ∧ J (pre ++ [x]) U' ∧ Kp U U') →
    J [] W → CallsIn F n P g (#[.func (.yield l) #[] #[]] ++ lb) W fun e U => (∃ v, e = .returned v) ∧ ∃ ys, S ys ∧ J ys U

/-- The record of a loop over an iterator. -/
def recV (fn : FuncId) (tmps : Array Value) (ps : Array Tmp) (assign body : Code) (D : Nat) (st : LoopState) : Loop := { state := st, pending := none, fn, tmps, params := ps, assign, body, defers := D }
/-- The two blocks that a loop keeps. -/
def BookV (D : Nat) (r : Loop) (W : World) : Prop := W.heap[D + 1]? = some (.loop r) ∧ W.heap[D]? = some (.deferred (some []))
theorem BookV.lt {D : Nat} {r : Loop} {W : World} (h : BookV D r W) : D + 1 < W.heap.size := (Array.getElem?_eq_some_iff.1 h.1).1
theorem BookV.others {D : Nat} {r : Loop} {W W' : World} (h : BookV D r W) (k : KeepsOthers W W') : BookV D r W' := ⟨k.same _ _ h.1 rfl, k.same _ _ h.2 rfl⟩
theorem BookV.put {D : Nat} {r : Loop} {W : World} (h : BookV D r W) (r' : Loop) : BookV D r' (W.putObj (D + 1) (.loop r')) := ⟨World.putObj_heap_same h.lt, (World.putObj_heap_other (by omega)).trans h.2⟩
theorem BookV.abides (D : Nat) (r : Loop) (B : Nat) : AbidesFrom B (fun (_ : List α) W => BookV D r W) := fun _ _ _ _ hs hg hr =>
  ⟨(grownBy_keeps hg (fun k e => (hr k e).2) hs.1 rfl).trans hs.1, (grownBy_keeps hg (fun k e => (hr k e).2) hs.2 rfl).trans hs.2⟩
/-- How a round ends: it goes on. -/
def onPost (K : World → Prop) : Exit → Act → World → Prop
  | .normal, _, W => K W
  | _, _, _ => False
@[go_sem] theorem onPost_normal (K : World → Prop) (a : Act) (W : World) : onPost K .normal a W = K W := rfl

theorem wpIn_range_V {g : Operand} {ps : Array Tmp} {assign body : Code} {Q : Exit → Act → World → Prop} {a : Act} {w : World}
    (hro : F.round = none) (h1 : 1 ≤ n) {gf : Nat} {lb : Array Value} (hg : a.eval g = .func (.func gf) #[] lb) (hFg : F.fn gf) (eg : ∀ args w, (callFunc gf args).run P w = .ok (.enter gf args) w)
    {encs : α → Array Value} {Kp : World → World → Prop} {V : List α → α → World → Prop} {S : List α → Prop} (hseq : SeqV F (n - 1) P gf lb encs Kp V S w)
    (hKt : ∀ {A B C : World}, Kp A B → Kp B C → Kp A C) (hKb : ∀ (W : World) (o o' : Obj), W.heap[w.heap.size + 1]? = some o → o.isCells = false → o.isWalk = false → Kp W (W.putObj (w.heap.size + 1) o')) (hps : ∀ x, (encs x).size = ps.size)
    (I : List α → World → Prop) (hI : OwnFrom w.heap.size I) (h0 : I [] w) (Z : List α → α → Act → World → Prop) (hZ : ∀ pre x a', OwnFrom w.heap.size (fun (_ : Unit) W => Z pre x a' W))
    (hassign : ∀ (l : Nat) (pre : List α) (x : α) (W : World) (K : Act → World → Prop), I pre W → V pre x W → (∀ a' W', KeepsOthers W W' → Kp W W' → Z pre x a' W' → K a' W') →
      assign.wpIn (F.inRound l) (n - 1 - 1) P (Exit.then K (fun _ _ _ => False)) { tmps := (ps.zip (encs x)).foldl (fun t (p, v) => t.setIfInBounds p v) a.tmps, defers := [] } W)
    (hbody : ∀ (l : Nat) (pre : List α) (x : α) (a' : Act) (W : World), Z pre x a' W → body.wpIn (F.inRound l) (n - 1 - 1) P (onPost fun W' => KeepsOthers W W' ∧ Kp W W' ∧ I (pre ++ [x]) W') a' W)
    (hdone : ∀ (D : Nat) (xs : List α) (W : World), w.heap.size ≤ D → S xs → I xs W → W.heap[D]? = some (.deferred (some [])) → Q .normal { a with defers := mark D :: a.defers } W) :
    (Code.rangeFunc g ps assign body).wpIn F n P Q a w := by
  refine wpIn_rangeFunc (fun fn hfn => ?_)
  rw [hro]
  obtain ⟨r0, hr0⟩ : ∃ r, recV fn a.tmps ps assign body w.heap.size .ready = r := ⟨_, rfl⟩
  obtain ⟨r1, hr1⟩ : ∃ r, recV fn a.tmps ps assign body w.heap.size .busy = r := ⟨_, rfl⟩
  have e01 : ({ r0 with state := .busy } : Loop) = r1 := by rw [← hr0, ← hr1]; rfl
  have e10 : ({ r1 with state := if (none : Option Code).isNone then .ready else .done, pending := none } : Loop) = r0 := by rw [← hr0, ← hr1]; rfl
  obtain ⟨W1, hW1⟩ : ∃ W, (w.alloc (.deferred (some []))).alloc (.loop r0) = W := ⟨_, rfl⟩
  have hbk : BookV w.heap.size r0 W1 := by
    refine ⟨?_, ?_⟩
    · have h := World.alloc_heap_new (w.alloc (.deferred (some []))) (.loop r0)
      rw [World.size_alloc, hW1] at h
      exact h
    · rw [← hW1]; exact (Below.heap_alloc _ _ _ (by simp)).trans (World.alloc_heap_new w _)
  have hl1 : Later w W1 := by rw [← hW1]; exact ((Later.refl w).alloc _).alloc _
  have hi1 : I [] W1 := by rw [← hW1]; exact hI.alloc _ (hI.alloc _ h0)
  have hsz : w.heap.size ≤ W1.heap.size := Later.size hl1
  refine ⟨w.heap.size + 1, [mark w.heap.size], W1, { target := .fn (.func gf) lb, args := #[.func (.yield (w.heap.size + 1)) #[] #[]] }, W1, gf, #[.func (.yield (w.heap.size + 1)) #[] #[]] ++ lb, W1, ?_, ?_, ?_, ?_, fun _ => h1, ?_⟩
  · rw [← hW1, ← hr0]; exact run_enterLoop_outer _ _ _ _ _
  · simp only [resolve, hg]; simp [go_sem]
  · intro f' hf'; simp [Target.leads] at hf'; subst hf'; exact hFg
  · simp [invoke, go_sem, eg]
  have hJ : AbidesFrom W1.heap.size (fun (pre : List α) W => I pre W ∧ BookV w.heap.size r0 W) := fun s A B row hs hgr hr =>
    ⟨hI s A B row hs.1 hgr (fun k e => by
      obtain ⟨hk, o, ho, hw⟩ := hr k e
      exact ⟨by omega, o, ho, Obj.not_cells_of_walk hw⟩), BookV.abides (α := α) _ _ _ s A B row hs.2 hgr hr⟩
  refine (hseq (w.heap.size + 1) _ W1 hl1 hJ ?_ ⟨hi1, hbk⟩).mono ?_
  · rintro pre x W ⟨hi, hb⟩ hv
    have hy := run_yield (P := P) (args := encs x) hb.1 (by rw [← hr0]; exact hps x)
    refine ⟨_, _, _, _, hy, roundIn_of_wpIn (by rw [← hr0]; exact hfn) ?_⟩
    rw [← hr0]
    refine hassign _ pre x W _ hi hv (fun a' W' hk hp hz => ?_)
    have hb' := hb.others hk
    refine ⟨_, run_beginRound hb'.1 (by rw [← hr0]; rfl), ?_⟩
    rw [e01]
    have hb2 := hb'.put r1
    have hz2 := (hZ pre x a').putObj (s := ()) (.loop r1) hz (by omega) hb'.1 rfl
    refine wpIn_mono (hbody _ pre x a' _ hz2) ?_
    intro e a3 W3 h3
    cases e with
    | normal =>
      obtain ⟨k3, p3, i3⟩ := h3
      have hb3 := hb2.others k3
      have hend := run_endRound (P := P) none hb3.1
      rw [e10] at hend
      refine ⟨_, _, hend, rfl, ⟨hI.putObj _ i3 (by omega) hb3.1 rfl, (by rw [hr0]; exact hb3.put r0)⟩, hKt hp (hKt (hKb _ _ _ hb'.1 rfl rfl) (hKt p3 (hKb _ _ _ hb3.1 rfl rfl)))⟩
    | _ => exact h3.elim
  · rintro e W2 ⟨⟨v, rfl⟩, xs, hS, hi, hb⟩
    have hp : r0.pending = none := by rw [← hr0]; rfl
    have hend := run_endLoop (P := P) hb.1 (by rw [← hr0]; simp [recV])
    rw [hp] at hend
    exact ⟨none, _, hend, hdone _ xs _ (Nat.le_refl _) hS (hI.putObj _ hi (by omega) hb.1 rfl) (hb.put _).2⟩
end
end Go.Proofs.YtckeaibamgkegaaGreatDoor
end
section
/- ledger.All: the iterator over books -/
namespace Go.Proofs.YtckeaibamgkegaaGreatDoor
open Go.RowKit
set_option maxRecDepth 100000
attribute [local go_sem] Oper.semAt_some

/-- What a round keeps: all that lay below N, but for one block. -/
structure Kq (N b : Nat) (U U' : World) : Prop where
  os : U'.os = U.os
  tape : U'.tape = U.tape
  output : U'.output = U.output
  size : U.heap.size ≤ U'.heap.size
  block : ∀ k, k < N → k ≠ b → U'.heap[k]? = U.heap[k]?
theorem Kq.trans {N b : Nat} {A B C : World} (h : Kq N b A B) (k : Kq N b B C) : Kq N b A C :=
  ⟨k.os.trans h.os, k.tape.trans h.tape, k.output.trans h.output, Nat.le_trans h.size k.size, fun i hi hb => (k.block i hi hb).trans (h.block i hi hb)⟩
theorem Kq.later {N b : Nat} {A B : World} (hN : N ≤ A.heap.size) (h : Later A B) : Kq N b A B := ⟨h.os, h.tape, h.output, h.size, fun k hk _ => h.block k (Nat.lt_of_lt_of_le hk hN)⟩
theorem Kq.grown {b : Nat} {A B C : World} (h : A.grownBy B (some b)) (k : Kq A.heap.size b B C) : A.grownBy C (some b) :=
  ⟨k.os.trans h.os, k.tape.trans h.tape, k.output.trans h.output, Nat.le_trans h.size k.size, fun i hi hb => (k.block i hi (fun e => hb (by rw [e]))).trans (h.block i hi hb)⟩
theorem Kq.put {N b : Nat} (W : World) {l : Nat} (hl : N ≤ l) (o' : Obj) : Kq N b W (W.putObj l o') :=
  ⟨rfl, rfl, rfl, by simp [World.putObj], fun k hk _ => World.putObj_heap_other (by omega)⟩
theorem Led.grown {w w' : World} {q : Nat} {es : List En} (h : Led w q es) {b : Nat} (hg : w.grownBy w' (some b)) {cs : Array Value} {t : TypeId} {fr : Nat × Nat} (hb : w.heap[b]? = some (.cells cs t fr)) (h1 : t ≠ 84) (h2 : t ≠ 48) (h3 : t ≠ 92) : Led w' q es := by
  obtain ⟨v, m, hbk, hrow, hby⟩ := h
  refine ⟨v, m, (hg.block q hbk.lt (fun e => ?_)).trans hbk, hrow.grown hg (fun cs fr e => ?_) (fun cs fr e => ?_), MapL.kept hby hg (fun e => ?_)⟩
  · cases e; unfold LedBk at hbk; rw [hb] at hbk; cases hbk; exact h1 rfl
  · rw [hb] at e; cases e; exact h3 rfl
  · rw [hb] at e; cases e; exact h2 rfl
  · cases e; obtain ⟨es, c, hm⟩ := NxAt.isMap hby; rw [hb] at hm; cases hm
/-- An element of All: which entry, and where its lines lie. -/
abbrev AllE (es : List En) : Type := Fin es.length × Value
def allArgs (es : List En) (x : AllE es) : Array Value := #[.int .i64 (x.1.1 : Int), .agg #[.int .i64 es[x.1].con, .int .i64 es[x.1].day, .int .i64 es[x.1].cur, .int .i64 es[x.1].seq, .int .i64 es[x.1].per, .int .i64 es[x.1].ref, x.2]]
def allV (es : List En) (pre : List (AllE es)) (x : AllE es) (W : World) : Prop := pre.map (·.1) ++ [x.1] <+: List.finRange es.length ∧ RowT 92 3 lnF W x.2 es[x.1].ls


set_option maxHeartbeats 2000000 in
theorem all_seq (es : List En) (hel : es.length ≤ 100000) (hew : ∀ y ∈ es, y.ok) (n Bc nb b : Nat) (w0 : World) (hL : Led w0 nb es) (hc : w0.cell? ⟨Bc, 0, none⟩ = some (.pointer (some ⟨nb, 0, none⟩))) (hbc : Bc ≠ b) {cs : Array Value} {t : TypeId} {fr : Nat × Nat} (hb : w0.heap[b]? = some (.cells cs t fr)) (h1 : t ≠ 84) (h2 : t ≠ 48) (h3 : t ≠ 92) :
    SeqV Fence.wide n Tryz.prog 66 #[.pointer (some ⟨Bc, 0, none⟩)] (allArgs es) (Kq w0.heap.size b) (allV es) (fun ys => ys.map (·.1) = List.finRange es.length) w0 := by
  intro ll J W hW hJ hY h0
  have HJ := Lib.hid hJ
  have HY := Lib.hid hY
  have hBc := World.block_lt_of_cell? _ _ hc
  have HLG := Lib.hid (fun W (hg : w0.grownBy W (some b)) => hL.grown hg hb h1 h2 h3)
  have HCG := Lib.hid (fun W (hg : w0.grownBy W (some b)) => (World.cell?_of_block (a := ⟨Bc, 0, none⟩) (hg.block Bc hBc (fun e => hbc (by cases e; rfl)))).trans hc)
  have HLEN := Lib.hid (fun W (h : Led W nb es) => len_any nb es hel W h)
  have HENT := Lib.hid (fun (j : Nat) (hj : j < es.length) W (h : Led W nb es) => entry_any j es[j] nb es hel W h (List.getElem?_eq_getElem hj) (hew _ (List.getElem_mem hj)).2.2.2.2.2.2.2)
  have hG : w0.grownBy W (some b) := grown_later hW _
  have hLW := Lib.hid (HLG.out W hG)
  have hcW := HCG.out W hG
  have hzW := World.block_lt_of_cell? _ _ hcW
  clear hJ hY hL hc h1 h2 h3
  refine callsIn_of_wp Tryz.func66 rfl trivial ?_ rfl
  simp only [Tryz.ntmps66, List.size_toArray, List.length_cons, List.length_nil, Nat.reduceAdd, Nat.reduceSub, Array.replicate_succ, Array.replicate_zero, List.push_toArray, List.append_toArray, List.nil_append, List.cons_append]
  gi_wp2_with ((first | (refine ⟨trivial, ?_⟩; gi_at_call 42) | (refine ⟨trivial, fun hh => (by cases hh), ?_⟩; gi_at_call 42)); go_must (refine (callsIn_wide.2 (HLEN.out _ hLW.out)).mono ?_; rintro e w1 ⟨rfl, hb1⟩))
  have hG1 := Lib.hid (grown_trans hG (grown_later hb1 _))
  have hJ1 := abides_later HJ.out h0 hb1
  clear hb1 h0 hLW hcW hzW hG hW
  gi_loopw [8] (fun s8 wr => ∃ j : Nat, j ≤ es.length ∧ s8 = .int .i64 j ∧ Hid (∃ pre, pre.map (·.1) = (List.finRange es.length).take j ∧ J pre wr) ∧ Hid (w0.grownBy wr (some b))) (fun s8 _ => es.length - (intOf s8).toNat)
  case atStart => exact ⟨0, Nat.zero_le _, rfl, Lib.hid ⟨[], by simp, hJ1⟩, hG1⟩
  case round =>
    obtain ⟨j, hj, rfl, hpre, hGr⟩ := hrel
    clear hG1 hJ1
    have hcr := HCG.out wr hGr.out
    have hzr := World.block_lt_of_cell? _ _ hcr
    have hLr := Lib.hid (HLG.out wr hGr.out)
    by_cases hlt : j < es.length
    · have HEJ := Lib.hid (HENT.out j hlt)
      obtain ⟨pre, hpm, hJp⟩ := hpre.out
      have hJp := Lib.hid hJp
      have htk : (List.finRange es.length).take j ++ [(⟨j, hlt⟩ : Fin es.length)] = (List.finRange es.length).take (j + 1) := by
        rw [List.take_succ_eq_append_getElem (by simpa using hlt)]; simp
      have hpm := Lib.hid hpm
      have HVX := Lib.hid (fun (v : Value) (W : World) (hv : RowT 92 3 lnF W v es[j].ls) => (⟨by rw [hpm.out, htk]; exact List.take_prefix _ _, hv⟩ : allV es pre (⟨j, hlt⟩, v) W))
      have HYX := Lib.hid (fun (v : Value) (W : World) => HY.out pre (⟨j, hlt⟩, v) W)
      have hARG : ∀ v, allArgs es (⟨j, hlt⟩, v) = #[.int .i64 (j : Int), .agg #[.int .i64 es[j].con, .int .i64 es[j].day, .int .i64 es[j].cur, .int .i64 es[j].seq, .int .i64 es[j].per, .int .i64 es[j].ref, v]] := fun v => rfl
      simp only [hARG] at HYX
      generalize es[j] = x at *
      obtain ⟨con, day, cur, sq, pr, ref, ls⟩ := x
      simp only at HEJ HYX HVX
      clear hARG hpre HLEN HENT HCG
      gi_wp2_with ((first | (refine ⟨trivial, ?_⟩; gi_at_call 64) | (refine ⟨trivial, fun hh => (by cases hh), ?_⟩; gi_at_call 64)); go_must (refine (callsIn_wide.2 (HEJ.out _ hLr.out)).mono ?_; rintro e w2 ⟨v2, rfl, hR2, -, hb2⟩; obtain ⟨p2, cp2, rfl⟩ := hR2.1.form; have hl3 : Later wr (w2.alloc (.cells #[.int .i64 con, .int .i64 day, .int .i64 cur, .int .i64 sq, .int .i64 pr, .int .i64 ref, .slice p2 ls.length cp2] 48)) := hb2.alloc _; obtain ⟨fn', tmps', assign', body', hy, hR⟩ := HYX.out _ _ (abides_later HJ.out hJp.out hl3) (HVX.out _ _ (hR2.later ((Later.refl _).alloc _))); clear hR2))
      refine ⟨fun hh => (by cases hh), hR.mono ?_⟩
      rintro e W3 ⟨rfl, hJ3, hk3⟩
      have hG3 := Lib.hid (Kq.grown (grown_trans hGr.out (grown_later hl3 _)) hk3)
      have hJ3 := Lib.hid hJ3
      clear hR hk3 hy hl3 hb2 hcr hzr
      gi_wp2
      go_roundw
      case rel => exact ⟨j + 1, by omega, by go_num, Lib.hid ⟨pre ++ [(⟨j, hlt⟩, _)], by rw [List.map_append, hpm.out]; exact htk, hJ3.out⟩, hG3⟩
      case measure => simp [intOf]; omega
    · have hend : Hid (∃ ys : List (AllE es), ys.map (·.1) = List.finRange es.length ∧ J ys wr) := Lib.hid (by
        obtain ⟨pre, h1, h2⟩ := hpre.out
        exact ⟨pre, by rw [h1, List.take_of_length_le (by simp; omega)], h2⟩)
      clear hpre hcr hzr
      gi_wp2
      go_end0
      exact ⟨⟨_, rfl⟩, hend.out⟩


set_option maxHeartbeats 800000 in
theorem all_make (q : Nat) (es : List En) (hel : es.length ≤ 100000) (w : World) (hL : Led w q es) :
    Calls Tryz.prog 43 #[.pointer (some ⟨q, 0, none⟩)] w fun e w' => ∃ Bc nb, e = .returned (.func (.func 66) #[] #[.pointer (some ⟨Bc, 0, none⟩)]) ∧ w.heap.size ≤ Bc ∧ w'.cell? ⟨Bc, 0, none⟩ = some (.pointer (some ⟨nb, 0, none⟩)) ∧ Led w' nb es ∧ Later w w' := by
  have hmf : ∀ (fn : Fn) (first cap : Array Value) (w : World), (Instr.makeFunc fn first cap).run Tryz.prog w = .ok (.func fn first cap) w := fun _ _ _ _ => rfl
  have HC := Lib.hid (copy_any q es hel w hL)
  clear hL
  go_enter Tryz.func43, Tryz.ntmps43
  go_wp2_with (go_at_call 39; go_must (refine HC.out.mono ?_; rintro e w1 ⟨nb, rfl, hC1, hb1⟩; have hL1 := Lib.hid hC1.led; clear hC1 HC))
  go_ret
  refine ⟨_, nb, rfl, Later.size hb1, ?_, hL1.out.later ((Later.refl _).alloc _), by repeat (first | with_reducible exact Later.refl _ | with_reducible assumption | with_reducible refine Later.ofdrew ?_ | with_reducible refine Later.ofdrewN ?_ | with_reducible refine Later.setCell ?_ ?_ _ | with_reducible refine Later.alloc ?_ _ | with_reducible refine Later.drewN ?_ _ | with_reducible refine Later.drew ?_ | (with_reducible refine Later.trans ?_ (by assumption)) | (simp only [World.size_setCell, World.size_alloc, World.heap_drewN]; omega) | (simp; done) | (simp; omega))⟩
  exact (own_get (own_alloc w1 #[.pointer (some ⟨nb, 0, none⟩)] 39)).2.1 0
end Go.Proofs.YtckeaibamgkegaaGreatDoor
end
section
/- rows that a round puts behind others: words -/
namespace Go.Proofs.YtckeaibamgkegaaGreatDoor
open Go.RowKit
set_option maxRecDepth 100000

theorem rwInfo : (Tryz.prog.info? 55).map (fun i => (i.zero, i.size, i.bytes)) = some (some (.agg #[.int .i64 0, .int .i64 0, .int .i64 0, .int .i64 0, .int .i64 0, .int .i64 0, .int .i64 0, .int .i64 0, .int .i64 0]), 9, 72) := by kernel_rfl
theorem sliceRw : SliceOf Tryz.prog 22 55 9 72 := sliceOf_mk Tryz.underlying22 rwInfo rfl (by decide)
theorem rwCs_len (x : Rw) : (rwCs x).length = 9 := rfl
theorem rw_one (a b c d e f g h i : Int) (w : World) :
    (Instr.buildSlice 22 1 #[(0, .agg #[.int .i64 a, .int .i64 b, .int .i64 c, .int .i64 d, .int .i64 e, .int .i64 f, .int .i64 g, .int .i64 h, .int .i64 i])]).run Tryz.prog w
      = .ok (.slice (some ⟨w.heap.size, 0, none⟩) 1 1) (w.alloc (.cells #[.int .i64 a, .int .i64 b, .int .i64 c, .int .i64 d, .int .i64 e, .int .i64 f, .int .i64 g, .int .i64 h, .int .i64 i] 55)) := by kernel_rfl
theorem rw_build (a b c d e f g h i : Int) (w : World) :
    (Instr.build 55 #[(0, .int .i64 a), (1, .int .i64 b), (2, .int .i64 c), (3, .int .i64 d), (4, .int .i64 e), (5, .int .i64 f), (6, .int .i64 g), (7, .int .i64 h), (8, .int .i64 i)]).run Tryz.prog w
      = .ok (.agg #[.int .i64 a, .int .i64 b, .int .i64 c, .int .i64 d, .int .i64 e, .int .i64 f, .int .i64 g, .int .i64 h, .int .i64 i]) w := by kernel_rfl

theorem ownsRow_form_ {w : World} {base e sz n : Nat} {v : Value} {xs : List Value} (h : w.ownsRow base e sz v n xs) : ∃ p c, v = .slice p n c := by
  rcases h.2 with ⟨h1, h2⟩ | ⟨g, cap, cur, h1, _⟩
  · rw [h2]; exact ⟨_, _, h1⟩
  · exact ⟨_, _, h1⟩
/-- One element is appended to a row of blocks from a number on. -/
theorem wpList_pushB {P : Program} {w : World} {base e sz : Nat} {v : Value} {n : Nat} {xs : List Value} {ops : Array Oper} {rest : List Oper} {o : Oper} {a : Act} {Q : Exit → Act → World → Prop} {t bytes : Nat} {ta : TypeId} {news : Array Value}
    (T : SliceOf P t e sz bytes) (hM : w.ownsRow base e sz v n xs) (hbase : base ≤ w.heap.size) (hgd : o.guard = none) (s x : Operand)
    (ho : o.op = .call { callee := .builtin .append, args := #[s, x], argTypes := #[t, t] }) (hs : a.eval s = v) (c b : Nat) (hx : a.eval x = .slice (some ⟨b, 0, none⟩) 1 c) (hb : b = w.heap.size) (hl : news.size = sz) (h1 : ∀ u ∈ news.toList, u.oneCell' = true)
    (h63 : (n + 1) * bytes ≤ 140737488355328) (h64 : n + 1 ≤ maxLen)
    (h : ∀ v' w', w'.ownsRow base e sz v' (n + 1) (xs ++ news.toList) → (w.alloc (.cells news ta)).grownBy w' v.ownBlock → wpList P ops Q rest (a.put o.dst v') w') : wpList P ops Q (o :: rest) a (w.alloc (.cells news ta)) := by
  subst hb
  obtain ⟨i, z, t1, t2, t3, t4, t5, t6, t7⟩ := T
  have hc := (own_get (own_alloc w news ta)).2.1
  refine wpList_append_own _ hgd s x t ho base e i z sz bytes t1 t2 t3 t4 t5 t6 t7 v n xs hs (hM.alloc _) ⟨w.heap.size, 0, none⟩ 1 c news.toList hx (by rw [Nat.one_mul, Array.length_toList, hl]) ?_ h1 h64 h63 (by rw [World.size_alloc]; omega) (fun v' w' h1' h2' _ => h v' w' h1' h2')
  intro j u hj
  rw [add_plain, Nat.zero_add, hc j, ← Array.getElem?_toList, hj]

theorem wpListIn_pushB {F : Fence} {m : Nat} {P : Program} {w : World} {base e sz : Nat} {v : Value} {n : Nat} {xs : List Value} {ops : Array Oper} {rest : List Oper} {o : Oper} {a : Act} {Q : Exit → Act → World → Prop} {t bytes : Nat} {ta : TypeId} {news : Array Value}
    (T : SliceOf P t e sz bytes) (hM : w.ownsRow base e sz v n xs) (hbase : base ≤ w.heap.size) (hgd : o.guard = none) (s x : Operand)
    (ho : o.op = .call { callee := .builtin .append, args := #[s, x], argTypes := #[t, t] }) (hs : a.eval s = v) (c b : Nat) (hx : a.eval x = .slice (some ⟨b, 0, none⟩) 1 c) (hb : b = w.heap.size) (hl : news.size = sz) (h1 : ∀ u ∈ news.toList, u.oneCell' = true)
    (h63 : (n + 1) * bytes ≤ 140737488355328) (h64 : n + 1 ≤ maxLen)
    (h : ∀ v' w', w'.ownsRow base e sz v' (n + 1) (xs ++ news.toList) → (w.alloc (.cells news ta)).grownBy w' v.ownBlock → wpListIn F m P ops Q rest (a.put o.dst v') w') : wpListIn F m P ops Q (o :: rest) a (w.alloc (.cells news ta)) := by
  subst hb
  obtain ⟨i, z, t1, t2, t3, t4, t5, t6, t7⟩ := T
  have hc := (own_get (own_alloc w news ta)).2.1
  refine wpListIn_append_own _ hgd s x t ho base e i z sz bytes t1 t2 t3 t4 t5 t6 t7 v n xs hs (hM.alloc _) ⟨w.heap.size, 0, none⟩ 1 c news.toList hx (by rw [Nat.one_mul, Array.length_toList, hl]) ?_ h1 h64 h63 (by rw [World.size_alloc]; omega) (fun v' w' h1' h2' _ => h v' w' h1' h2')
  intro j u hj
  rw [add_plain, Nat.zero_add, hc j, ← Array.getElem?_toList, hj]
/-- Rows under way: a box holds the slice, the slice lies in blocks of the loop's own. -/
structure RS (w : World) (N B : Nat) (W : World) (v : Value) (l : List Rw) : Prop where
  box : W.heap[B]? = some (.cells #[v] 22 (0, 0))
  row : W.ownsRow N 55 9 v l.length (l.flatMap rwCs)
  low : Later w W
  szN : N ≤ W.heap.size
  szB : w.heap.size ≤ B
  szw : w.heap.size ≤ N
section
variable {w W W' : World} {N B : Nat} {v v' : Value} {l : List Rw}
theorem RS.lt (h : RS w N B W v l) : B < W.heap.size := (Array.getElem?_eq_some_iff.1 h.box).1
theorem RS.later (h : RS w N B W v l) (hb : Later W W') : RS w N B W' v l :=
  ⟨(hb.block B h.lt).trans h.box, h.row.kept (row := none) (grown_later hb none) (by cases v.ownBlock <;> simp), h.low.trans hb, Nat.le_trans h.szN (Later.size hb), h.szB, h.szw⟩
theorem RS.turn (h : RS w N B W v l) {row : Option Nat} (hg : W.grownBy W' row) (hr : ∀ r, row = some r → w.heap.size ≤ r ∧ ∃ o : Obj, W.heap[r]? = some o ∧ o.isCells = false) : RS w N B W' v l := by
  refine ⟨(hg.block B h.lt (fun e => ?_)).trans h.box, h.row.kept hg ?_, Later.grown h.low hg (fun k e => (hr k e).1), Nat.le_trans h.szN hg.size, h.szB, h.szw⟩
  · obtain ⟨_, o, ho, hc⟩ := hr B e.symm
    rw [h.box] at ho; cases ho; cases hc
  · cases hv : v.ownBlock with
    | none => exact .inl rfl
    | some g =>
      refine .inr (fun e => ?_)
      obtain ⟨_, o, ho, hc⟩ := hr g e.symm
      obtain ⟨cs, fr, e2⟩ := (rowT_owns rwCs rwCs_len rwCs_cell (by decide) h.row).2 g hv
      rw [e2] at ho; cases ho; cases hc
theorem RS.own (h : RS w N B W v l) : Own W [(B, #[v])] := by
  refine Own.cons h.lt (fun i => ?_) (fun i hi => frozen_of_row W B i #[v] 22 h.box) trivial
  have := h.box
  simp [World.cell?, this]
/-- A row is put behind, and the slice laid down. -/
theorem RS.push (h : RS w N B W v l) {x : Rw} (hg : W.grownBy W' v.ownBlock) (hM : W'.ownsRow N 55 9 v' (l.length + 1) (l.flatMap rwCs ++ rwCs x)) :
    W'.heap[B]? = some (.cells #[v] 22 (0, 0)) ∧ RS w N B (W'.setCell ⟨B, 0, none⟩ v') v' (l ++ [x]) ∧ KeepsOthers W (W'.setCell ⟨B, 0, none⟩ v') ∧ Kq N B W (W'.setCell ⟨B, 0, none⟩ v') ∧
      ∀ (k : Nat) (cs : Array Value) (t : TypeId) (fr : Nat × Nat), W.heap[k]? = some (Obj.cells cs t fr) → t ≠ 55 → t ≠ 22 → (W'.setCell ⟨B, 0, none⟩ v').heap[k]? = some (.cells cs t fr) := by
  have hrow : ∀ g, v.ownBlock = some g → ∃ cs fr, W.heap[g]? = some (.cells cs 55 fr) := (rowT_owns rwCs rwCs_len rwCs_cell (by decide) h.row).2
  have hb : W'.heap[B]? = some (.cells #[v] 22 (0, 0)) := (hg.block B h.lt (fun e => by
    obtain ⟨cs, fr, e2⟩ := hrow B e.symm
    rw [h.box] at e2; cases e2)).trans h.box
  have hset := heap_setCell_same W' B 0 #[v] 22 v' hb
  have hgs := grown_set W' B 0 v'
  have hN : ∀ k, v.ownBlock = some k → N ≤ k := fun k e => (h.row.lt k e).1
  have hsz := hg.size
  refine ⟨hb, ⟨hset, ?_, ?_, by simp; have := h.szN; omega, h.szB, h.szw⟩, ⟨by simp; exact hsz, ?_⟩, ⟨hg.os, hg.tape, hg.output, by simp; exact hsz, ?_⟩, ?_⟩
  · rw [List.length_append, List.length_singleton, List.flatMap_append, List.flatMap_singleton]
    refine hM.kept hgs ?_
    cases hv : v'.ownBlock with
    | none => exact .inl rfl
    | some g =>
      refine .inr (fun e => ?_)
      cases e
      have hM2 : W'.ownsRow N 55 9 v' (l ++ [x]).length ((l ++ [x]).flatMap rwCs) := by rw [List.length_append, List.length_singleton, List.flatMap_append, List.flatMap_singleton]; exact hM
      obtain ⟨cs, fr, e2⟩ := (rowT_owns rwCs rwCs_len rwCs_cell (by decide) hM2).2 B hv
      rw [hb] at e2; cases e2
  · exact Later.grown (Later.grown h.low hg (fun k e => Nat.le_trans h.szw (hN k e))) hgs (fun k e => by cases e; exact h.szB)
  · intro k o hk ho
    have h1 := (hg.block k (Array.getElem?_eq_some_iff.1 hk).1 (fun e => by
      obtain ⟨cs, fr, e2⟩ := hrow k e.symm
      rw [hk] at e2; cases e2; cases ho)).trans hk
    exact (hgs.block k (Array.getElem?_eq_some_iff.1 h1).1 (fun e => by cases e; rw [hb] at h1; cases h1; cases ho)).trans h1
  · intro k hk hkB
    by_cases hks : k < W.heap.size
    · have h1 := hg.block k hks (fun e => by have := hN k e.symm; omega)
      exact (hgs.block k (by omega) (fun e => hkB (by cases e; rfl))).trans h1
    · have := h.szN; omega
  · intro k cs t fr hk ht1 ht2
    have h1 := (hg.block k (Array.getElem?_eq_some_iff.1 hk).1 (fun e => by
      obtain ⟨cs', fr', e2⟩ := hrow k e.symm
      rw [hk] at e2; cases e2; exact ht1 rfl)).trans hk
    exact (hgs.block k (Array.getElem?_eq_some_iff.1 h1).1 (fun e => by cases e; rw [hb] at h1; cases h1; exact ht2 rfl)).trans h1
end
theorem RowT.blocks {α : Type} {t : TypeId} {sz : Nat} {f : α → Nat → Value} {w w' : World} {v : Value} {xs : List α} (h : RowT t sz f w v xs) (hs : w.heap.size ≤ w'.heap.size) (hb : ∀ (k : Nat) (cs : Array Value) (fr : Nat × Nat), w.heap[k]? = some (Obj.cells cs t fr) → w'.heap[k]? = some (Obj.cells cs t fr)) : RowT t sz f w' v xs := by
  refine ⟨?_, fun b e => ?_⟩
  · rcases h.1 with h1 | ⟨b, o, cap, h1, h2, h3, h4, h5⟩
    · exact .inl h1
    · refine .inr ⟨b, o, cap, h1, Nat.lt_of_lt_of_le h2 hs, h3, h4, fun i hi j hj => ?_⟩
      obtain ⟨cs, fr, e⟩ := h.2 b (by rw [h1]; rfl)
      rw [World.cell?_of_block (a := ⟨b, o + i * sz + j, none⟩) ((hb b cs fr e).trans e.symm)]
      exact h5 i hi j hj
  · obtain ⟨cs, fr, e2⟩ := h.2 b e
    exact ⟨cs, fr, hb b cs fr e2⟩
end Go.Proofs.YtckeaibamgkegaaGreatDoor
end
