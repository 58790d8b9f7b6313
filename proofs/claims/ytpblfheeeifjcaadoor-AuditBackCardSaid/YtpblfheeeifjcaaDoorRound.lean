/- Rounds of a range over a function: a drawn region within one by a plan; what the rounds keep. -/
import Derived.Test.YtpblfheeeifjcaaDoorRowS
import Derived.RangeFuncNested
import Derived.RangeFuncBound
import Derived.RangeFuncCalls
import Derived.RangeFuncLeaves
import Derived.Shelf.Abstract
import Derived.Shelf.RegionOpen
import Derived.OwnWalkIn
import Derived.TacticsInMore
import Derived.LoopNIn
import Derived.LoopIn
set_option linter.all false
namespace Go.Proofs.YtpblfheeeifjcaaDoor
open Go.RowKit
set_option maxRecDepth 100000

/-- No operation defers. -/
def noDefer (ops : Array Oper) : Bool := ops.all (fun o => match o.op with | .defer _ => false | _ => true)
theorem noDefer_spec {ops : Array Oper} (h : noDefer ops = true) {i : Nat} {o : Oper} (ho : ops[i]? = some o) : ∀ c, o.op ≠ .defer c := by
  intro c hc
  obtain ⟨hi, rfl⟩ := Array.getElem?_eq_some_iff.1 ho
  have := Array.all_eq_true.1 h i hi
  rw [hc] at this
  cases this

section
variable {P : Program} {ops : Array Oper} {Q : Exit → Act → World → Prop} {md : Region.Mode} {l n : Nat}

/-- What an operation does by itself it does within a round. -/
theorem oper_in_round {o : Oper} {a : Act} {w : World} {K : Act → World → Prop} (hd : ∀ c, o.op ≠ .defer c) (h : o.wp P a w K Q) : o.wpIn (Fence.wide.inRound l) n P a w K Q := by
  unfold Oper.wpIn
  refine ⟨fun _ _ => trivial, ?_⟩
  show o.uponIn (Fence.wide.inRound l) n P a K Q ((o.semAt (some l) a.eval).run P w)
  rw [Oper.semAt_some l a.eval o hd]
  unfold Oper.wp at h
  generalize (execOp a.eval o).run P w = r at *
  cases r with
  | ok x w' =>
    cases x with
    | value v => exact h
    | skip => exact h
    | defer d => exact h
    | enter f args => exact ⟨fun hh => (by cases hh), CallsIn.inRound l (callsIn_wide.2 (Calls.mono h (fun e w'' he => by cases e <;> exact he)))⟩
    | row row args => exact ⟨fun hh => (by cases hh), fun c cs _ => let ⟨v, w', r, s⟩ := h c cs; ⟨v, w', r, stepsIn_wide.2 s⟩⟩
    | _ => exact h.elim
  | halt x w' =>
    cases x with
    | panic v => exact h
    | _ => exact h.elim

theorem wpOp_in_round {i : Nat} {a : Act} {w : World} {K K' : Act → World → Prop} (hd : noDefer ops = true) (hQ : ¬ LetsOut Q) (hK : ∀ a w, K a w → K' a w) (h : wpOp P ops Q i K a w) : wpOpIn (Fence.wide.inRound l) n P ops Q i K' a w := by
  unfold wpOp at h
  unfold wpOpIn
  split at h
  · rename_i ho; simp only [ho]; exact hK _ _ h
  · rename_i o ho
    simp only [ho]
    split at h
    · rename_i hw
      rw [if_pos hw]
      rcases h with h | ⟨_, h2⟩
      · exact oper_in_round (noDefer_spec hd ho) (Oper.wp_mono hK h)
      · exact absurd h2 hQ
    · rename_i hw
      rw [if_neg hw]
      exact ⟨fun _ _ => trivial, hK _ _ h⟩

theorem wpAny_in_round (hd : noDefer ops = true) (hQ : ¬ LetsOut Q) : ∀ (fuel : Nat) (listed : Array Bool) (a : Act) (w : World), wpAny P md ops Q fuel listed a w → wpAnyIn (Fence.wide.inRound l) n P md ops Q fuel listed a w
  | 0, _, _, _, h => h
  | fuel + 1, listed, _, _, h => ⟨h.1, fun i hi => wpOp_in_round hd hQ (fun a w h' => wpAny_in_round hd hQ fuel _ a w h') (h.2 i hi)⟩

/-- A region that asks the tape, within a round, by a plan of ours. -/
theorem wpIn_region_plan {id : Nat} {a : Act} {w : World} (t : Nat) (p : Plan) (hm : P.follows .mixedOrders = true)
    (hB : (noDefer ops && (Region.noSelect ops && p.has ops.size && okPlan .any ops t p (Array.replicate ops.size false))) = true) (hQo : ¬ LetsOut Q)
    (hQ : ∀ c a d v w, Q (.panic c) (Act.put a d v) w → Q (.panic c) a w) (h : wpPlan P ops t Q p a w.drew) : (Code.region id ops true).wpIn (Fence.wide.inRound l) n P Q a w := by
  simp only [Bool.and_eq_true] at hB
  obtain ⟨hd, ⟨hs, hn⟩, hb⟩ := hB
  exact wpIn_region_any hm (wpAny_in_round hd hQo _ _ _ _ (wpAny_of_T (C := Later w.drew) (t := t) _ _ _ _ (run_plan hs hQ p _ _ a _ hn hb h)))

theorem wpList_in_round (hQ : ¬ LetsOut Q) : ∀ (r : List Oper) (a : Act) (w : World), noDefer r.toArray = true → wpList P ops Q r a w → wpListIn (Fence.wide.inRound l) n P ops Q r a w
  | [], _, _, _, h => h
  | o :: r, a, w, hd, h => by
    have hd0 : ∀ c, o.op ≠ .defer c := noDefer_spec hd (i := 0) (by simp)
    have hd1 : noDefer r.toArray = true := by
      unfold noDefer at hd ⊢
      simp only [List.all_toArray, List.all_cons, Bool.and_eq_true] at hd ⊢
      exact hd.2
    simp only [wpList] at h
    simp only [wpListIn]
    split
    · rename_i hw
      simp only [hw, if_true] at h
      rcases h with h | ⟨_, h2⟩
      · exact oper_in_round hd0 (Oper.wp_mono (fun a w h' => wpList_in_round hQ r a w hd1 h') h)
      · exact absurd h2 hQ
    · rename_i hw
      simp only [hw] at h
      exact ⟨fun _ _ => trivial, wpList_in_round hQ r _ w hd1 h⟩
end

/-- What a round keeps for an iterator: what lay below n₀, and some blocks. -/
def Kb (n₀ : Nat) (bs : List Nat) (W W' : World) : Prop := Below n₀ W W' ∧ ∀ b ∈ bs, ∀ i, W'.cell? ⟨b, i, none⟩ = W.cell? ⟨b, i, none⟩
theorem Kb.refl (n₀ : Nat) (bs : List Nat) (W : World) : Kb n₀ bs W W := ⟨Below.refl _ _, fun _ _ _ => rfl⟩
theorem kb_t {n₀ : Nat} {bs : List Nat} {A B C : World} (h : Kb n₀ bs A B) (k : Kb n₀ bs B C) : Kb n₀ bs A C := ⟨h.1.trans k.1, fun b hb i => (k.2 b hb i).trans (h.2 b hb i)⟩
theorem kb_b {n₀ : Nat} {bs : List Nat} {w : World} (hn : n₀ ≤ w.heap.size) (hbs : ∀ b ∈ bs, b < w.heap.size) (W : World) (l : Nat) (o o' : Obj) (hl : w.heap.size ≤ l) (h : W.heap[l]? = some o) (h1 : o.isCells = false) (h2 : o.isWalk = false) : Kb n₀ bs W (W.putObj l o') :=
  ⟨belowK_b hn W l o o' hl h h1 h2, fun b hb i => by
    have h4 : (W.putObj l o').heap[b]? = W.heap[b]? := World.putObj_heap_other (by have := hbs b hb; omega)
    unfold World.cell?
    simp only [h4]⟩
theorem Later.grownBy {W W' : World} (hb : Later W W') : W.grownBy W' none := ⟨hb.os, hb.tape, hb.output, hb.size, fun k hk _ => hb.block k hk⟩
theorem abides_later {β : Type} {B : Nat} {J : β → World → Prop} (h : AbidesFrom B J) {s : β} {W W' : World} (hs : J s W) (hb : Later W W') : J s W' := h s W W' none hs hb.grownBy (fun r e => by cases e)
theorem own_later {β : Type} {B : Nat} {J : β → World → Prop} (h : OwnFrom B J) {s : β} {W W' : World} (hs : J s W) (hb : Later W W') : J s W' := h s W W' none hs hb.grownBy (fun r e => by cases e)
theorem cell_other {w : World} {b c : Nat} {i j : Nat} (h : b ≠ c) (x : Value) : (w.setCell ⟨c, j, none⟩ x).cell? ⟨b, i, none⟩ = w.cell? ⟨b, i, none⟩ := World.cell?_setCell_other _ _ _ _ (fun e => h (by cases e; rfl))
theorem keepsOthers_later {W W' : World} (hb : Later W W') : KeepsOthers W W' := ⟨Below.size hb, fun k o hk _ => (hb.block k (Array.getElem?_eq_some_iff.1 hk).1).trans hk⟩
/-- A piece that goes on, and does nothing else. -/
def calmPost (K : Act → World → Prop) : Exit → Act → World → Prop
  | .normal, a, w => K a w
  | _, _, _ => False
@[go_sem] theorem calmPost_normal (K : Act → World → Prop) (a : Act) (w : World) : calmPost K .normal a w = K a w := rfl
theorem calm_intro {K : Act → World → Prop} {a : Act} {w : World} (h : K a w) : calmPost K .normal a w := h
theorem wp_calm {P : Program} {c : Code} {K : Act → World → Prop} {Q : Exit → Act → World → Prop} {a : Act} {w : World} (h : c.wp P (calmPost K) a w) : c.wp P (Exit.then K Q) a w :=
  wp_mono h (fun e a w he => by cases e <;> first | exact he | exact he.elim)
theorem wpIn_calm {F : Fence} {n : Nat} {P : Program} {c : Code} {K : Act → World → Prop} {Q : Exit → Act → World → Prop} {a : Act} {w : World} (h : c.wpIn F n P (calmPost K) a w) : c.wpIn F n P (Exit.then K Q) a w :=
  wpIn_mono h (fun e a w he => by cases e <;> first | exact he | exact he.elim)
theorem below_later {n₀ : Nat} {a b c : World} (h : Below n₀ a b) (hn : n₀ ≤ b.heap.size) (k : Later b c) : Below n₀ a c := h.trans (Below.mono k hn)

/-- The mark of a range over a function that is over. -/
def mark (D : Nat) : Deferred := { target := .collected D, args := #[] }
/-- Marks, each of a block of its own. -/
def Marks (lo : Nat) (Ds : List Nat) (W : World) : Prop := Ds.Nodup ∧ ∀ D ∈ Ds, lo ≤ D ∧ W.heap[D]? = some (.deferred (some []))
theorem Marks.nil (lo : Nat) (W : World) : Marks lo [] W := ⟨List.nodup_nil, fun _ h => by cases h⟩
theorem Marks.lt {lo : Nat} {Ds : List Nat} {W : World} (h : Marks lo Ds W) {D : Nat} (hD : D ∈ Ds) : D < W.heap.size := (Array.getElem?_eq_some_iff.1 (h.2 D hD).2).1
theorem Marks.others {lo : Nat} {Ds : List Nat} {W W' : World} (h : Marks lo Ds W) (hk : KeepsOthers W W') : Marks lo Ds W' := ⟨h.1, fun D hD => ⟨(h.2 D hD).1, hk.same D _ (h.2 D hD).2 rfl⟩⟩
theorem Marks.later {lo : Nat} {Ds : List Nat} {W W' : World} (h : Marks lo Ds W) (hb : Later W W') : Marks lo Ds W' := h.others (keepsOthers_later hb)
theorem Marks.cons {lo : Nat} {Ds : List Nat} {Ws W : World} (h0 : Marks lo Ds Ws) (h : Marks lo Ds W) {D : Nat} (hlo : lo ≤ D) (hD : Ws.heap.size ≤ D) (hK : W.heap[D]? = some (.deferred (some []))) : Marks lo (D :: Ds) W :=
  ⟨List.nodup_cons.2 ⟨fun hm => by have := h0.lt hm; omega, h.1⟩, fun E hE => by
    rcases List.mem_cons.1 hE with rfl | hE
    · exact ⟨hlo, hK⟩
    · exact h.2 E hE⟩
theorem marks_own {β : Type} {lo : Nat} {Ds : List Nat} {Ws : World} (h0 : Marks lo Ds Ws) : OwnFrom Ws.heap.size (fun (_ : β) W => Marks lo Ds W) := fun _ W W' row hs hg hr =>
  ⟨hs.1, fun D hD => ⟨(hs.2 D hD).1, (hg.block D (hs.lt hD) (fun e => by have := (hr D e.symm).1; have := h0.lt hD; omega)).trans (hs.2 D hD).2⟩⟩
theorem leaves_marks {F : Fence} {n : Nat} {P : Program} {fn : Func} {tmps : Array Value} {R : Ending → World → Prop} {lo : Nat} : ∀ (Ds : List Nat) (W : World), Marks lo Ds W →
    (∀ W', (∀ a v, W.cell? a = some v → W'.cell? a = some v) → Below lo W W' → LeavesIn F n P fn tmps R [] .returning W') → LeavesInM F n P fn tmps R (Ds.map mark) .returning W
  | [], W, _, h => h W (fun _ _ h => h) (Below.refl _ _)
  | D :: Ds, W, hM, h => by
    have hK := (hM.2 D (by simp)).2
    have hlo := (hM.2 D (by simp)).1
    have hlt := hM.lt (D := D) (by simp)
    have hnd := List.nodup_cons.1 hM.1
    refine ⟨by simp, .inl ⟨D, W.putObj D (.deferred none), rfl, run_takeDeferred hK, leaves_marks (lo := lo) Ds _ ⟨hnd.2, fun E hE => ⟨(hM.2 E (by simp [hE])).1, (World.putObj_heap_other (r := D) (k := E) (fun e => hnd.1 (by rw [← e]; exact hE))).trans (hM.2 E (by simp [hE])).2⟩⟩ ?_⟩⟩
    intro W' hc hb
    refine h W' (fun a v ha => hc a v (cell_kept ha (grownBy_putObj' _ D (.deferred none)) (fun r e => by cases e; exact ⟨_, hK, rfl⟩))) ?_
    have hb1 : Below lo W (W.putObj D (.deferred none)) := (Below.refl lo W).grown (grownBy_putObj' W D _) (by omega) (fun k e => by cases e; omega)
    exact hb1.trans hb
end Go.Proofs.YtpblfheeeifjcaaDoor
