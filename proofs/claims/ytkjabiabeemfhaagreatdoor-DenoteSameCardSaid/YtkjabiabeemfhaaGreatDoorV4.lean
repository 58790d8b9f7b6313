/- references of term: Sort, Kids, within, Size -/
import Derived.Test.YtkjabiabeemfhaaGreatDoorV3
import Derived.RangeFuncNested
import Derived.RangeFuncBound
import Derived.RangeFuncCalls
import Derived.RangeFuncLeaves
import Derived.Shelf.Abstract
import Derived.Shelf.RegionOpen
import Derived.OwnWalkIn
import Derived.TacticsInMore
import Derived.LoopNIn
import Derived.LoopIn
set_option linter.all false
set_option linter.all false
section
namespace Go.Proofs.YtkjabiabeemfhaaGreatDoor
open Go.RowKit
set_option maxRecDepth 100000
def noDefer (ops : Array Oper) : Bool := ops.all (fun o => match o.op with | .defer _ => false | _ => true)
theorem noDefer_spec {ops : Array Oper} (h : noDefer ops = true) {i : Nat} {o : Oper} (ho : ops[i]? = some o) : ∀ c, o.op ≠ .defer c := by
  intro c hc
  obtain ⟨hi, rfl⟩ := Array.getElem?_eq_some_iff.1 ho
  have := Array.all_eq_true.1 h i hi
  rw [hc] at this
  cases this
section
variable {P : Program} {ops : Array Oper} {Q : Exit → Act → World → Prop} {md : Region.Mode} {l n : Nat}
theorem oper_in_round {o : Oper} {a : Act} {w : World} {K : Act → World → Prop} (hd : ∀ c, o.op ≠ .defer c) (h : o.wp P a w K Q) : o.wpIn (Fence.wide.inRound l) n P a w K Q := by
  unfold Oper.wpIn
  refine ⟨fun _ _ => trivial, ?_⟩
  show o.uponIn (Fence.wide.inRound l) n P a K Q ((o.semAt (some l) a.eval).run P w)
  rw [Oper.semAt_some l a.eval o hd]
  unfold Oper.wp at h
  generalize (execOp a.eval o).run P w = r at *
  cases r with
  | ok x w' =>
    cases x with
    | value v => exact h
    | skip => exact h
    | defer d => exact h
    | enter f args => exact ⟨fun hh => (by cases hh), CallsIn.inRound l (callsIn_wide.2 (Calls.mono h (fun e w'' he => by cases e <;> exact he)))⟩
    | row row args => exact ⟨fun hh => (by cases hh), fun c cs _ => let ⟨v, w', r, s⟩ := h c cs; ⟨v, w', r, stepsIn_wide.2 s⟩⟩
    | _ => exact h.elim
  | halt x w' =>
    cases x with
    | panic v => exact h
    | _ => exact h.elim
theorem wpOp_in_round {i : Nat} {a : Act} {w : World} {K K' : Act → World → Prop} (hd : noDefer ops = true) (hQ : ¬ LetsOut Q) (hK : ∀ a w, K a w → K' a w) (h : wpOp P ops Q i K a w) : wpOpIn (Fence.wide.inRound l) n P ops Q i K' a w := by
  unfold wpOp at h
  unfold wpOpIn
  split at h
  · rename_i ho; simp only [ho]; exact hK _ _ h
  · rename_i o ho
    simp only [ho]
    split at h
    · rename_i hw
      rw [if_pos hw]
      rcases h with h | ⟨_, h2⟩
      · exact oper_in_round (noDefer_spec hd ho) (Oper.wp_mono hK h)
      · exact absurd h2 hQ
    · rename_i hw
      rw [if_neg hw]
      exact ⟨fun _ _ => trivial, hK _ _ h⟩
theorem wpAny_in_round (hd : noDefer ops = true) (hQ : ¬ LetsOut Q) : ∀ (fuel : Nat) (listed : Array Bool) (a : Act) (w : World), wpAny P md ops Q fuel listed a w → wpAnyIn (Fence.wide.inRound l) n P md ops Q fuel listed a w
  | 0, _, _, _, h => h
  | fuel + 1, listed, _, _, h => ⟨h.1, fun i hi => wpOp_in_round hd hQ (fun a w h' => wpAny_in_round hd hQ fuel _ a w h') (h.2 i hi)⟩
theorem wpIn_region_plan {id : Nat} {a : Act} {w : World} (t : Nat) (p : Plan) (hm : P.follows .mixedOrders = true)
    (hB : (noDefer ops && (Region.noSelect ops && p.has ops.size && okPlan .any ops t p (Array.replicate ops.size false))) = true) (hQo : ¬ LetsOut Q)
    (hQ : ∀ c a d v w, Q (.panic c) (Act.put a d v) w → Q (.panic c) a w) (h : wpPlan P ops t Q p a w.drew) : (Code.region id ops true).wpIn (Fence.wide.inRound l) n P Q a w := by
  simp only [Bool.and_eq_true] at hB
  obtain ⟨hd, ⟨hs, hn⟩, hb⟩ := hB
  exact wpIn_region_any hm (wpAny_in_round hd hQo _ _ _ _ (wpAny_of_T (C := Later w.drew) (t := t) _ _ _ _ (run_plan hs hQ p _ _ a _ hn hb h)))
end
def Kb (n₀ : Nat) (bs : List Nat) (W W' : World) : Prop := Below n₀ W W' ∧ ∀ b ∈ bs, ∀ i, W'.cell? ⟨b, i, none⟩ = W.cell? ⟨b, i, none⟩
theorem Kb.refl (n₀ : Nat) (bs : List Nat) (W : World) : Kb n₀ bs W W := ⟨Below.refl _ _, fun _ _ _ => rfl⟩
theorem kb_t {n₀ : Nat} {bs : List Nat} {A B C : World} (h : Kb n₀ bs A B) (k : Kb n₀ bs B C) : Kb n₀ bs A C := ⟨h.1.trans k.1, fun b hb i => (k.2 b hb i).trans (h.2 b hb i)⟩
theorem kb_b {n₀ : Nat} {bs : List Nat} {w : World} (hn : n₀ ≤ w.heap.size) (hbs : ∀ b ∈ bs, b < w.heap.size) (W : World) (l : Nat) (o o' : Obj) (hl : w.heap.size ≤ l) (h : W.heap[l]? = some o) (h1 : o.isCells = false) (h2 : o.isWalk = false) : Kb n₀ bs W (W.putObj l o') :=
  ⟨belowK_b hn W l o o' hl h h1 h2, fun b hb i => by
    have h4 : (W.putObj l o').heap[b]? = W.heap[b]? := World.putObj_heap_other (by have := hbs b hb; omega)
    unfold World.cell?
    simp only [h4]⟩
theorem Later.grownBy {W W' : World} (hb : Later W W') : W.grownBy W' none := ⟨hb.os, hb.tape, hb.output, hb.size, fun k hk _ => hb.block k hk⟩
theorem abides_later {β : Type} {B : Nat} {J : β → World → Prop} (h : AbidesFrom B J) {s : β} {W W' : World} (hs : J s W) (hb : Later W W') : J s W' := h s W W' none hs hb.grownBy (fun r e => by cases e)
theorem cell_other {w : World} {b c : Nat} {i j : Nat} (h : b ≠ c) (x : Value) : (w.setCell ⟨c, j, none⟩ x).cell? ⟨b, i, none⟩ = w.cell? ⟨b, i, none⟩ := World.cell?_setCell_other _ _ _ _ (fun e => h (by cases e; rfl))
theorem keepsOthers_later {W W' : World} (hb : Later W W') : KeepsOthers W W' := ⟨Below.size hb, fun k o hk _ => (hb.block k (Array.getElem?_eq_some_iff.1 hk).1).trans hk⟩
def calmPost (K : Act → World → Prop) : Exit → Act → World → Prop
  | .normal, a, w => K a w
  | _, _, _ => False
@[go_sem] theorem calmPost_normal (K : Act → World → Prop) (a : Act) (w : World) : calmPost K .normal a w = K a w := rfl
theorem calm_intro {K : Act → World → Prop} {a : Act} {w : World} (h : K a w) : calmPost K .normal a w := h
theorem wp_calm {P : Program} {c : Code} {K : Act → World → Prop} {Q : Exit → Act → World → Prop} {a : Act} {w : World} (h : c.wp P (calmPost K) a w) : c.wp P (Exit.then K Q) a w :=
  wp_mono h (fun e a w he => by cases e <;> first | exact he | exact he.elim)
theorem below_later {n₀ : Nat} {a b c : World} (h : Below n₀ a b) (hn : n₀ ≤ b.heap.size) (k : Later b c) : Below n₀ a c := h.trans (Below.mono k hn)
def mark (D : Nat) : Deferred := { target := .collected D, args := #[] }
def Marks (lo : Nat) (Ds : List Nat) (W : World) : Prop := Ds.Nodup ∧ ∀ D ∈ Ds, lo ≤ D ∧ W.heap[D]? = some (.deferred (some []))
theorem Marks.nil (lo : Nat) (W : World) : Marks lo [] W := ⟨List.nodup_nil, fun _ h => by cases h⟩
theorem Marks.lt {lo : Nat} {Ds : List Nat} {W : World} (h : Marks lo Ds W) {D : Nat} (hD : D ∈ Ds) : D < W.heap.size := (Array.getElem?_eq_some_iff.1 (h.2 D hD).2).1
theorem Marks.others {lo : Nat} {Ds : List Nat} {W W' : World} (h : Marks lo Ds W) (hk : KeepsOthers W W') : Marks lo Ds W' := ⟨h.1, fun D hD => ⟨(h.2 D hD).1, hk.same D _ (h.2 D hD).2 rfl⟩⟩
theorem Marks.later {lo : Nat} {Ds : List Nat} {W W' : World} (h : Marks lo Ds W) (hb : Later W W') : Marks lo Ds W' := h.others (keepsOthers_later hb)
theorem Marks.cons {lo : Nat} {Ds : List Nat} {Ws W : World} (h0 : Marks lo Ds Ws) (h : Marks lo Ds W) {D : Nat} (hlo : lo ≤ D) (hD : Ws.heap.size ≤ D) (hK : W.heap[D]? = some (.deferred (some []))) : Marks lo (D :: Ds) W :=
  ⟨List.nodup_cons.2 ⟨fun hm => by have := h0.lt hm; omega, h.1⟩, fun E hE => by
    rcases List.mem_cons.1 hE with rfl | hE
    · exact ⟨hlo, hK⟩
    · exact h.2 E hE⟩
theorem marks_own {β : Type} {lo : Nat} {Ds : List Nat} {Ws : World} (h0 : Marks lo Ds Ws) : OwnFrom Ws.heap.size (fun (_ : β) W => Marks lo Ds W) := fun _ W W' row hs hg hr =>
  ⟨hs.1, fun D hD => ⟨(hs.2 D hD).1, (hg.block D (hs.lt hD) (fun e => by have := (hr D e.symm).1; have := h0.lt hD; omega)).trans (hs.2 D hD).2⟩⟩
theorem leaves_marks {F : Fence} {n : Nat} {P : Program} {fn : Func} {tmps : Array Value} {R : Ending → World → Prop} {lo : Nat} : ∀ (Ds : List Nat) (W : World), Marks lo Ds W →
    (∀ W', (∀ a v, W.cell? a = some v → W'.cell? a = some v) → Below lo W W' → LeavesIn F n P fn tmps R [] .returning W') → LeavesInM F n P fn tmps R (Ds.map mark) .returning W
  | [], W, _, h => h W (fun _ _ h => h) (Below.refl _ _)
  | D :: Ds, W, hM, h => by
    have hK := (hM.2 D (by simp)).2
    have hlo := (hM.2 D (by simp)).1
    have hlt := hM.lt (D := D) (by simp)
    have hnd := List.nodup_cons.1 hM.1
    refine ⟨by simp, .inl ⟨D, W.putObj D (.deferred none), rfl, run_takeDeferred hK, leaves_marks (lo := lo) Ds _ ⟨hnd.2, fun E hE => ⟨(hM.2 E (by simp [hE])).1, (World.putObj_heap_other (r := D) (k := E) (fun e => hnd.1 (by rw [← e]; exact hE))).trans (hM.2 E (by simp [hE])).2⟩⟩ ?_⟩⟩
    intro W' hc hb
    refine h W' (fun a v ha => hc a v (cell_kept ha (grownBy_putObj' _ D (.deferred none)) (fun r e => by cases e; exact ⟨_, hK, rfl⟩))) ?_
    have hb1 : Below lo W (W.putObj D (.deferred none)) := (Below.refl lo W).grown (grownBy_putObj' W D _) (by omega) (fun k e => by cases e; omega)
    exact hb1.trans hb
end Go.Proofs.YtkjabiabeemfhaaGreatDoor
end
section
namespace Go.Proofs.YtkjabiabeemfhaaGreatDoor
open Go.RowKit
set_option maxRecDepth 100000
def makesI (op : Int) : Int := if op < 1 ∨ 17 < op then 0 else if op ≤ 8 then 1 else 2
def manyN (op : Int) : Nat := if op < 1 ∨ 17 < op then 0 else [0, 0, 1, 2, 2, 2, 2, 2, 0, 0, 1, 2, 2, 1, 4, 2, 1].getD (op.toNat - 1) 0
def belI (op : Int) (j : Nat) : Int := if manyN op ≤ j then 0 else if op ≤ 8 then 1 else if op = 13 ∧ j = 0 then 1 else if op = 15 ∧ j ≤ 1 then 1 else 2
def shp (op : Int) : Nat → Int
  | 0 => makesI op
  | 1 => manyN op
  | j + 2 => belI op j
def Shapes (w : World) : Prop := 0 < w.heap.size ∧ ∀ op : Nat, op < 18 → ∀ j, j < 6 → w.cell? ⟨0, op * 6 + j, none⟩ = some (.int .i64 (shp op j))
theorem Shapes.later {w w' : World} (h : Shapes w) (hb : Later w w') : Shapes w' :=
  ⟨Nat.lt_of_lt_of_le h.1 (Later.size hb), fun op ho j hj => ((bcell hb).1 _ _ h.1).trans (h.2 op ho j hj)⟩
theorem many_le (op : Int) : manyN op ≤ 4 := by
  unfold manyN; split
  · omega
  · have : (op.toNat - 1) < 17 := by omega
    generalize op.toNat - 1 = k at *
    rcases k with _ | _ | _ | _ | _ | _ | _ | _ | _ | _ | _ | _ | _ | _ | _ | _ | _ | k <;> simp <;> omega
theorem out_shp {op : Int} (h : op < 0 ∨ 18 ≤ op) : makesI op = 0 ∧ manyN op = 0 ∧ ∀ j, belI op j = 0 := by
  have h1 : manyN op = 0 := by unfold manyN; rw [if_pos (by omega)]
  refine ⟨by unfold makesI; rw [if_pos (by omega)], h1, fun j => ?_⟩
  unfold belI; rw [if_pos (by omega)]
def shpV (op : Int) : Value := .agg #[.int .i64 (makesI op), .int .i64 (manyN op), .int .i64 (belI op 0), .int .i64 (belI op 1), .int .i64 (belI op 2), .int .i64 (belI op 3)]
set_option maxHeartbeats 800000 in
theorem of_shape (op : Int) (w : World) (hS : Shapes w) :
    Calls Tryz.prog 122 #[.int .i64 op] w fun e w' => e = .returned (shpV op) ∧ Later w w' := by
  by_cases h0 : op < 0
  · have hz := out_shp (.inl h0)
    unfold shpV
    rw [hz.1, hz.2.1, hz.2.2, hz.2.2, hz.2.2, hz.2.2]
    clear hz hS
    go_enter Tryz.func122, Tryz.ntmps122
    go_wp2
    exact bodyPost_ret (v := .agg #[.int .i64 0, .int .i64 0, .int .i64 0, .int .i64 0, .int .i64 0, .int .i64 0]) (by simp [results, Tryz.results122, go_sem]) rfl ⟨rfl, by repeat (first | with_reducible exact Later.refl _ | with_reducible assumption | with_reducible refine Later.ofdrew ?_ | with_reducible refine Later.ofdrewN ?_ | with_reducible refine Later.setCell ?_ ?_ _ | with_reducible refine Later.alloc ?_ _ | with_reducible refine Later.drewN ?_ _ | with_reducible refine Later.drew ?_ | (with_reducible refine Later.trans ?_ (by assumption)) | (simp only [World.size_setCell, World.size_alloc, World.heap_drewN]; omega) | (simp; done) | (simp; omega))⟩
  by_cases h1 : 18 ≤ op
  · have hz := out_shp (.inr h1)
    unfold shpV
    rw [hz.1, hz.2.1, hz.2.2, hz.2.2, hz.2.2, hz.2.2]
    clear hz hS
    go_enter Tryz.func122, Tryz.ntmps122
    go_wp2
    exact bodyPost_ret (v := .agg #[.int .i64 0, .int .i64 0, .int .i64 0, .int .i64 0, .int .i64 0, .int .i64 0]) (by simp [results, Tryz.results122, go_sem]) rfl ⟨rfl, by repeat (first | with_reducible exact Later.refl _ | with_reducible assumption | with_reducible refine Later.ofdrew ?_ | with_reducible refine Later.ofdrewN ?_ | with_reducible refine Later.setCell ?_ ?_ _ | with_reducible refine Later.alloc ?_ _ | with_reducible refine Later.drewN ?_ _ | with_reducible refine Later.drew ?_ | (with_reducible refine Later.trans ?_ (by assumption)) | (simp only [World.size_setCell, World.size_alloc, World.heap_drewN]; omega) | (simp; done) | (simp; omega))⟩
  · obtain ⟨k, rfl⟩ := Int.eq_ofNat_of_zero_le (show 0 ≤ op by omega)
    have hk : k < 18 := by omega
    have g0 := hS.2 k hk 0 (by omega)
    have g1 := hS.2 k hk 1 (by omega)
    have g2 := hS.2 k hk 2 (by omega)
    have g3 := hS.2 k hk 3 (by omega)
    have g4 := hS.2 k hk 4 (by omega)
    have g5 := hS.2 k hk 5 (by omega)
    have hg : 0 < w.heap.size := hS.1
    simp only [shp, Nat.add_zero] at g0 g1 g2 g3 g4 g5
    unfold shpV
    generalize makesI (k : Int) = m0 at *
    generalize ((manyN (k : Int) : Nat) : Int) = m1 at *
    generalize belI (k : Int) 0 = m2 at *
    generalize belI (k : Int) 1 = m3 at *
    generalize belI (k : Int) 2 = m4 at *
    generalize belI (k : Int) 3 = m5 at *
    clear hS
    go_enter Tryz.func122, Tryz.ntmps122
    go_wp2
    exact bodyPost_ret (v := .agg #[.int .i64 m0, .int .i64 m1, .int .i64 m2, .int .i64 m3, .int .i64 m4, .int .i64 m5]) (by simp [results, Tryz.results122, go_sem]) rfl ⟨rfl, by repeat (first | with_reducible exact Later.refl _ | with_reducible assumption | with_reducible refine Later.ofdrew ?_ | with_reducible refine Later.ofdrewN ?_ | with_reducible refine Later.setCell ?_ ?_ _ | with_reducible refine Later.alloc ?_ _ | with_reducible refine Later.drewN ?_ _ | with_reducible refine Later.drew ?_ | (with_reducible refine Later.trans ?_ (by assumption)) | (simp only [World.size_setCell, World.size_alloc, World.heap_drewN]; omega) | (simp; done) | (simp; omega))⟩
theorem field_makes (a b c d e f : Value) (w : World) : (Instr.field 214 (.agg #[a, b, c, d, e, f]) 0).run Tryz.prog w = .ok a w := by kernel_rfl
theorem field_many (a b c d e f : Value) (w : World) : (Instr.field 214 (.agg #[a, b, c, d, e, f]) 1).run Tryz.prog w = .ok b w := by kernel_rfl
theorem field_below (a b c d e f : Value) (w : World) : (Instr.field 214 (.agg #[a, b, c, d, e, f]) 2).run Tryz.prog w = .ok (.agg #[c, d, e, f]) w := by kernel_rfl
attribute [local go_sem] field_makes field_many field_below
set_option maxHeartbeats 400000 in
theorem sort_any (op : Int) (w : World) (hS : Shapes w) :
    Calls Tryz.prog 121 #[.int .i64 op] w fun e w' => e = .returned (.int .i64 (makesI op)) ∧ Later w w' := by
  have HC := Lib.hid (of_shape op w hS)
  unfold shpV at HC
  go_enter Tryz.func121, Tryz.ntmps121
  go_wp2_with (go_at_call 122; go_must (refine (HC.out).mono ?_; rintro e w1 ⟨rfl, hb1⟩))
  go_ret
  exact ⟨rfl, hb1⟩
structure Nd where
  op : Int
  a : Int
  b : Int
  n : Int
  d : Int
  deriving DecidableEq, Inhabited
def Nd.cell (x : Nd) : Nat → Int
  | 0 => x.op
  | 1 => x.a
  | 2 => x.b
  | 3 => x.n
  | _ => x.d
def IsNodes (w : World) (v : Value) (ts : List Nd) : Prop :=
  ((∃ p, v = .slice p 0 0) ∧ ts = []) ∨ ∃ b o cap, v = .slice (some ⟨b, o, none⟩) ts.length cap ∧ b < w.heap.size ∧ ts.length ≤ cap ∧ cap ≤ maxLen ∧
    ∀ i (h : i < ts.length) j, j < 5 → w.cell? ⟨b, o + i * 5 + j, none⟩ = some (.int .i64 ((ts[i]).cell j))
theorem IsNodes.later {w w' : World} {v : Value} {ts : List Nd} (h : IsNodes w v ts) (hb : Later w w') : IsNodes w' v ts := by
  rcases h with h | ⟨b, o, cap, h1, h2, h3, h4, h5⟩
  · exact .inl h
  · exact .inr ⟨b, o, cap, h1, Nat.lt_of_lt_of_le h2 (Later.size hb), h3, h4, fun i hi j hj => ((bcell hb).1 _ _ h2).trans (h5 i hi j hj)⟩
theorem IsNodes.form {w : World} {v : Value} {ts : List Nd} (h : IsNodes w v ts) : ∃ p cap, v = .slice p ts.length cap := by
  rcases h with ⟨⟨p, h1⟩, h2⟩ | ⟨b, o, cap, h1, _⟩
  · subst h2; exact ⟨_, _, h1⟩
  · exact ⟨_, _, h1⟩
theorem IsNodes.full {w : World} {v : Value} {ts : List Nd} {i : Nat} (h : IsNodes w v ts) (hi : i < ts.length) :
    ∃ b o cap, v = .slice (some ⟨b, o, none⟩) ts.length cap ∧ b < w.heap.size ∧ ts.length ≤ cap ∧ w.cell? ⟨b, o + i * 5, none⟩ = some (.int .i64 (ts[i]).op) ∧ w.cell? ⟨b, o + i * 5 + 1, none⟩ = some (.int .i64 (ts[i]).a) ∧
      w.cell? ⟨b, o + i * 5 + 2, none⟩ = some (.int .i64 (ts[i]).b) ∧ w.cell? ⟨b, o + i * 5 + 3, none⟩ = some (.int .i64 (ts[i]).n) ∧ w.cell? ⟨b, o + i * 5 + 4, none⟩ = some (.int .i64 (ts[i]).d) := by
  rcases h with ⟨_, rfl⟩ | ⟨b, o, cap, h1, h2, h3, h4, h5⟩
  · simp at hi
  · exact ⟨b, o, cap, h1, h2, h3, h5 i hi 0 (by omega), h5 i hi 1 (by omega), h5 i hi 2 (by omega), h5 i hi 3 (by omega), h5 i hi 4 (by omega)⟩
def kidsEnd (f : Nat → Option Nat) : Nat → Nat → Option Nat
  | 0, k => some k
  | m + 1, k => match f k with
    | none => none
    | some k' => kidsEnd f m k'
def endF (ts : List Nd) : Nat → Nat → Option Nat
  | 0, _ => none
  | fuel + 1, k => match ts[k]? with
    | none => none
    | some x => if makesI x.op = 0 then none else kidsEnd (endF ts fuel) (manyN x.op) (k + 1)
def endN (ts : List Nd) (k : Nat) : Option Nat := endF ts (ts.length + 1 - k) k
def optI : Option Nat → Int
  | none => -1
  | some k => k
theorem kidsEnd_ge {f : Nat → Option Nat} (h : ∀ k r, f k = some r → k ≤ r) : ∀ (m k r : Nat), kidsEnd f m k = some r → k ≤ r
  | 0, k, r, hr => by simp only [kidsEnd, Option.some.injEq] at hr; omega
  | m + 1, k, r, hr => by
    simp only [kidsEnd] at hr
    cases hf : f k with
    | none => rw [hf] at hr; cases hr
    | some k' =>
      rw [hf] at hr
      have h1 := h k k' hf
      have h2 := kidsEnd_ge h m k' r hr
      omega
theorem kidsEnd_congr {f g : Nat → Option Nat} {lo : Nat} (hge : ∀ k r, f k = some r → k ≤ r) (h : ∀ k, lo ≤ k → f k = g k) : ∀ (m k : Nat), lo ≤ k → kidsEnd f m k = kidsEnd g m k
  | 0, k, _ => rfl
  | m + 1, k, hk => by
    simp only [kidsEnd]
    rw [← h k hk]
    cases hf : f k with
    | none => rfl
    | some k' => exact kidsEnd_congr hge h m k' (Nat.le_trans hk (hge k k' hf))
theorem endF_gt (ts : List Nd) : ∀ (fuel k r : Nat), endF ts fuel k = some r → k < r
  | 0, _, _, h => by simp [endF] at h
  | fuel + 1, k, r, h => by
    simp only [endF] at h
    split at h
    · cases h
    · split at h
      · cases h
      · have := kidsEnd_ge (fun k r hr => Nat.le_of_lt (endF_gt ts fuel k r hr)) _ _ _ h
        omega
theorem endF_fuel (ts : List Nd) : ∀ (n k f g : Nat), ts.length + 1 - k ≤ n → ts.length + 1 - k ≤ f → ts.length + 1 - k ≤ g → endF ts f k = endF ts g k := by
  intro n
  induction n with
  | zero =>
    intro k f g hn _ _
    have hk : ts.length < k := by omega
    have hnone : ts[k]? = none := List.getElem?_eq_none (by omega)
    cases f <;> cases g <;> simp [endF, hnone]
  | succ n ih =>
    intro k f g hn hf hg
    by_cases hk : k < ts.length
    · obtain ⟨f, rfl⟩ : ∃ f', f = f' + 1 := ⟨f - 1, by omega⟩
      obtain ⟨g, rfl⟩ : ∃ g', g = g' + 1 := ⟨g - 1, by omega⟩
      simp only [endF]
      split
      · rfl
      · split
        · rfl
        · exact kidsEnd_congr (lo := k + 1) (fun k r hr => Nat.le_of_lt (endF_gt ts _ k r hr)) (fun k' hk' => ih k' f g (by omega) (by omega) (by omega)) _ _ (Nat.le_refl _)
    · have hnone : ts[k]? = none := List.getElem?_eq_none (by omega)
      cases f <;> cases g <;> simp [endF, hnone]
theorem endN_gt {ts : List Nd} {k r : Nat} (h : endN ts k = some r) : k < r := endF_gt ts _ k r h
theorem endN_eq (ts : List Nd) (k : Nat) : endN ts k = match ts[k]? with
    | none => none
    | some x => if makesI x.op = 0 then none else kidsEnd (endN ts) (manyN x.op) (k + 1) := by
  by_cases hk : k < ts.length
  · obtain ⟨f, hf⟩ : ∃ f, ts.length + 1 - k = f + 1 := ⟨ts.length - k, by omega⟩
    show endF ts (ts.length + 1 - k) k = _
    rw [hf]
    simp only [endF]
    split
    · rfl
    · split
      · rfl
      · exact kidsEnd_congr (lo := k + 1) (fun k r hr => Nat.le_of_lt (endF_gt ts _ k r hr)) (fun k' hk' => endF_fuel ts _ k' _ _ (Nat.le_refl _) (by omega) (Nat.le_refl _)) _ _ (Nat.le_refl _)
  · have hnone : ts[k]? = none := List.getElem?_eq_none (by omega)
    unfold endN
    rw [hnone]
    cases ts.length + 1 - k <;> simp [endF, hnone]
theorem endN_none {ts : List Nd} {k : Nat} (h : ts.length ≤ k) : endN ts k = none := by rw [endN_eq, List.getElem?_eq_none h]
theorem endN_le {ts : List Nd} : ∀ {n k r : Nat}, ts.length - k ≤ n → endN ts k = some r → r ≤ ts.length := by
  intro n
  induction n with
  | zero => intro k r hn h; rw [endN_none (by omega)] at h; cases h
  | succ n ih =>
    intro k r hn h
    rw [endN_eq] at h
    by_cases hk : k < ts.length
    · rw [List.getElem?_eq_getElem hk] at h
      simp only at h
      split at h
      · cases h
      · have key : ∀ (m j r : Nat), k + 1 ≤ j → j ≤ ts.length → kidsEnd (endN ts) m j = some r → r ≤ ts.length := by
          intro m
          induction m with
          | zero => intro j r _ hj h; simp only [kidsEnd, Option.some.injEq] at h; omega
          | succ m ihm =>
            intro j r hj1 hj2 h
            simp only [kidsEnd] at h
            cases hf : endN ts j with
            | none => rw [hf] at h; cases h
            | some j' =>
              rw [hf] at h
              have h1 := endN_gt hf
              exact ihm j' r (by omega) (ih (by omega) hf) h
        exact key _ _ _ (Nat.le_refl _) (by omega) h
    · rw [List.getElem?_eq_none (by omega)] at h; cases h
set_option maxHeartbeats 1600000 in
theorem end_any (ts : List Nd) (hlen : ts.length ≤ 100000) : ∀ (n k : Nat) (v : Value) (w : World), ts.length + 1 - k ≤ n → k ≤ 100001 → Shapes w → IsNodes w v ts →
    Calls Tryz.prog 78 #[v, .int .i64 k] w fun e w' => e = .returned (.int .i64 (optI (endN ts k))) ∧ Later w w' := by
  intro n
  induction n with
  | zero =>
    intro k v w hn hk hS hN
    obtain ⟨p, cp, rfl⟩ := hN.form
    rw [endN_none (by omega)]
    have hkl : ts.length ≤ k := by omega
    clear hS hN hn
    generalize ts.length = L at *
    go_enter Tryz.func78, Tryz.ntmps78
    go_wp2
    go_ret
    exact ⟨rfl, Later.refl _⟩
  | succ n ih =>
    intro k v w hn hk hS hN
    by_cases hkl : k < ts.length
    · obtain ⟨b, o, cp, rfl, hb, hcap, g0, -⟩ := hN.full hkl
      have hE := endN_eq ts k
      rw [List.getElem?_eq_getElem hkl] at hE
      simp only at hE
      obtain ⟨op, hop⟩ : ∃ op, (ts[k]).op = op := ⟨_, rfl⟩
      rw [hop] at hE g0
      have HSO := Lib.hid (fun W hW => sort_any op W hW)
      have HOF := Lib.hid (fun W hW => of_shape op W hW)
      have HIH := Lib.hid ih
      unfold shpV at HOF
      clear hop ih
      by_cases hm : makesI op = 0
      · rw [if_pos hm] at hE
        rw [hm] at HSO
        rw [hE]
        clear hE hm
        have HS := Lib.hid hS
        clear hS hN
        generalize ts.length = L at *
        go_enter Tryz.func78, Tryz.ntmps78
        go_wp2_with (go_at_call 121; go_must (refine (HSO.out _ HS.out).mono ?_; rintro e w1 ⟨rfl, hb1⟩))
        go_ret
        exact ⟨rfl, hb1⟩
      · rw [if_neg hm] at hE
        have hm0 : (makesI op == 0) = false := by simpa using hm
        have hml := many_le op
        obtain ⟨m, hme⟩ : ∃ m, manyN op = m := ⟨_, rfl⟩
        obtain ⟨mk, hmk⟩ : ∃ mk, makesI op = mk := ⟨_, rfl⟩
        rw [hme] at hE HOF hml
        rw [hmk] at HSO HOF hm0
        have HE := Lib.hid hE
        have HS := Lib.hid hS
        have HN := Lib.hid hN
        clear hE hS hN hm hme hmk
        obtain ⟨L, hL⟩ : ∃ L, ts.length = L := ⟨_, rfl⟩
        rw [hL] at hlen hn hkl hcap HIH HN ⊢
        have HL := Lib.hid hL
        clear hL
        go_enter Tryz.func78, Tryz.ntmps78
        go_wp2_with (first
          | (go_at_call 121; go_must (refine (HSO.out _ HS.out).mono ?_; rintro e w1 ⟨rfl, hb1⟩; have g1 := ((bcell hb1).1 _ _ hb).trans g0))
          | (go_at_call 122; go_must (refine (HOF.out _ (HS.out.later hb1)).mono ?_; rintro e w2 ⟨rfl, hb2⟩)))
        have hb12 := hb1.trans hb2
        clear hb1 hb2 g0 g1
        have HR := Lib.hid (HS.out.later hb12)
        go_loopw [5, 28] (fun s5 s28 wr => ∃ i j : Nat, i ≤ m ∧ s28 = .int .i64 i ∧ s5 = .int .i64 j ∧ k + 1 ≤ j ∧ j ≤ 100001 ∧ Hid (kidsEnd (endN ts) (m - i) j = endN ts k) ∧ Later w2 wr) (fun _ s28 _ => m - (intOf s28).toNat)
        case atStart => exact ⟨0, k + 1, by omega, rfl, by go_num, by omega, by omega, Lib.hid (by rw [Nat.sub_zero]; exact HE.out.symm), Later.refl _⟩
        case round =>
          obtain ⟨i, j, hi, rfl, rfl, hj, hj2, hkd, hlat⟩ := hrel
          have hlw := hb12.trans hlat
          have HSW := Lib.hid (HR.out.later hlat)
          have HNW := Lib.hid (HN.out.later hlw)
          by_cases him : i < m
          · have hst : kidsEnd (endN ts) (m - i) j = match endN ts j with | none => none | some k' => kidsEnd (endN ts) (m - (i + 1)) k' := by
              rw [show m - i = (m - (i + 1)) + 1 by omega]; rfl
            rw [hkd.out] at hst
            have hle : ∀ r, endN ts j = some r → j < r ∧ r ≤ 100000 := fun r hr => ⟨endN_gt hr, Nat.le_trans (endN_le (Nat.le_refl _) hr) (by rw [HL.out]; exact hlen)⟩
            have HC := Lib.hid (HIH.out j _ wr (by omega) hj2 HSW.out HNW.out)
            obtain ⟨en, hen⟩ : ∃ en, endN ts j = en := ⟨_, rfl⟩
            rw [hen] at hst HC hle
            clear hen hkd
            cases en with
            | none =>
              simp only at hst
              have hst' : optI (endN ts k) = -1 := by rw [hst]; simp only [optI]
              have HF := Lib.hid hst'
              clear hst hst' hle
              simp only [optI] at HC
              go_wp2_with (go_at_call 78; go_must (refine HC.out.mono ?_; rintro e w3 ⟨rfl, hb3⟩))
              go_ret
              exact ⟨ret_int HF.out.symm, hlw.trans hb3⟩
            | some r =>
              simp only at hst
              have HF := Lib.hid hst
              have hr1 := (hle r rfl).1
              have hr2 := (hle r rfl).2
              clear hst hle
              simp only [optI] at HC
              go_wp2_with (go_at_call 78; go_must (refine HC.out.mono ?_; rintro e w3 ⟨rfl, hb3⟩))
              go_roundw
              case rel => exact ⟨i + 1, r, by omega, by go_num, rfl, by omega, by omega, Lib.hid HF.out.symm, hlat.trans hb3⟩
              case measure => simp [intOf]; omega
          · have hz : m - i = 0 := by omega
            have hfin : optI (endN ts k) = j := by rw [← hkd.out, hz]; simp only [kidsEnd, optI]
            have HF := Lib.hid hfin
            clear hz hfin hkd
            go_wp2
            go_ret
            exact ⟨ret_int HF.out.symm, hlw⟩
    · obtain ⟨p, cp, rfl⟩ := hN.form
      rw [endN_none (by omega)]
      have hkl : ts.length ≤ k := by omega
      clear hS hN hn ih
      generalize ts.length = L at *
      go_enter Tryz.func78, Tryz.ntmps78
      go_wp2
      go_ret
      exact ⟨rfl, Later.refl _⟩
end Go.Proofs.YtkjabiabeemfhaaGreatDoor
end
section
namespace Go.Proofs.YtkjabiabeemfhaaGreatDoor
open Go.RowKit
set_option maxRecDepth 100000
theorem name_one : (⟨#[111]⟩ : ByteArray).toList.isEmpty = false := by decide +kernel
theorem name_two : (⟨#[99]⟩ : ByteArray).toList.isEmpty = false := by decide +kernel
def sortS (op : Int) : ByteArray := if op < 1 ∨ 17 < op then ⟨#[]⟩ else if op < 9 then ⟨#[111]⟩ else ⟨#[99]⟩
def kidsS (op : Int) : ByteArray := if op < 1 ∨ 17 < op then ⟨#[]⟩ else
  [⟨#[]⟩, ⟨#[]⟩, ⟨#[111]⟩, ⟨#[111, 111]⟩, ⟨#[111, 111]⟩, ⟨#[111, 111]⟩, ⟨#[111, 111]⟩, ⟨#[111, 111]⟩, ⟨#[]⟩, ⟨#[]⟩, ⟨#[99]⟩, ⟨#[99, 99]⟩, ⟨#[111, 99]⟩, ⟨#[99]⟩, ⟨#[111, 111, 99, 99]⟩, ⟨#[99, 99]⟩, ⟨#[99]⟩].getD (op.toNat - 1) ⟨#[]⟩
theorem ops17 {p : Int → Prop} (h0 : ∀ op, (op < 1 ∨ 17 < op) → p op) (h1 : p 1) (h2 : p 2) (h3 : p 3) (h4 : p 4) (h5 : p 5) (h6 : p 6) (h7 : p 7) (h8 : p 8) (h9 : p 9) (h10 : p 10) (h11 : p 11) (h12 : p 12) (h13 : p 13) (h14 : p 14) (h15 : p 15) (h16 : p 16) (h17 : p 17) (op : Int) : p op := by
  by_cases h : op < 1 ∨ 17 < op
  · exact h0 op h
  · have : op = 1 ∨ op = 2 ∨ op = 3 ∨ op = 4 ∨ op = 5 ∨ op = 6 ∨ op = 7 ∨ op = 8 ∨ op = 9 ∨ op = 10 ∨ op = 11 ∨ op = 12 ∨ op = 13 ∨ op = 14 ∨ op = 15 ∨ op = 16 ∨ op = 17 := by omega
    rcases this with rfl | rfl | rfl | rfl | rfl | rfl | rfl | rfl | rfl | rfl | rfl | rfl | rfl | rfl | rfl | rfl | rfl <;> assumption
theorem kids_size (op : Int) : (kidsS op).size = manyN op := by
  revert op
  refine ops17 ?_ rfl rfl rfl rfl rfl rfl rfl rfl rfl rfl rfl rfl rfl rfl rfl rfl rfl
  intro op h
  unfold kidsS manyN; rw [if_pos h, if_pos h]; rfl
theorem makes_sort (op : Int) : (sortS op = ⟨#[]⟩) ↔ makesI op = 0 := by
  unfold sortS makesI
  by_cases h : op < 1 ∨ 17 < op
  · rw [if_pos h, if_pos h]; simp
  · rw [if_neg h, if_neg h]
    by_cases h2 : op < 9
    · rw [if_pos h2, if_pos (by omega)]; simp
    · rw [if_neg h2, if_neg (by omega)]; simp
set_option maxHeartbeats 400000 in
theorem rsort_any (op : Int) (w : World) :
    Calls Tryz.prog 114 #[.int .i64 op] w fun e w' => e = .returned (.string (sortS op)) ∧ w = w' := by
  by_cases h1 : op < 1
  · have hs : sortS op = ⟨#[]⟩ := if_pos (.inl h1)
    rw [hs]
    clear hs
    go_enter Tryz.func114, Tryz.ntmps114
    go_wp2
    go_ret
    exact ⟨rfl, rfl⟩
  by_cases h2 : 17 < op
  · have hs : sortS op = ⟨#[]⟩ := if_pos (.inr h2)
    rw [hs]
    clear hs
    go_enter Tryz.func114, Tryz.ntmps114
    go_wp2
    go_ret
    exact ⟨rfl, rfl⟩
  by_cases h3 : op < 9
  · have hs : sortS op = ⟨#[111]⟩ := by unfold sortS; rw [if_neg (by omega), if_pos h3]
    rw [hs]
    clear hs
    go_enter Tryz.func114, Tryz.ntmps114
    go_wp2
    go_ret
    exact ⟨rfl, rfl⟩
  · have hs : sortS op = ⟨#[99]⟩ := by unfold sortS; rw [if_neg (by omega), if_neg h3]
    rw [hs]
    clear hs
    go_enter Tryz.func114, Tryz.ntmps114
    go_wp2
    go_ret
    exact ⟨rfl, rfl⟩
set_option maxHeartbeats 800000 in
theorem rkids_any (op : Int) (w : World) :
    Calls Tryz.prog 99 #[.int .i64 op] w fun e w' => e = .returned (.string (kidsS op)) ∧ Later w w' := by
  by_cases h1 : op < 1
  · have hs : kidsS op = ⟨#[]⟩ := if_pos (.inl h1)
    rw [hs]
    clear hs
    go_enter Tryz.func99, Tryz.ntmps99
    go_wp2
    go_ret
    exact ⟨rfl, Later.refl _⟩
  by_cases h2 : 17 < op
  · have hs : kidsS op = ⟨#[]⟩ := if_pos (.inr h2)
    rw [hs]
    clear hs
    go_enter Tryz.func99, Tryz.ntmps99
    go_wp2
    go_ret
    exact ⟨rfl, Later.refl _⟩
  · obtain ⟨k, hk⟩ : ∃ k : Nat, op = (k : Int) + 1 := ⟨op.toNat - 1, by omega⟩
    subst hk
    have hk17 : k < 17 := by omega
    go_enter Tryz.func99, Tryz.ntmps99
    go_upto_region 4 with fail
    refine wp_opaque (fun w0 hb0 => ?_)
    obtain ⟨z, c, -⟩ := own_get (Own.one hb0)
    have hlw := hb0.un1
    have hc : w0.cell? ⟨w.heap.size, k, none⟩ = some (.string (kidsS ((k : Int) + 1))) := by
      rw [c]
      clear c z hb0 hlw h1 h2
      rcases k with _ | _ | _ | _ | _ | _ | _ | _ | _ | _ | _ | _ | _ | _ | _ | _ | _ | k
      all_goals first | rfl | omega
    obtain ⟨s, hs⟩ : ∃ s, kidsS ((k : Int) + 1) = s := ⟨_, rfl⟩
    rw [hs] at hc
    have HS := Lib.hid hs
    clear c hb0 z hs
    go_wp2
    go_ret
    exact ⟨by rw [HS.out]; rfl, hlw⟩
def withinB (n m : Int) : Bool := decide (0 ≤ n) && decide (n ≤ m)
set_option maxHeartbeats 400000 in
theorem within_any (n m : Int) (w : World) :
    Calls Tryz.prog 162 #[.int .i64 n, .int .i64 m] w fun e w' => e = .returned (.bool (withinB n m)) ∧ w = w' := by
  by_cases h1 : 0 ≤ n
  · have hs : withinB n m = decide (n ≤ m) := by simp [withinB, h1]
    rw [hs]
    clear hs
    go_enter Tryz.func162, Tryz.ntmps162
    go_wp2
    go_ret
    exact ⟨rfl, rfl⟩
  · have hs : withinB n m = false := by simp [withinB, h1]
    rw [hs]
    clear hs
    go_enter Tryz.func162, Tryz.ntmps162
    go_wp2
    go_ret
    exact ⟨rfl, rfl⟩
theorem kidsEnd_add (f : Nat → Option Nat) : ∀ (m a j : Nat), kidsEnd f (m + a) j = match kidsEnd f m j with | none => none | some j' => kidsEnd f a j'
  | 0, a, j => by rw [Nat.zero_add]; rfl
  | m + 1, a, j => by
    rw [Nat.succ_add]
    simp only [kidsEnd]
    cases f j with
    | none => rfl
    | some k' => exact kidsEnd_add f m a k'
theorem kidsEnd_one (f : Nat → Option Nat) (j : Nat) : kidsEnd f 1 j = f j := by
  simp only [kidsEnd]; cases f j <;> rfl
theorem await_step (ts : List Nd) (a j : Nat) (x : Nd) (hx : ts[j]? = some x) (hm : makesI x.op ≠ 0) : kidsEnd (endN ts) (a + 1) j = kidsEnd (endN ts) (a + manyN x.op) (j + 1) := by
  rw [Nat.add_comm a (manyN x.op), kidsEnd_add (endN ts) (manyN x.op)]
  show (match endN ts j with | none => none | some k' => kidsEnd (endN ts) a k') = _
  rw [endN_eq, hx]
  simp only
  rw [if_neg hm]
theorem await_none (ts : List Nd) (a j : Nat) (h : ts.length ≤ j ∨ ∃ x, ts[j]? = some x ∧ makesI x.op = 0) : kidsEnd (endN ts) (a + 1) j = none := by
  show (match endN ts j with | none => none | some k' => kidsEnd (endN ts) a k') = none
  rcases h with h | ⟨x, hx, hm⟩
  · rw [endN_none h]
  · rw [endN_eq, hx]; simp only; rw [if_pos hm]
def sizeN (ts : List Nd) (k : Nat) : Nat := match endN ts k with | none => 0 | some r => r - k
set_option maxHeartbeats 1600000 in
theorem rsize_any (ts : List Nd) (k : Nat) (v : Value) (w : World) (hlen : ts.length ≤ 100000) (hk : k ≤ 100001) (hN : IsNodes w v ts) :
    Calls Tryz.prog 100 #[v, .int .i64 k] w fun e w' => e = .returned (.int .i64 (sizeN ts k)) ∧ Later w w' := by
  obtain ⟨p, cp, rfl⟩ := hN.form
  obtain ⟨L, hL⟩ : ∃ L, ts.length = L := ⟨_, rfl⟩
  rw [hL] at hN hlen ⊢
  have HL := Lib.hid hL
  clear hL
  go_enter Tryz.func100, Tryz.ntmps100
  go_wp2
  go_loopw [5, 6] (fun s5 s6 wr => ∃ a n : Nat, s5 = .int .i64 a ∧ s6 = .int .i64 n ∧ a ≤ 1 + 4 * n ∧ k + n ≤ max L k ∧ Hid (kidsEnd (endN ts) a (k + n) = endN ts k) ∧ Later w wr) (fun _ s6 _ => max L k + 1 - (k + (intOf s6).toNat))
  case atStart => exact ⟨1, 0, rfl, rfl, by omega, by omega, Lib.hid (kidsEnd_one _ _), Later.refl _⟩
  case round =>
    obtain ⟨a, n, rfl, rfl, ha, hn, hkd, hlat⟩ := hrel
    rcases a with _ | a
    · have hfin : sizeN ts k = n := by
        unfold sizeN
        rw [← hkd.out]
        simp only [kidsEnd]
        omega
      have HF := Lib.hid hfin
      clear hfin hkd
      go_wp2
      go_ret
      exact ⟨ret_int (by rw [HF.out]), hlat⟩
    · by_cases hj : k + n < L
      · obtain ⟨b, o, cp', hv, hb, hcap, g0, -⟩ := hN.full (i := k + n) (by rw [HL.out]; exact hj)
        rw [HL.out] at hv
        cases hv
        have g1 := ((bcell hlat).1 _ _ hb).trans g0
        clear g0
        have hx : ts[k + n]? = some (ts[k + n]'(by rw [HL.out]; exact hj)) := List.getElem?_eq_getElem _
        obtain ⟨x, hxe⟩ : ∃ x, ts[k + n]'(by rw [HL.out]; exact hj) = x := ⟨_, rfl⟩
        rw [hxe] at hx g1
        clear hxe
        by_cases hm : makesI x.op = 0
        · have hnone := await_none ts a (k + n) (.inr ⟨x, hx, hm⟩)
          rw [hkd.out] at hnone
          have hfin : sizeN ts k = 0 := by unfold sizeN; rw [hnone]
          have hs := (makes_sort x.op).2 hm
          have HF := Lib.hid hfin
          have HS := Lib.hid hs
          clear hfin hkd hnone hs hm hx
          go_wp2_with (go_at_call 114; go_must (refine (rsort_any _ _).mono ?_; rw [HS.out]; rintro e w1 ⟨rfl, rfl⟩))
          go_ret
          exact ⟨ret_int (by rw [HF.out]; rfl), hlat⟩
        · have hst := await_step ts a (k + n) x hx hm
          rw [hkd.out] at hst
          have HN := Lib.hid hst
          have hml := many_le x.op
          have hsz := Lib.hid (kids_size x.op)
          have hs : (sortS x.op).toList.isEmpty = false := by
            have h1 : sortS x.op ≠ ⟨#[]⟩ := fun h => hm ((makes_sort x.op).1 h)
            unfold sortS at h1 ⊢
            split
            · rename_i h; rw [if_pos h] at h1; exact absurd rfl h1
            · split
              · exact name_one
              · exact name_two
          have HSK := Lib.hid (fun W => rkids_any x.op W)
          clear hst hkd hm hx
          obtain ⟨m, hme⟩ : ∃ m, manyN x.op = m := ⟨_, rfl⟩
          obtain ⟨ks, hks⟩ : ∃ ks, kidsS x.op = ks := ⟨_, rfl⟩
          rw [hme] at HN hml hsz
          rw [hks] at hsz HSK
          have hks2 := hsz.out
          subst hks2
          clear hme hks hsz
          go_wp2_with (first
            | (go_at_call 114; go_must (refine (rsort_any _ _).mono ?_; rintro e w1 ⟨rfl, rfl⟩))
            | (go_at_call 99; go_must (refine (HSK.out _).mono ?_; rintro e w2 ⟨rfl, hb2⟩)))
          go_roundw
          case rel => exact ⟨a + ks.size, n + 1, by go_num, by go_num, by omega, by omega, Lib.hid HN.out.symm, hlat.trans hb2⟩
          case measure => simp [intOf]; omega
      · have hnone := await_none ts a (k + n) (.inl (by rw [HL.out]; omega))
        rw [hkd.out] at hnone
        have hfin : sizeN ts k = 0 := by unfold sizeN; rw [hnone]
        have HF := Lib.hid hfin
        clear hfin hkd hnone
        go_wp2
        go_ret
        exact ⟨ret_int (by rw [HF.out]; rfl), hlat⟩
end Go.Proofs.YtkjabiabeemfhaaGreatDoor
end
