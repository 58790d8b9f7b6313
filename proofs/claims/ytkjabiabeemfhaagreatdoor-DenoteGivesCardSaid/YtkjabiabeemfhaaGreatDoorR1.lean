/- what is given, twice (plain) -/
import Derived.Test.YtkjabiabeemfhaaGreatDoorQ10
import Derived.Test.YtkjabiabeemfhaaGreatDoorQ9
import Derived.Test.YtkjabiabeemfhaaGreatDoorQ4
import Derived.Test.YtkjabiabeemfhaaGreatDoorQ3
import Derived.Test.YtkjabiabeemfhaaGreatDoorQ2
import Derived.Test.YtkjabiabeemfhaaGreatDoorRows
import Derived.Test.YtkjabiabeemfhaaGreatDoorQ1
import Derived.Shelf.Small.Bits
import Derived.Shelf.Small.Wraps
import Derived.Shelf.Strconv.Itoa0
import Derived.Shelf.Bits.Mul64
import Derived.Ground.Names2Prog
import Derived.Shelf.Slices.Clone
import Derived.Shelf.Slices.SearchI
import Derived.Ground.SlgnProg
import Derived.Shelf.SlicesE.Clone
import Derived.Shelf.SlLaysF0
import Derived.Ground.SlsfProg
import Derived.Test.YtkjabiabeemfhaaGreatDoorProg
import Derived.WalkKit
import Derived.Lib.BitFns
import Derived.Lib.ItoaNum
import Derived.WalkSpells
import Derived.WalkSmall
import Derived.WalkLawsBesides
import Derived.BigQuiet
import Derived.Deep.RegionHeld3
import Derived.Deep.DeepCutAuto
import Derived.Deep.CutBlock
import Derived.Lib.Hide
import Derived.Deep.Quiet
import Derived.Below
import Derived.OrdersHeld
import Derived.Shelf.Spec.BitsCarry
import Derived.Laws.AppendOwnNone
import Derived.OwnWalk
import Derived.Great.BuildSlice
import Derived.Test.YtkjabiabeemfhaaGreatDoorQ8
import Derived.Test.YtkjabiabeemfhaaGreatDoorQ6
import Derived.Test.YtkjabiabeemfhaaGreatDoorQ5
import Derived.Test.YtkjabiabeemfhaaGreatDoorQ7
import Derived.Test.YtkjabiabeemfhaaGreatDoorQ17
import Derived.Test.YtkjabiabeemfhaaGreatDoorQ16
import Derived.ArgAppend
import Derived.Test.YtkjabiabeemfhaaGreatDoorQ15
import Derived.Test.YtkjabiabeemfhaaGreatDoorQ14
import Derived.Test.YtkjabiabeemfhaaGreatDoorQ13
import Derived.Test.YtkjabiabeemfhaaGreatDoorQ12
import Derived.DeepKeys4
import Derived.Maps.Own
import Derived.Test.YtkjabiabeemfhaaGreatDoorQ11
import Derived.RangeFuncNested
import Derived.RangeFuncBound
import Derived.RangeFuncCalls
import Derived.RangeFuncLeaves
import Derived.Shelf.Abstract
import Derived.Shelf.RegionOpen
import Derived.OwnWalkIn
import Derived.TacticsInMore
import Derived.LoopNIn
import Derived.LoopIn
import Derived.Deep.LoopGhost
import Derived.WalkMore
import Derived.Lib.Strings
import Derived.Test.YtkjabiabeemfhaaGreatDoorQ31
import Derived.Test.YtkjabiabeemfhaaGreatDoorQ18
import Derived.Shelf.SlSortCmp.Insertion
import Derived.Laws.IdiomCopy
import Derived.Deep.Upon
import Derived.Shelf.GgSortFunc.InsertionK
import Derived.Test.YtkjabiabeemfhaaGreatDoorQ33
import Derived.Test.YtkjabiabeemfhaaGreatDoorQ19
import Derived.Test.YtkjabiabeemfhaaGreatDoorQ34
set_option linter.all false
set_option linter.all false
section
/- terms as trees, and the places of their nodes in a row -/
namespace Go.Proofs.YtkjabiabeemfhaaGreatDoor
open Go.RowKit
set_option maxRecDepth 100000

namespace Tm
theorem oks_iff (l : List Tm) : ok.oks l ↔ ∀ t ∈ l, ok t := by
  induction l with
  | nil => simp [ok.oks]
  | cons t r ih => simp [ok.oks, ih]
end Tm

end Go.Proofs.YtkjabiabeemfhaaGreatDoor
end
section
/- rows of a call's own that are put behind, one beside the other: no base world, a base number alone -/
namespace Go.Proofs.YtkjabiabeemfhaaGreatDoor
open Go.RowKit
set_option maxRecDepth 100000
namespace B

section
variable {P : Program} {w : World} {e sz base : Nat} {v : Value} {n : Nat} {xs : List Value}
end

section
variable {w w' : World} {e sz base : Nat} {v u : Value} {n : Nat} {xs : List Value}
end
section
variable {α : Type} {sz : Nat} {f : α → Nat → Value} {w : World} {v : Value} {xs : List α}
theorem cellsAt (h : IsRow sz f w v xs) (cs : α → List Value) (hcs : ∀ x, (cs x).length = sz) (hf : ∀ x j, j < sz → (cs x)[j]? = some (f x j)) (hsz : 0 < sz) (h0 : v ≠ .slice none 0 0) :
    ∃ ad cap, v = .slice (some ad) xs.length cap ∧ xs.length ≤ maxLen ∧ ∀ j u, (xs.flatMap cs)[j]? = some u → w.cell? (ad.add j) = some u := by
  rcases h with ⟨⟨p, h1⟩, h2⟩ | ⟨b, o, cap, h1, h2, h3, h4, h5⟩
  · subst h2
    cases p with
    | none => exact absurd h1 h0
    | some ad => exact ⟨ad, 0, h1, by simp, fun j u hj => by simp at hj⟩
  · refine ⟨⟨b, o, Option.none⟩, cap, h1, Nat.le_trans h3 h4, fun j u hj => ?_⟩
    have hjl : j < (xs.flatMap cs).length := (List.getElem?_eq_some_iff.1 hj).1
    rw [flat_len cs hcs] at hjl
    have hi : j / sz < xs.length := by rw [Nat.div_lt_iff_lt_mul hsz]; exact hjl
    have hm := Nat.mod_lt j hsz
    have e : j = j / sz * sz + j % sz := by rw [Nat.mul_comm]; exact (Nat.div_add_mod j sz).symm
    have e2 := h5 (j / sz) hi (j % sz) hm
    rw [add_plain, ← hj]
    rw [e, flat_get cs hcs xs (j / sz) hi (j % sz) hm, hf _ _ hm, ← Nat.add_assoc]
    exact e2
/-- A row is put behind a row of a call's own. -/
theorem wpList_rows {P : Program} {base : Nat} {e t bytes : Nat} {V : Value} {L : List α} {ops : Array Oper} {rest : List Oper} {o : Oper} {a : Act} {Q : Exit → Act → World → Prop} (cs : α → List Value) (hcs : ∀ x, (cs x).length = sz) (hf : ∀ x j, j < sz → (cs x)[j]? = some (f x j)) (h1 : ∀ x, ∀ u ∈ cs x, u.oneCell' = true)
    (T : SliceOf P t e sz bytes) (hM : w.ownsRow base e sz V L.length (L.flatMap cs)) (hbase : base ≤ w.heap.size) (hN : IsRow sz f w v xs) (hgd : o.guard = none) (s x : Operand)
    (ho : o.op = .call { callee := .builtin .append, args := #[s, x], argTypes := #[t, t] }) (hs : a.eval s = V) (hx : a.eval x = v) (h64 : L.length + xs.length ≤ 1000000) (hb : bytes ≤ 1000)
    (h : ∀ v' w', w'.ownsRow base e sz v' (L ++ xs).length ((L ++ xs).flatMap cs) → w.grownBy w' V.ownBlock → (v'.ownBlock = V.ownBlock ∨ ∀ k, v'.ownBlock = some k → w.heap.size ≤ k) → wpList P ops Q rest (a.put o.dst v') w') : wpList P ops Q (o :: rest) a w := by
  have hsz : 0 < sz := by obtain ⟨_, _, _, _, _, _, _, _, h⟩ := T; exact h
  by_cases h0 : v = .slice Option.none 0 0
  · have hx0 : xs = [] := by
      rcases hN with ⟨_, h2⟩ | ⟨b', o', c', h1, _⟩
      · exact h2
      · rw [h0] at h1; cases h1
    subst hx0
    subst h0
    obtain ⟨i, z, t1, t2, t3, t4, t5, t6, t7⟩ := T
    exact wpList_append_own_none hgd s x t ho base e i sz t1 t2 V L.length (L.flatMap cs) hs hM hx (h V w (by rw [List.append_nil]; exact hM) ⟨rfl, rfl, rfl, Nat.le_refl _, fun _ _ _ => rfl⟩ (.inl rfl))
  · obtain ⟨ad, c, rfl, _, hc⟩ := cellsAt hN cs hcs hf hsz h0
    refine wpList_app T hM hbase hgd s x ho hs ad xs.length c (xs.flatMap cs) hx (flat_len (sz := sz) cs hcs xs) hc (fun u hu => ?_) ?_ (by unfold maxLen; omega) (fun v' w' h1 h2 h3 => h v' w' ?_ h2 h3)
    · obtain ⟨y, _, hy⟩ := List.mem_flatMap.1 hu
      exact h1 y u hy
    · have := Nat.mul_le_mul h64 hb
      omega
    · rw [List.length_append, List.flatMap_append]
      exact h1
end
end B
end Go.Proofs.YtkjabiabeemfhaaGreatDoor
end
section
/- rows of nodes that a call puts together: a literal, and rows behind it -/
namespace Go.Proofs.YtkjabiabeemfhaaGreatDoor
open Go.RowKit
set_option maxRecDepth 100000

theorem nodeInfo : (Tryz.prog.info? 61).map (fun i => (i.zero, i.size, i.bytes)) = some (some (.agg #[.int .i64 0, .int .i64 0, .int .i64 0, .int .i64 0, .int .i64 0]), 5, 40) := by kernel_rfl
theorem sliceNode : SliceOf Tryz.prog 22 61 5 40 := sliceOf_mk Tryz.underlying22 nodeInfo rfl (by decide)
/-- A row of nodes that a call made. -/
def MineN (w0 w : World) (v : Value) (L : List Nd) : Prop := Mine w0 61 5 w v L.length (L.flatMap ndCs)
theorem MineN.later {w0 w w' : World} {v : Value} {L : List Nd} (h : MineN w0 w v L) (hb : Later w w') : MineN w0 w' v L := Mine.later h hb
theorem MineN.lat {w0 w : World} {v : Value} {L : List Nd} (h : MineN w0 w v L) : Later w0 w := Mine.lat h
theorem MineN.nodes {w0 w : World} {v : Value} {L : List Nd} (h : MineN w0 w v L) : IsNodes w v L := (Mine.row_ (sz := 5) (f := fun (y : Nd) j => .int .i64 (y.cell j)) ndCs (fun _ => rfl) ndCs_cell (by decide) h).1
theorem MineN.form {w0 w : World} {v : Value} {L : List Nd} (h : MineN w0 w v L) : ∃ p cap, v = .slice p L.length cap := Mine.form h
theorem ndCs_cells (x : Nd) : ∀ u ∈ ndCs x, u.oneCell' = true := by
  intro u hu
  simp only [ndCs, List.mem_cons, List.not_mem_nil, or_false] at hu
  rcases hu with rfl | rfl | rfl | rfl | rfl <;> rfl
theorem wpList_nodes {w0 w : World} {v V : Value} {L ts : List Nd} {ops : Array Oper} {rest : List Oper} {o : Oper} {a : Act} {Q : Exit → Act → World → Prop} (hM : MineN w0 w v L) (hN : IsNodes w V ts) (hgd : o.guard = none) (s x : Operand)
    (ho : o.op = .call { callee := .builtin .append, args := #[s, x], argTypes := #[22, 22] }) (hs : a.eval s = v) (hx : a.eval x = V) (h64 : L.length + ts.length ≤ 1000000)
    (h : ∀ v' w', MineN w0 w' v' (L ++ ts) → Later w0 w' → wpList Tryz.prog ops Q rest (a.put o.dst v') w') : wpList Tryz.prog ops Q (o :: rest) a w := by
  refine B.wpList_rows (f := fun (y : Nd) j => .int .i64 (y.cell j)) (base := w0.heap.size) ndCs (fun _ => rfl) ndCs_cell ndCs_cells sliceNode hM.1 (Later.size hM.lat) hN hgd s x ho hs hx h64 (by decide) (fun v' w' h1 h2 _ => ?_)
  have hl := Later.grown hM.lat h2 (fun k hk => (hM.1.lt k hk).1)
  exact h v' w' ⟨h1, hl⟩ hl
end Go.Proofs.YtkjabiabeemfhaaGreatDoor
end
section
/- flows and waits in order: one more is put in its place (plain) -/
namespace Go.Proofs.YtkjabiabeemfhaaGreatDoor
open Go.RowKit Go.Sort

/-! Put in place -/
section
variable {α : Type} {cf : α → α → Int}
def insL (cf : α → α → Int) (l : List α) (x : α) : List α := l.takeWhile (fun y => !(ltOf cf) x y) ++ x :: l.dropWhile (fun y => !(ltOf cf) x y)
theorem insL_perm (l : List α) (x : α) : (insL cf l x).Perm (l ++ [x]) := by
  unfold insL
  refine List.perm_middle.trans ?_
  rw [List.takeWhile_append_dropWhile]
  exact (List.perm_append_singleton x l).symm
theorem drop_head {p : α → Bool} {l : List α} {y : α} {r : List α} (h : l.dropWhile p = y :: r) : p y = false := by
  induction l with
  | nil => cases h
  | cons a l ih =>
    rw [List.dropWhile_cons] at h
    split at h
    · exact ih h
    · rename_i h1
      cases h
      simpa using h1
theorem insL_sorted (hO : SWO (ltOf cf)) {l : List α} (h : l.Pairwise (fun x y => ltOf cf y x = false)) (x : α) : (insL cf l x).Pairwise (fun x y => ltOf cf y x = false) := by
  unfold insL
  have h0 := h
  rw [← List.takeWhile_append_dropWhile (p := fun y => !(ltOf cf) x y) (l := l)] at h0
  rw [List.pairwise_append] at h0 ⊢
  obtain ⟨h1, h2, h3⟩ := h0
  have h4 : ∀ a ∈ l.takeWhile (fun y => !(ltOf cf) x y), ltOf cf x a = false := fun a ha => by
    have := List.all_eq_true.1 (List.all_takeWhile (l := l) (p := fun y => !(ltOf cf) x y)) a ha
    simpa using this
  refine ⟨h1, List.pairwise_cons.2 ⟨fun b hb => ?_, h2⟩, fun a ha b hb => ?_⟩
  · cases hd : l.dropWhile (fun y => !(ltOf cf) x y) with
    | nil => rw [hd] at hb; cases hb
    | cons y r =>
      have hy := drop_head hd
      have hy' : ltOf cf x y = true := by simpa using hy
      have hyx : ltOf cf y x = false := by
        cases e : ltOf cf y x with
        | false => rfl
        | true => have := hO.trans y x y e hy'; rw [hO.irrefl] at this; cases this
      rw [hd] at hb h2
      rcases List.mem_cons.1 hb with rfl | hb
      · exact hyx
      · exact hO.ntrans b y x ((List.pairwise_cons.1 h2).1 b hb) hyx
  · rcases List.mem_cons.1 hb with rfl | hb
    · exact h4 a ha
    · exact h3 a ha b hb
theorem sort_put (hO : SWO (ltOf cf)) (hT : ∀ x y, (ltOf cf) x y = false → (ltOf cf) y x = false → x = y) (l : List α) (x : α) : insL cf (sortL cf l) x = sortL cf (l ++ [x]) := by
  refine order_unique hT ?_ (insL_sorted hO (sortL_sorted hO hT l) x) (sortL_sorted hO hT _)
  exact (insL_perm _ _).trans (((sortL_perm cf l).append_right [x]).trans (sortL_perm cf _).symm)
/-! Each once -/
end
section
variable {α : Type} [DecidableEq α]
theorem cmpL_le : ∀ l : List α, (cmpL l).length ≤ l.length
  | [] => Nat.le_refl _
  | [_] => Nat.le_refl _
  | a :: b :: r => by
    have := cmpL_le (b :: r)
    unfold cmpL
    split
    · simp only [List.length_cons] at this ⊢; omega
    · simp only [List.length_cons] at this ⊢; omega
end
end Go.Proofs.YtkjabiabeemfhaaGreatDoor
end
section
/- denote: flows in order, waits in order (plain) -/
namespace Go.Proofs.YtkjabiabeemfhaaGreatDoor
open Go.RowKit
set_option maxRecDepth 100000

theorem waits_few (env : Env) (ts : List Nd) (day tod : Int) : (waitsT env ts day tod).length ≤ 8192 := by
  unfold waitsT waitL; exact Nat.le_trans (cmpL_le _) (by rw [(sortL_perm _ _).length_eq]; exact (out_few env ts day tod).2)
end Go.Proofs.YtkjabiabeemfhaaGreatDoor
end
section
/- chattellaw09.Flows, Waits: whether two lists are the same -/
namespace Go.Proofs.YtkjabiabeemfhaaGreatDoor
open Go.RowKit
set_option maxRecDepth 100000

set_option maxHeartbeats 1600000 in
theorem lwaits_any (xs ys : List Wt) (u v : Value) (w : World) (hN : IsWaits w u xs) (hM : IsWaits w v ys) (hlen0 : xs.length ≤ 1000000) :
    Calls Tryz.prog 29 #[u, v] w fun e w' => e = .returned (.bool (decide (xs = ys))) ∧ Later w w' := by
  obtain ⟨p, cp, rfl⟩ := hN.form
  obtain ⟨q, cq, rfl⟩ := hM.form
  have HN := Lib.hid hN
  have HM := Lib.hid hM
  obtain ⟨R, hR⟩ : ∃ R, decide (xs = ys) = R := ⟨_, rfl⟩
  rw [hR]
  have HR := Lib.hid hR
  obtain ⟨N, hNL⟩ : ∃ N, xs.length = N := ⟨_, rfl⟩
  obtain ⟨M, hML⟩ : ∃ M, ys.length = M := ⟨_, rfl⟩
  rw [hNL] at HN hlen0 ⊢
  rw [hML] at HM ⊢
  have HL := Lib.hid (show xs.length = N ∧ ys.length = M from ⟨hNL, hML⟩)
  clear hR hN hM hNL hML
  by_cases hlen : N = M
  · subst hlen
    go_enter Tryz.func29, Tryz.ntmps29
    go_wp2
    go_loopw [5] (fun s5 wr => ∃ j : Nat, j ≤ N ∧ s5 = .int .i64 j ∧ Hid (∀ i (h1 : i < xs.length) (h2 : i < ys.length), i < j → xs[i] = ys[i]) ∧ Later w wr) (fun s5 _ => N - (intOf s5).toNat)
    case atStart => exact ⟨0, Nat.zero_le _, rfl, Lib.hid (fun i _ _ h => by omega), Later.refl _⟩
    case round =>
      obtain ⟨j, hj, rfl, hall, hlat⟩ := hrel
      by_cases hlt : j < N
      · have hjx : j < xs.length := by rw [HL.out.1]; exact hlt
        have hjy : j < ys.length := by rw [HL.out.2]; exact hlt
        obtain ⟨b, o, c1, hv, hb, g⟩ := HN.out.full (i := j) hjx
        obtain ⟨b', o', c2, hv', hb', g'⟩ := HM.out.full (i := j) hjy
        rw [HL.out.1] at hv
        rw [HL.out.2] at hv'
        cases hv
        cases hv'
        have e0 := ((bcell hlat).1 _ _ hb).trans (g 0 (by decide))
        have e1 := ((bcell hlat).1 _ _ hb).trans (g 1 (by decide))
        have e2 := ((bcell hlat).1 _ _ hb).trans (g 2 (by decide))
        have f0 := ((bcell hlat).1 _ _ hb').trans (g' 0 (by decide))
        have f1 := ((bcell hlat).1 _ _ hb').trans (g' 1 (by decide))
        have f2 := ((bcell hlat).1 _ _ hb').trans (g' 2 (by decide))
        simp only [wtF, Nat.add_zero] at e0 e1 e2 f0 f1 f2
        by_cases heq : xs[j] = ys[j]
        · have HA : Hid (∀ i (h1 : i < xs.length) (h2 : i < ys.length), i < j + 1 → xs[i] = ys[i]) := Lib.hid (fun i h1 h2 h3 => by
            by_cases h : i = j
            · subst h; exact heq
            · exact hall.out i h1 h2 (by omega))
          rw [← heq] at f0 f1 f2
          clear g g' HN HM hall heq
          generalize (xs[j]).cho = x0 at *
          generalize (xs[j]).key = x1 at *
          generalize (xs[j]).day = x2 at *
          go_upto_region 6 with (fail)
          refine wp_region_plan 9 (.done [0, 1, 2, 3, 4, 5, 6, 7, 8]) (by kernel_rfl) (by kernel_rfl) (fun _ _ d _ _ h => by cases d <;> exact h) ?_
          repeat' (first
            | (refine plan_done (fun K hK => ?_); (first | (simp only [pick_cons, pick_nil, toList_some_append, List.getElem?_toArray, List.getElem?_cons_zero, List.getElem?_cons_succ]; repeat (go_big_quiet_step (fail))) | simp only [pick_nil]); refine wpQuiet_nil (hK _ ?_); clear hK K)
            | ((with_reducible refine at_list ?_); go_wp2_with (fail); first | refine behind_store (t := 9) (by decide) ?_ | refine behind (by repeat (first | with_reducible exact Later.refl _ | with_reducible assumption | with_reducible refine Later.ofdrew ?_ | with_reducible refine Later.ofdrewN ?_ | with_reducible refine Later.alloc ?_ _ | with_reducible refine Later.drewN ?_ _ | with_reducible refine Later.drew ?_ | (with_reducible refine Later.trans ?_ (by assumption)))) ?_))
          go_wp2
          go_roundw
          case rel => exact ⟨j + 1, by omega, by go_num, HA, hlat.drew⟩
          case measure => simp [intOf]; omega
        · have HF : Hid (R = false) := Lib.hid (by rw [← HR.out, decide_eq_false_iff_not]; intro e; exact heq (by simp only [e]))
          have hne : ¬ ((xs[j]).cho = (ys[j]).cho ∧ (xs[j]).key = (ys[j]).key ∧ (xs[j]).day = (ys[j]).day) := fun ⟨a, b, c⟩ => heq (by
            cases hx : xs[j]; cases hy : ys[j]; rw [hx, hy] at a b c; simp only at a b c; rw [a, b, c])
          clear g g' HN HM hall heq HR
          generalize (xs[j]).cho = x0 at *
          generalize (xs[j]).key = x1 at *
          generalize (xs[j]).day = x2 at *
          generalize (ys[j]).cho = y0 at *
          generalize (ys[j]).key = y1 at *
          generalize (ys[j]).day = y2 at *
          by_cases h0 : x0 = y0
          · subst h0
            by_cases h1 : x1 = y1
            · subst h1
              have h2 : (x2 == y2) = false := by rw [beq_eq_false_iff_ne]; intro e; exact hne ⟨rfl, rfl, e⟩
              clear hne
              go_upto_region 6 with (fail)
              refine wp_region_plan 9 (.done [0, 1, 2, 3, 4, 5, 6, 7, 8]) (by kernel_rfl) (by kernel_rfl) (fun _ _ d _ _ h => by cases d <;> exact h) ?_
              repeat' (first
                | (refine plan_done (fun K hK => ?_); (first | (simp only [pick_cons, pick_nil, toList_some_append, List.getElem?_toArray, List.getElem?_cons_zero, List.getElem?_cons_succ]; repeat (go_big_quiet_step (fail))) | simp only [pick_nil]); refine wpQuiet_nil (hK _ ?_); clear hK K)
                | ((with_reducible refine at_list ?_); go_wp2_with (fail); first | refine behind_store (t := 9) (by decide) ?_ | refine behind (by repeat (first | with_reducible exact Later.refl _ | with_reducible assumption | with_reducible refine Later.ofdrew ?_ | with_reducible refine Later.ofdrewN ?_ | with_reducible refine Later.alloc ?_ _ | with_reducible refine Later.drewN ?_ _ | with_reducible refine Later.drew ?_ | (with_reducible refine Later.trans ?_ (by assumption)))) ?_))
              go_wp2
              go_ret
              exact ⟨by rw [HF.out]; rfl, hlat.drew⟩
            · have h1' : (x1 == y1) = false := by rw [beq_eq_false_iff_ne]; exact h1
              clear hne h1
              go_upto_region 6 with (fail)
              refine wp_region_plan 9 (.done [0, 1, 2, 3, 4, 5, 6, 7, 8]) (by kernel_rfl) (by kernel_rfl) (fun _ _ d _ _ h => by cases d <;> exact h) ?_
              repeat' (first
                | (refine plan_done (fun K hK => ?_); (first | (simp only [pick_cons, pick_nil, toList_some_append, List.getElem?_toArray, List.getElem?_cons_zero, List.getElem?_cons_succ]; repeat (go_big_quiet_step (fail))) | simp only [pick_nil]); refine wpQuiet_nil (hK _ ?_); clear hK K)
                | ((with_reducible refine at_list ?_); go_wp2_with (fail); first | refine behind_store (t := 9) (by decide) ?_ | refine behind (by repeat (first | with_reducible exact Later.refl _ | with_reducible assumption | with_reducible refine Later.ofdrew ?_ | with_reducible refine Later.ofdrewN ?_ | with_reducible refine Later.alloc ?_ _ | with_reducible refine Later.drewN ?_ _ | with_reducible refine Later.drew ?_ | (with_reducible refine Later.trans ?_ (by assumption)))) ?_))
              go_wp2
              go_ret
              exact ⟨by rw [HF.out]; rfl, hlat.drew⟩
          · have h0' : (x0 == y0) = false := by rw [beq_eq_false_iff_ne]; exact h0
            clear hne h0
            go_upto_region 6 with (fail)
            refine wp_region_plan 9 (.done [0, 1, 2, 3, 4, 5, 6, 7, 8]) (by kernel_rfl) (by kernel_rfl) (fun _ _ d _ _ h => by cases d <;> exact h) ?_
            repeat' (first
              | (refine plan_done (fun K hK => ?_); (first | (simp only [pick_cons, pick_nil, toList_some_append, List.getElem?_toArray, List.getElem?_cons_zero, List.getElem?_cons_succ]; repeat (go_big_quiet_step (fail))) | simp only [pick_nil]); refine wpQuiet_nil (hK _ ?_); clear hK K)
              | ((with_reducible refine at_list ?_); go_wp2_with (fail); first | refine behind_store (t := 9) (by decide) ?_ | refine behind (by repeat (first | with_reducible exact Later.refl _ | with_reducible assumption | with_reducible refine Later.ofdrew ?_ | with_reducible refine Later.ofdrewN ?_ | with_reducible refine Later.alloc ?_ _ | with_reducible refine Later.drewN ?_ _ | with_reducible refine Later.drew ?_ | (with_reducible refine Later.trans ?_ (by assumption)))) ?_))
            go_wp2
            go_ret
            exact ⟨by rw [HF.out]; rfl, hlat.drew⟩
      · have HF : Hid (R = true) := Lib.hid (by
          rw [← HR.out, decide_eq_true_iff]
          exact same_at (by rw [HL.out.1, HL.out.2]) (fun i h1 h2 => hall.out i h1 h2 (by rw [HL.out.1] at h1; omega)))
        clear HR hall
        go_wp2
        go_ret
        exact ⟨by rw [HF.out]; rfl, hlat⟩
  · have HF : Hid (R = false) := Lib.hid (by rw [← HR.out, decide_eq_false_iff_not]; intro e; have h1 := HL.out.1; have h2 := HL.out.2; rw [e] at h1; omega)
    have hne : ((N : Int) == (M : Int)) = false := by rw [beq_eq_false_iff_ne]; omega
    clear HR HN HM
    go_enter Tryz.func29, Tryz.ntmps29
    go_wp2
    go_ret
    exact ⟨by rw [HF.out]; rfl, by repeat (first | with_reducible exact Later.refl _ | with_reducible assumption | with_reducible refine Later.ofdrew ?_ | with_reducible refine Later.ofdrewN ?_ | with_reducible refine Later.setCell ?_ ?_ _ | with_reducible refine Later.alloc ?_ _ | with_reducible refine Later.drewN ?_ _ | with_reducible refine Later.drew ?_ | (with_reducible refine Later.trans ?_ (by assumption)) | (simp only [World.size_setCell, World.size_alloc, World.heap_drewN]; omega) | (simp; done) | (simp; omega))⟩
end Go.Proofs.YtkjabiabeemfhaaGreatDoor
end
section
/- denote: a contract that is given (plain) -/
namespace Go.Proofs.YtkjabiabeemfhaaGreatDoor
open Go.RowKit Go.Sort

theorem round_neg {d : Int} (hd : 0 < d) (n : Int) : roundI (-n) d = -roundI n d := by
  unfold roundI
  rw [Int.natAbs_neg]
  by_cases h0 : n = 0
  · subst h0
    have : nearQ 0 d = 0 := by unfold nearQ; simp; omega
    simp [this]
  · by_cases h1 : n < 0
    · rw [if_neg (by omega), if_pos h1, Int.neg_neg]
    · rw [if_pos (by omega), if_neg h1]
theorem r_neg1 {d : Int} (hd : 0 < d) (n : Int) : rN (-n) d = -rN n d ∧ rD (-n) d = rD n d ∧ rE (-n) d = rE n d := by
  have hg : gcdI (-n) d = gcdI n d := by unfold gcdI; rw [Int.neg_gcd]
  have h1 : redN (-n) d = -redN n d := by
    unfold redN
    rw [hg, if_neg (by omega), if_neg (by omega)]
    exact Int.neg_ediv_of_dvd (Int.gcd_dvd_left ..)
  have h2 : redD (-n) d = redD n d := by unfold redD; rw [hg]
  have h3 : rE (-n) d = rE n d := by unfold rE; rw [h1, h2, Int.natAbs_neg]
  refine ⟨?_, ?_, h3⟩
  · unfold rN; rw [h3, h1]; split
    · rfl
    · simp
  · unfold rD; rw [h3, h2]
def Hd.neg (h : Hd) : Hd := ⟨h.T, h.pl, h.day, -h.n, h.d⟩
def Fl.neg (x : Fl) : Fl := ⟨x.day, x.cur, -x.amt⟩
theorem Fl.neg_neg (x : Fl) : x.neg.neg = x := by unfold Fl.neg; simp
theorem kidH_neg (l : List Tm) (k i : Nat) (day n d : Int) : kidH l k i day (-n) d = (kidH l k i day n d).map Hd.neg := by
  unfold kidH
  split <;> rfl
theorem one_neg {env : Env} {tod : Int} {ts : List Nd} {T : Tm} (hG : Good ts T) (hok : ∀ x ∈ ts, x.ok) (hE : EnvOk env) {h : Hd} (hh : HdOk ts h) :
    oneH env tod h.neg = ((oneH env tod h).1, (oneH env tod h).2.1.map Hd.neg, (oneH env tod h).2.2.1.map Fl.neg, (oneH env tod h).2.2.2) := by
  obtain ⟨⟨x, l⟩, pl, day, n, d⟩ := h
  obtain ⟨hT, hs, hm, h0, h1, hv⟩ := hh
  simp only at hT hs hm h0 h1 hv
  obtain ⟨r1, -, -, r4⟩ := hT.root
  have hd := hv.d0
  unfold oneH Hd.neg
  simp only
  split
  · rfl
  show stepT env tod x l pl day (-n) d = ((stepT env tod x l pl day n d).1, (stepT env tod x l pl day n d).2.1.map Hd.neg, (stepT env tod x l pl day n d).2.2.1.map Fl.neg, (stepT env tod x l pl day n d).2.2.2)
  unfold stepT
  by_cases h10 : x.op = 10
  · rw [if_pos h10, if_pos h10, round_neg hd]
    by_cases hz : roundI n d = 0
    · simp [hz]
    · simp [hz, Fl.neg]
  rw [if_neg h10, if_neg h10]
  by_cases h11 : x.op = 11
  · rw [if_pos h11, if_pos h11, kidH_neg]; rfl
  rw [if_neg h11, if_neg h11]
  by_cases h12 : x.op = 12
  · rw [if_pos h12, if_pos h12, kidH_neg, kidH_neg]; simp
  rw [if_neg h12, if_neg h12]
  by_cases h13 : x.op = 13
  · rw [if_pos h13, if_pos h13]
    have hl : l.length = 2 := by rw [r4, h13]; decide
    obtain ⟨k1, k2, k3⟩ := kid_num hG hok hT hs (i := 0) (by omega) (by rw [h13]; decide)
    have hr := valT_res (hE.get day) k2
    have e : numT env day l 0 = valT (env.get day) l[0] := by unfold numT; rw [List.getElem?_eq_getElem (by omega)]
    unfold scaleT
    rw [e]
    by_cases hz : (valT (env.get day) l[0]).1 = 0
    · simp only [hz, ne_eq, not_true_eq_false, if_false]
      cases hv2 : (valT (env.get day) l[0]).2 with
      | none => rfl
      | some v =>
        have hvv := hr.val v hv2
        obtain ⟨q1, q2, q3⟩ := r_neg1 (Int.mul_pos hd hvv.d0) (n * v.1)
        simp only [Int.neg_mul, q1, q2, q3]
        split
        · rfl
        · rw [kidH_neg]; rfl
    · simp [hz]
  rw [if_neg h13, if_neg h13]
  by_cases h14 : x.op = 14
  · rw [if_pos h14, if_pos h14]
    by_cases hz : day ≤ x.a
    · simp [hz, kidH_neg]
    · simp [hz]
  rw [if_neg h14, if_neg h14]
  by_cases h15 : x.op = 15
  · rw [if_pos h15, if_pos h15]
    unfold condT
    split
    · rfl
    split
    · rfl
    split
    · rw [kidH_neg]; rfl
    · rfl
  rw [if_neg h15, if_neg h15]
  by_cases h16 : x.op = 16
  · rw [if_pos h16, if_pos h16]
    split
    · rw [kidH_neg]; rfl
    · rfl
  rw [if_neg h16, if_neg h16]
  by_cases h17 : x.op = 17
  · rw [if_pos h17, if_pos h17]
    split
    · rw [kidH_neg]; rfl
    · rfl
  rw [if_neg h17, if_neg h17]
  rfl
theorem comb_neg (a b : Rs) : comb (a.1, a.2.1.map Fl.neg, a.2.2) (b.1, b.2.1.map Fl.neg, b.2.2) = ((comb a b).1, (comb a b).2.1.map Fl.neg, (comb a b).2.2) := by
  unfold comb
  by_cases ha : a.1 = 0
  · by_cases hb : b.1 = 0 <;> simp [ha, hb]
  · simp [ha]
theorem combL_neg (l : List Rs) : combL (l.map (fun r => (r.1, r.2.1.map Fl.neg, r.2.2))) = ((combL l).1, (combL l).2.1.map Fl.neg, (combL l).2.2) := by
  induction l with
  | nil => rfl
  | cons a l ih => rw [List.map_cons, combL_cons, combL_cons, ih]; exact comb_neg a (combL l)
theorem den_neg {env : Env} {tod : Int} {ts : List Nd} {T : Tm} (hG : Good ts T) (hok : ∀ x ∈ ts, x.ok) (hE : EnvOk env) : ∀ h : Hd, HdOk ts h → den env tod h.neg = ((den env tod h).1, (den env tod h).2.1.map Fl.neg, (den env tod h).2.2) := by
  refine hd_ind (fun h ih hh => ?_)
  rw [den_eq, one_neg hG hok hE hh, den_eq env tod h]
  by_cases h0 : (oneH env tod h).1 = 0
  · simp only [h0, ne_eq, not_true_eq_false, if_false]
    have e : ((oneH env tod h).2.1.map Hd.neg).map (den env tod) = ((oneH env tod h).2.1.map (den env tod)).map (fun r => (r.1, r.2.1.map Fl.neg, r.2.2)) := by
      rw [List.map_map, List.map_map]
      exact List.map_congr_left (fun g hg => ih g (mem_lt hg) (one_ok hG hok hE hh g hg))
    rw [e, combL_neg]
    exact comb_neg (0, (oneH env tod h).2.2.1, (oneH env tod h).2.2.2) _
  · simp [h0]
/-! A term's place does not count. -/
def Hd.sim (a b : Hd) : Prop := a.T = b.T ∧ a.day = b.day ∧ a.n = b.n ∧ a.d = b.d
def Hd.z (h : Hd) : Hd := ⟨h.T, 0, h.day, h.n, h.d⟩
theorem kidH_place (l : List Tm) (k k' i : Nat) (day n d : Int) : (kidH l k i day n d).map Hd.z = (kidH l k' i day n d).map Hd.z := by
  unfold kidH
  split <;> rfl
theorem step_place (env : Env) (tod : Int) (x : Nd) (l : List Tm) (k k' : Nat) (day n d : Int) :
    (stepT env tod x l k day n d).1 = (stepT env tod x l k' day n d).1 ∧ (stepT env tod x l k day n d).2.1.map Hd.z = (stepT env tod x l k' day n d).2.1.map Hd.z ∧ (stepT env tod x l k day n d).2.2 = (stepT env tod x l k' day n d).2.2 := by
  unfold stepT
  split
  · exact ⟨rfl, rfl, rfl⟩
  split
  · exact ⟨rfl, kidH_place _ _ _ _ _ _ _, rfl⟩
  split
  · refine ⟨rfl, ?_, rfl⟩
    rw [List.map_append, List.map_append, kidH_place l k k', kidH_place l k k']
  split
  · unfold scaleT
    split
    · exact ⟨rfl, rfl, rfl⟩
    split
    · exact ⟨rfl, rfl, rfl⟩
    split
    · exact ⟨rfl, rfl, rfl⟩
    · exact ⟨rfl, kidH_place _ _ _ _ _ _ _, rfl⟩
  split
  · refine ⟨rfl, ?_, rfl⟩
    simp only
    split
    · exact kidH_place _ _ _ _ _ _ _
    · rfl
  split
  · unfold condT
    split
    · exact ⟨rfl, rfl, rfl⟩
    split
    · exact ⟨rfl, rfl, rfl⟩
    split
    · exact ⟨rfl, kidH_place _ _ _ _ _ _ _, rfl⟩
    · exact ⟨rfl, rfl, rfl⟩
  split
  · split
    · exact ⟨rfl, kidH_place _ _ _ _ _ _ _, rfl⟩
    · exact ⟨rfl, rfl, rfl⟩
  split
  · split
    · exact ⟨rfl, kidH_place _ _ _ _ _ _ _, rfl⟩
    · exact ⟨rfl, rfl, rfl⟩
  exact ⟨rfl, rfl, rfl⟩
theorem one_place (env : Env) (tod : Int) (h : Hd) : (oneH env tod h).1 = (oneH env tod h.z).1 ∧ (oneH env tod h).2.1.map Hd.z = (oneH env tod h.z).2.1.map Hd.z ∧ (oneH env tod h).2.2 = (oneH env tod h.z).2.2 := by
  unfold oneH
  show (if tod < h.day then _ else _ : St).1 = (if tod < h.day then _ else _ : St).1 ∧ _
  by_cases hd : tod < h.day
  · simp only [Hd.z, hd, if_true, and_self]
  · simp only [Hd.z, hd, if_false]
    exact step_place _ _ _ _ _ _ _ _ _
theorem den_z (env : Env) (tod : Int) : ∀ h : Hd, den env tod h = den env tod h.z := by
  refine hd_ind (fun h ih => ?_)
  obtain ⟨k1, k2, k3⟩ := one_place env tod h
  rw [den_eq, den_eq env tod h.z, k1, k3]
  have k4 : (oneH env tod h).2.1.map (den env tod) = (oneH env tod h.z).2.1.map (den env tod) := by
    have e1 : (oneH env tod h).2.1.map (den env tod) = ((oneH env tod h).2.1.map Hd.z).map (den env tod) := by
      rw [List.map_map]; exact List.map_congr_left (fun g hg => ih g (mem_lt hg))
    have e2 : (oneH env tod h.z).2.1.map (den env tod) = ((oneH env tod h.z).2.1.map Hd.z).map (den env tod) := by
      rw [List.map_map]; exact List.map_congr_left (fun g hg => ih g (mem_lt (h := h.z) hg))
    rw [e1, e2, k2]
  rw [k4]
theorem den_place (env : Env) (tod : Int) (h g : Hd) (hs : h.sim g) : den env tod h = den env tod g := by
  rw [den_z env tod h, den_z env tod g]
  obtain ⟨T, pl, day, n, d⟩ := h
  obtain ⟨T', pl', day', n', d'⟩ := g
  obtain ⟨e1, e2, e3, e4⟩ := hs
  simp only at e1 e2 e3 e4
  subst e1 e2 e3 e4
  rfl
end Go.Proofs.YtkjabiabeemfhaaGreatDoor
end
section
/- denote: heads of contracts (plain) -/
namespace Go.Proofs.YtkjabiabeemfhaaGreatDoor
open Go.RowKit Go.Sort

section
variable {env : Env} {tod : Int}
theorem comb_nil_eq {b : Rs} (h : b.1 ≠ 0 → b.2 = ([], [])) : comb (0, [], []) b = b := by
  unfold comb
  obtain ⟨e, f, w⟩ := b
  by_cases h0 : e = 0
  · subst h0; simp
  · have := h h0
    simp only [Prod.mk.injEq] at this
    obtain ⟨rfl, rfl⟩ := this
    simp [h0]
theorem comb_eq_nil {a : Rs} (h : a.1 ≠ 0 → a.2 = ([], [])) : comb a (0, [], []) = a := by
  unfold comb
  obtain ⟨e, f, w⟩ := a
  by_cases h0 : e = 0
  · subst h0; simp
  · have := h h0
    simp only [Prod.mk.injEq] at this
    obtain ⟨rfl, rfl⟩ := this
    simp [h0]
theorem den_via {h g : Hd} (h1 : oneH env tod h = (0, [g], [], [])) : den env tod h = den env tod g := by
  rw [den_eq, h1]
  simp only [ne_eq, not_true_eq_false, if_false, List.map_cons, List.map_nil]
  show comb (0, [], []) (comb (den env tod g) (0, [], [])) = _
  rw [comb_eq_nil (fun e => den_err e), comb_nil_eq (fun e => den_err e)]
theorem den_give (T : Tm) (k k' : Nat) (day n d : Int) : den env tod ⟨.node ⟨11, 0, 0, 0, 0⟩ [T], k, day, n, d⟩ = den env tod ⟨T, k', day, -n, d⟩ := by
  by_cases hd : tod < day
  · rw [den_late hd, den_late hd]
  · refine (den_via (g := ⟨T, placeN k [T] 0, day, -n, d⟩) ?_).trans (den_place _ _ _ _ ⟨rfl, rfl, rfl, rfl⟩)
    unfold oneH
    rw [if_neg hd]
    simp [stepT, Tm.root, Tm.kids, kidH]
end
end Go.Proofs.YtkjabiabeemfhaaGreatDoor
end
section
/- terms put together (plain) -/
namespace Go.Proofs.YtkjabiabeemfhaaGreatDoor
open Go.RowKit Go.Sort

section
variable {x : Nd} {l : List Tm}
end
/-! What a contract that is put together comes to -/
section
variable {env : Env} {ts us : List Nd} {T U : Tm} {day tod : Int}
theorem out_late (hG : Good ts T) (hm : makesI T.root.op = 2) (hr : day < 0 ∨ 73048 < day ∨ tod < -1 ∨ 73048 < tod) : outT env ts day tod = (18, [], []) := out_day (ct_of_good hG hm) hr
def giveN : Nd := ⟨11, 0, 0, 0, 0⟩
theorem mk_give : makesI (Tm.node giveN [T]).root.op = 2 := show makesI 11 = 2 by decide
/-- One that is given. -/
theorem give_out (hG : Good ts T) (hm : makesI T.root.op = 2) (hok : ∀ x ∈ ts, x.ok) (hE : EnvOk env) (hJ : Good (giveN :: ts) (.node giveN [T])) :
    outT env (giveN :: ts) day tod = ((outT env ts day tod).1, (outT env ts day tod).2.1.map Fl.neg, (outT env ts day tod).2.2) := by
  by_cases hr : day < 0 ∨ 73048 < day ∨ tod < -1 ∨ 73048 < tod
  · rw [out_late hJ mk_give hr, out_late hG hm hr]; rfl
  · rw [out_good hJ mk_give hr, out_good hG hm hr]
    have := den_neg (tod := tod) hG hok hE ⟨T, 0, day, 1, 1⟩ (hd_first hG hm (by omega) (by omega))
    rw [← this]
    exact den_give T 0 0 day 1 1
end
/-- All put in their places. -/
theorem puts_sort (l : List Fl) : ∀ m : List Fl, l.foldl (insL ordF) (sortL ordF m) = sortL ordF (m ++ l) := by
  induction l with
  | nil => intro m; simp
  | cons x l ih =>
    intro m
    rw [List.foldl_cons, sort_put swoF totF, ih, List.append_assoc]
    rfl
theorem puts_nil (l : List Fl) : l.foldl (insL ordF) [] = sortL ordF l := by have := puts_sort l []; simpa [sortL] using this
theorem give_flows {env : Env} {ts : List Nd} {T : Tm} {day tod : Int} (hG : Good ts T) (hm : makesI T.root.op = 2) (hok : ∀ x ∈ ts, x.ok) (hE : EnvOk env) (hJ : Good (giveN :: ts) (.node giveN [T])) :
    ((flowsT env (giveN :: ts) day tod).map Fl.neg).foldl (insL ordF) [] = flowsT env ts day tod ∧ waitsT env (giveN :: ts) day tod = waitsT env ts day tod ∧ (flowsT env (giveN :: ts) day tod).length = (flowsT env ts day tod).length := by
  have h := give_out (day := day) (tod := tod) hG hm hok hE hJ
  refine ⟨?_, by unfold waitsT; rw [h], ?_⟩
  · rw [puts_nil]
    unfold flowsT
    rw [h]
    refine sort_same swoF totF (((sortL_perm _ _).map _).trans ?_)
    rw [List.map_map]
    have : (Fl.neg ∘ Fl.neg) = id := funext (fun x => Fl.neg_neg x)
    rw [this, List.map_id]
  · unfold flowsT
    rw [h, (sortL_perm _ _).length_eq, (sortL_perm _ _).length_eq, List.length_map]
end Go.Proofs.YtkjabiabeemfhaaGreatDoor
end
section
/- facts that are told more only (plain) -/
namespace Go.Proofs.YtkjabiabeemfhaaGreatDoor
open Go.RowKit Go.Sort

theorem FcOk.env {s : FxL × ChL} {n : Nat} (h : FcOk s n) : EnvOk (envT s.1 s.2) := envT_ok h.fo h.co
section
variable {s : FxL × ChL} {n : Nat} {x : Td}
end
/-! More, but none that is there, and no choice of a key of an Any -/
end Go.Proofs.YtkjabiabeemfhaaGreatDoor
end
section
/- term.Join: what is wrong with what it puts together (plain) -/
namespace Go.Proofs.YtkjabiabeemfhaaGreatDoor
open Go.RowKit
set_option maxRecDepth 100000

/-- Rows that are just one term each, one behind the other, from a place on. -/
def partsE (out : List Nd) : Nat → List (List Nd) → Bool
  | _, [] => true
  | at_, p :: r => (!p.isEmpty && decide (endN out at_ = some (at_ + p.length))) && partsE out (at_ + p.length) r
/-- What is wrong with a term of a node, and terms. -/
noncomputable def joinE (x : Nd) (l : List (List Nd)) : Int := if ofE (x :: l.flatten) ≠ 0 then ofE (x :: l.flatten) else if partsE (x :: l.flatten) 1 l = true then 0 else 14
theorem parts_at : ∀ (l : List (List Nd)) {out : List Nd} {k : Nat}, out.drop k = l.flatten → partsE out k l = true → ∃ L : List Tm, L.map Tm.flat = l ∧ TmsAt out k L
  | [], out, k, _, _ => ⟨[], rfl, trivial, List.nil_prefix⟩
  | p :: r, out, k, hd, h => by
    unfold partsE at h
    simp only [Bool.and_eq_true, decide_eq_true_eq] at h
    obtain ⟨⟨h1, h2⟩, h3⟩ := h
    obtain ⟨t, ht, hsz⟩ := tm_of_end (Nat.le_refl _) h2
    have hsz' : t.size = p.length := by omega
    have htp : t.flat = p := by
      obtain ⟨c, hc⟩ := ht.2
      rw [hd, List.flatten_cons] at hc
      have := congrArg (List.take p.length) hc
      rwa [List.take_left' (by rw [Tm.size_flat, hsz']), List.take_left' rfl] at this
    have hd' : out.drop (k + p.length) = r.flatten := by
      rw [← List.drop_drop, hd, List.flatten_cons, List.drop_left' rfl]
    obtain ⟨L, hL, hT⟩ := parts_at r hd' h3
    refine ⟨t :: L, by rw [List.map_cons, htp, hL], ⟨⟨ht.1, hT.1⟩, ?_⟩⟩
    obtain ⟨c, hc⟩ := hT.2
    refine ⟨c, ?_⟩
    show (t.flat ++ Tm.flat.flats L) ++ c = _
    rw [List.append_assoc, hc, hd, List.flatten_cons, hd', htp]
theorem depths_le {t : Tm} : ∀ {l : List Tm}, t ∈ l → t.depth ≤ Tm.depth.depths l
  | a :: r, h => by
    simp only [Tm.depth.depths]
    rcases List.mem_cons.1 h with rfl | h
    · omega
    · have := depths_le h; omega
/-- A term that is put together of rows: each of them is a term that may be. -/
theorem join_parts {x : Nd} {l : List (List Nd)} (h : joinE x l = 0) : ∃ L : List Tm, L.map Tm.flat = l ∧ Good (x :: l.flatten) (.node x L) ∧ (∀ i (hi : i < L.length), Good (L[i]).flat L[i] ∧ makesI (L[i]).root.op = belI x.op i) ∧ L.length = manyN x.op := by
  unfold joinE at h
  split at h
  · rename_i h0; exact absurd h h0
  · rename_i h0
    split at h
    · rename_i hp
      have h0' : ofE (x :: l.flatten) = 0 := by simpa using h0
      obtain ⟨T, hG⟩ := good_of h0'
      obtain ⟨L, hL, hT⟩ := parts_at l (out := x :: l.flatten) (k := 1) (by simp) hp
      obtain ⟨y, m⟩ := T
      obtain ⟨hAt, hsz⟩ := hG.at
      obtain ⟨r1, r2, r3, r4⟩ := hAt.root
      have hx : x = y := by simpa using r1
      subst hx
      have hflat : (L.map Tm.size).sum = l.flatten.length := by
        rw [← hL, List.length_flatten, List.map_map]
        congr 1
        exact List.map_congr_left (fun t _ => (Tm.size_flat t).symm)
      -- as many terms as the node has
      have hlen : L = m := by
        have key : ∀ (l m : List Tm) (k : Nat), TmsAt (x :: (L.map Tm.flat).flatten) k l → TmsAt (x :: (L.map Tm.flat).flatten) k m → (l.map Tm.size).sum = (m.map Tm.size).sum → l = m := by
          intro l
          induction l with
          | nil =>
            intro m k _ _ hs
            cases m with
            | nil => rfl
            | cons t r => have := t.size_pos; simp at hs; omega
          | cons t r ih =>
            intro m k h1 h2 hs
            cases m with
            | nil => have := t.size_pos; simp at hs; omega
            | cons s q =>
              obtain ⟨c1, c2⟩ := h1.cons
              obtain ⟨d1, d2⟩ := h2.cons
              obtain rfl := TmAt.unique c1 d1
              rw [ih q _ c2 d2 (by simp at hs; omega)]
        rw [← hL] at hT r2 hsz hflat
        refine key L m 1 hT r2 ?_
        rw [hflat]
        have e : (Tm.node x m).size = 1 + Tm.size.sizes m := rfl
        rw [e, List.length_cons] at hsz
        have e2 := sizes_sum m
        omega
      subst hlen
      refine ⟨L, hL, hG, fun i hi => ?_, r4⟩
      obtain ⟨s1, s2⟩ := sorted_kid hG.sorted hi
      have hmem : L[i] ∈ L := List.getElem_mem hi
      have hfl : ∀ y ∈ (L[i]).flat, y ∈ x :: l.flatten := fun y hy => List.mem_cons_of_mem _ (by rw [← hL]; exact List.mem_flatten.2 ⟨_, List.mem_map_of_mem hmem, hy⟩)
      refine ⟨⟨treeOf_iff.2 ⟨(Tm.oks_iff L).1 r2.1 _ hmem, rfl⟩, ?_, fun y hy => hG.fields y (hfl y hy), s1, ?_⟩, s2⟩
      · have hle : (L[i]).size ≤ (L.map Tm.size).sum := le_sum (List.mem_map_of_mem hmem)
        have := hG.len
        rw [Tm.size_flat]
        rw [List.length_cons] at this
        omega
      · have := hG.depth
        have e : (Tm.node x L).depth = Tm.depth.depths L + 1 := rfl
        have := depths_le hmem
        omega
    · cases h
end Go.Proofs.YtkjabiabeemfhaaGreatDoor
end
section
/- amounts of flows: what is less than nought fits (plain) -/
namespace Go.Proofs.YtkjabiabeemfhaaGreatDoor
open Go.RowKit Go.Sort

def AmtOk (x : Fl) : Prop := -9223372036854775807 ≤ x.amt ∧ x.amt ≤ 9223372036854775807
theorem round_bd {n d : Int} (h : Valid n d) : -9223372036854775807 ≤ roundI n d ∧ roundI n d ≤ 9223372036854775807 := by
  have h1 := h.n0
  have h2 := h.n1
  obtain ⟨-, -, a, b⟩ := near_bd (n.natAbs : Int) d (by omega) (by omega) h.d0
  unfold roundI
  split <;> omega
theorem step_fl (env : Env) (tod : Int) (x : Nd) (l : List Tm) (k : Nat) (day n d : Int) : (stepT env tod x l k day n d).2.2.1 = if x.op = 10 then (if roundI n d = 0 then [] else [⟨day, x.a, roundI n d⟩]) else [] := by
  unfold stepT
  by_cases h : x.op = 10
  · simp [h]
  · rw [if_neg h, if_neg h]
    repeat' split
    all_goals first | rfl | skip
    · unfold scaleT
      repeat' split
      all_goals rfl
    · unfold condT
      repeat' split
      all_goals rfl
theorem one_amt {ts : List Nd} {env : Env} {tod : Int} {h : Hd} (hh : HdOk ts h) : ∀ x ∈ (oneH env tod h).2.2.1, AmtOk x := by
  intro x hx
  unfold oneH at hx
  split at hx
  · cases hx
  · rw [step_fl] at hx
    split at hx
    · split at hx
      · cases hx
      · rw [List.mem_singleton.1 hx]; exact round_bd hh.va
    · cases hx
theorem den_amt {ts : List Nd} {T : Tm} {env : Env} {tod : Int} (hG : Good ts T) (hok : ∀ x ∈ ts, x.ok) (hE : EnvOk env) : ∀ h : Hd, HdOk ts h → ∀ x ∈ (den env tod h).2.1, AmtOk x := by
  refine hd_ind (fun h ih hh x hx => ?_)
  by_cases h0 : (den env tod h).1 = 0
  · rw [den_ok h0] at hx
    rcases List.mem_append.1 hx with hx | hx
    · exact one_amt hh x hx
    · obtain ⟨g, hg, hx⟩ := List.mem_flatMap.1 hx
      exact ih g (mem_lt hg) (one_ok hG hok hE hh g hg) x hx
  · rw [den_err h0] at hx; cases hx
theorem flows_amt {ts : List Nd} {env : Env} {day tod : Int} (hok : ∀ x ∈ ts, x.ok) (hE : EnvOk env) : ∀ x ∈ flowsT env ts day tod, AmtOk x := by
  intro x hx
  have hx' := (sortL_perm ordF _).mem_iff.1 hx
  by_cases hc : ctE ts = 0
  · by_cases hr : day < 0 ∨ 73048 < day ∨ tod < -1 ∨ 73048 < tod
    · rw [out_day hc hr] at hx'; cases hx'
    · obtain ⟨T, hG, hm⟩ := ct_good hc
      rw [out_den hc hr hG.tree] at hx'
      exact den_amt hG hok hE _ (hd_first hG hm (by omega) (by omega)) x hx'
  · rw [out_wrong hc] at hx'; cases hx'
end Go.Proofs.YtkjabiabeemfhaaGreatDoor
end
section
/- what is given, twice (plain) -/
namespace Go.Proofs.YtkjabiabeemfhaaGreatDoor
open Go.RowKit Go.Sort

theorem join_one {ts : List Nd} (h : joinE giveN [ts] = 0) : ∃ T, Good ts T ∧ makesI T.root.op = 2 ∧ Good (giveN :: ts) (.node giveN [T]) := by
  obtain ⟨L, h1, h2, h3, h4⟩ := join_parts h
  have h5 : L.length = 1 := h4
  obtain ⟨T, rfl⟩ := List.length_eq_one_iff.1 h5
  have hf : T.flat = ts := by simpa using h1
  obtain ⟨h6, h7⟩ := h3 0 (by simp)
  refine ⟨T, by rw [← hf]; exact h6, h7.trans (show belI 11 0 = 2 by decide), ?_⟩
  have e : [ts].flatten = ts := by simp
  rw [e] at h2
  exact h2
theorem give_ok : giveN.ok := by unfold Nd.ok I64 giveN; decide
theorem gives_plain {env : Env} {ts : List Nd} {day tod : Int} (hok : ∀ x ∈ ts, x.ok) (hE : EnvOk env) (h1 : joinE giveN [ts] = 0) (h2 : joinE giveN [giveN :: ts] = 0) :
    (outT env (giveN :: ts) day tod).1 = (outT env ts day tod).1 ∧ (outT env (giveN :: giveN :: ts) day tod).1 = (outT env ts day tod).1 ∧ flowsT env (giveN :: giveN :: ts) day tod = flowsT env ts day tod ∧
    (flowsT env (giveN :: ts) day tod).length = (flowsT env ts day tod).length ∧ ((flowsT env (giveN :: ts) day tod).map Fl.neg).foldl (insL ordF) [] = flowsT env ts day tod ∧ waitsT env (giveN :: ts) day tod = waitsT env ts day tod := by
  obtain ⟨T, hG, hm, hJ⟩ := join_one h1
  obtain ⟨T', hG', hm', hJ'⟩ := join_one h2
  have hok' : ∀ x ∈ giveN :: ts, x.ok := fun x hx => (List.mem_cons.1 hx).elim (fun e => by rw [e]; exact give_ok) (hok x)
  have o1 := give_out (day := day) (tod := tod) hG hm hok hE hJ
  have o2 := give_out (day := day) (tod := tod) hG' hm' hok' hE hJ'
  obtain ⟨a, b, c⟩ := give_flows (day := day) (tod := tod) hG hm hok hE hJ
  refine ⟨by rw [o1], by rw [o2, o1], ?_, c, a, b⟩
  unfold flowsT
  rw [o2, o1]
  simp only [List.map_map]
  have : (Fl.neg ∘ Fl.neg) = id := funext (fun x => Fl.neg_neg x)
  rw [this, List.map_id]
theorem negs_take {l : List Fl} {j : Nat} (h : j < l.length) : ((l.take (j + 1)).map Fl.neg).foldl (insL ordF) [] = insL ordF (((l.take j).map Fl.neg).foldl (insL ordF) []) (l[j]).neg := by
  rw [List.take_succ_eq_append_getElem h, List.map_append, List.foldl_append]; rfl
theorem puts_len (l : List Fl) : (l.foldl (insL ordF) []).length = l.length := by rw [puts_nil, (sortL_perm _ _).length_eq]
end Go.Proofs.YtkjabiabeemfhaaGreatDoor
end
