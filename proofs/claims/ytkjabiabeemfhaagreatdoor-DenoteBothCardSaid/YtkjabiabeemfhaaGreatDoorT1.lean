/- slices.Concat of rows of nodes -/
import Derived.Test.YtkjabiabeemfhaaGreatDoorQ10
import Derived.Test.YtkjabiabeemfhaaGreatDoorQ9
import Derived.Test.YtkjabiabeemfhaaGreatDoorQ4
import Derived.Test.YtkjabiabeemfhaaGreatDoorQ3
import Derived.Test.YtkjabiabeemfhaaGreatDoorQ2
import Derived.Test.YtkjabiabeemfhaaGreatDoorRows
import Derived.Test.YtkjabiabeemfhaaGreatDoorQ1
import Derived.Shelf.Small.Bits
import Derived.Shelf.Small.Wraps
import Derived.Shelf.Strconv.Itoa0
import Derived.Shelf.Bits.Mul64
import Derived.Ground.Names2Prog
import Derived.Shelf.Slices.Clone
import Derived.Shelf.Slices.SearchI
import Derived.Ground.SlgnProg
import Derived.Shelf.SlicesE.Clone
import Derived.Shelf.SlLaysF0
import Derived.Ground.SlsfProg
import Derived.Test.YtkjabiabeemfhaaGreatDoorProg
import Derived.WalkKit
import Derived.Lib.BitFns
import Derived.Lib.ItoaNum
import Derived.WalkSpells
import Derived.WalkSmall
import Derived.WalkLawsBesides
import Derived.BigQuiet
import Derived.Deep.RegionHeld3
import Derived.Deep.DeepCutAuto
import Derived.Deep.CutBlock
import Derived.Lib.Hide
import Derived.Deep.Quiet
import Derived.Below
import Derived.OrdersHeld
import Derived.Shelf.Spec.BitsCarry
import Derived.Laws.AppendOwnNone
import Derived.OwnWalk
import Derived.Great.BuildSlice
import Derived.Test.YtkjabiabeemfhaaGreatDoorQ8
import Derived.Test.YtkjabiabeemfhaaGreatDoorQ6
import Derived.Test.YtkjabiabeemfhaaGreatDoorQ5
import Derived.Test.YtkjabiabeemfhaaGreatDoorQ7
import Derived.Test.YtkjabiabeemfhaaGreatDoorQ17
import Derived.Test.YtkjabiabeemfhaaGreatDoorQ16
import Derived.ArgAppend
import Derived.Test.YtkjabiabeemfhaaGreatDoorQ15
import Derived.Test.YtkjabiabeemfhaaGreatDoorQ14
import Derived.Test.YtkjabiabeemfhaaGreatDoorQ13
import Derived.Test.YtkjabiabeemfhaaGreatDoorQ12
import Derived.DeepKeys4
import Derived.Maps.Own
import Derived.Test.YtkjabiabeemfhaaGreatDoorQ11
import Derived.RangeFuncNested
import Derived.RangeFuncBound
import Derived.RangeFuncCalls
import Derived.RangeFuncLeaves
import Derived.Shelf.Abstract
import Derived.Shelf.RegionOpen
import Derived.OwnWalkIn
import Derived.TacticsInMore
import Derived.LoopNIn
import Derived.LoopIn
import Derived.Deep.LoopGhost
import Derived.WalkMore
import Derived.Lib.Strings
import Derived.Test.YtkjabiabeemfhaaGreatDoorQ31
import Derived.Test.YtkjabiabeemfhaaGreatDoorQ18
import Derived.Shelf.SlSortCmp.Insertion
import Derived.Laws.IdiomCopy
import Derived.Deep.Upon
import Derived.Shelf.GgSortFunc.InsertionK
import Derived.Test.YtkjabiabeemfhaaGreatDoorQ19
import Derived.Test.YtkjabiabeemfhaaGreatDoorQ34
import Derived.Test.YtkjabiabeemfhaaGreatDoorQ33
import Derived.Shelf.Spec.SlicesGrow
import Derived.Ground.Names8Prog
set_option linter.all false
set_option linter.all false
section
/- terms as trees, and the places of their nodes in a row -/
namespace Go.Proofs.YtkjabiabeemfhaaGreatDoor
open Go.RowKit
set_option maxRecDepth 100000

namespace Tm
theorem oks_iff (l : List Tm) : ok.oks l ↔ ∀ t ∈ l, ok t := by
  induction l with
  | nil => simp [ok.oks]
  | cons t r ih => simp [ok.oks, ih]
end Tm

end Go.Proofs.YtkjabiabeemfhaaGreatDoor
end
section
/- rows of a call's own that are put behind, one beside the other: no base world, a base number alone -/
namespace Go.Proofs.YtkjabiabeemfhaaGreatDoor
open Go.RowKit
set_option maxRecDepth 100000
namespace B

section
variable {P : Program} {w : World} {e sz base : Nat} {v : Value} {n : Nat} {xs : List Value}
end

section
variable {w w' : World} {e sz base : Nat} {v u : Value} {n : Nat} {xs : List Value}
end
section
variable {α : Type} {sz : Nat} {f : α → Nat → Value} {w : World} {v : Value} {xs : List α}
theorem cellsAt (h : IsRow sz f w v xs) (cs : α → List Value) (hcs : ∀ x, (cs x).length = sz) (hf : ∀ x j, j < sz → (cs x)[j]? = some (f x j)) (hsz : 0 < sz) (h0 : v ≠ .slice none 0 0) :
    ∃ ad cap, v = .slice (some ad) xs.length cap ∧ xs.length ≤ maxLen ∧ ∀ j u, (xs.flatMap cs)[j]? = some u → w.cell? (ad.add j) = some u := by
  rcases h with ⟨⟨p, h1⟩, h2⟩ | ⟨b, o, cap, h1, h2, h3, h4, h5⟩
  · subst h2
    cases p with
    | none => exact absurd h1 h0
    | some ad => exact ⟨ad, 0, h1, by simp, fun j u hj => by simp at hj⟩
  · refine ⟨⟨b, o, Option.none⟩, cap, h1, Nat.le_trans h3 h4, fun j u hj => ?_⟩
    have hjl : j < (xs.flatMap cs).length := (List.getElem?_eq_some_iff.1 hj).1
    rw [flat_len cs hcs] at hjl
    have hi : j / sz < xs.length := by rw [Nat.div_lt_iff_lt_mul hsz]; exact hjl
    have hm := Nat.mod_lt j hsz
    have e : j = j / sz * sz + j % sz := by rw [Nat.mul_comm]; exact (Nat.div_add_mod j sz).symm
    have e2 := h5 (j / sz) hi (j % sz) hm
    rw [add_plain, ← hj]
    rw [e, flat_get cs hcs xs (j / sz) hi (j % sz) hm, hf _ _ hm, ← Nat.add_assoc]
    exact e2
/-- A row is put behind a row of a call's own. -/
theorem wpList_rows {P : Program} {base : Nat} {e t bytes : Nat} {V : Value} {L : List α} {ops : Array Oper} {rest : List Oper} {o : Oper} {a : Act} {Q : Exit → Act → World → Prop} (cs : α → List Value) (hcs : ∀ x, (cs x).length = sz) (hf : ∀ x j, j < sz → (cs x)[j]? = some (f x j)) (h1 : ∀ x, ∀ u ∈ cs x, u.oneCell' = true)
    (T : SliceOf P t e sz bytes) (hM : w.ownsRow base e sz V L.length (L.flatMap cs)) (hbase : base ≤ w.heap.size) (hN : IsRow sz f w v xs) (hgd : o.guard = none) (s x : Operand)
    (ho : o.op = .call { callee := .builtin .append, args := #[s, x], argTypes := #[t, t] }) (hs : a.eval s = V) (hx : a.eval x = v) (h64 : L.length + xs.length ≤ 1000000) (hb : bytes ≤ 1000)
    (h : ∀ v' w', w'.ownsRow base e sz v' (L ++ xs).length ((L ++ xs).flatMap cs) → w.grownBy w' V.ownBlock → (v'.ownBlock = V.ownBlock ∨ ∀ k, v'.ownBlock = some k → w.heap.size ≤ k) → wpList P ops Q rest (a.put o.dst v') w') : wpList P ops Q (o :: rest) a w := by
  have hsz : 0 < sz := by obtain ⟨_, _, _, _, _, _, _, _, h⟩ := T; exact h
  by_cases h0 : v = .slice Option.none 0 0
  · have hx0 : xs = [] := by
      rcases hN with ⟨_, h2⟩ | ⟨b', o', c', h1, _⟩
      · exact h2
      · rw [h0] at h1; cases h1
    subst hx0
    subst h0
    obtain ⟨i, z, t1, t2, t3, t4, t5, t6, t7⟩ := T
    exact wpList_append_own_none hgd s x t ho base e i sz t1 t2 V L.length (L.flatMap cs) hs hM hx (h V w (by rw [List.append_nil]; exact hM) ⟨rfl, rfl, rfl, Nat.le_refl _, fun _ _ _ => rfl⟩ (.inl rfl))
  · obtain ⟨ad, c, rfl, _, hc⟩ := cellsAt hN cs hcs hf hsz h0
    refine wpList_app T hM hbase hgd s x ho hs ad xs.length c (xs.flatMap cs) hx (flat_len (sz := sz) cs hcs xs) hc (fun u hu => ?_) ?_ (by unfold maxLen; omega) (fun v' w' h1 h2 h3 => h v' w' ?_ h2 h3)
    · obtain ⟨y, _, hy⟩ := List.mem_flatMap.1 hu
      exact h1 y u hy
    · have := Nat.mul_le_mul h64 hb
      omega
    · rw [List.length_append, List.flatMap_append]
      exact h1
end
end B
end Go.Proofs.YtkjabiabeemfhaaGreatDoor
end
section
/- rows of nodes that a call puts together: a literal, and rows behind it -/
namespace Go.Proofs.YtkjabiabeemfhaaGreatDoor
open Go.RowKit
set_option maxRecDepth 100000

theorem nodeInfo : (Tryz.prog.info? 61).map (fun i => (i.zero, i.size, i.bytes)) = some (some (.agg #[.int .i64 0, .int .i64 0, .int .i64 0, .int .i64 0, .int .i64 0]), 5, 40) := by kernel_rfl
theorem sliceNode : SliceOf Tryz.prog 22 61 5 40 := sliceOf_mk Tryz.underlying22 nodeInfo rfl (by decide)
/-- A row of nodes that a call made. -/
def MineN (w0 w : World) (v : Value) (L : List Nd) : Prop := Mine w0 61 5 w v L.length (L.flatMap ndCs)
theorem MineN.later {w0 w w' : World} {v : Value} {L : List Nd} (h : MineN w0 w v L) (hb : Later w w') : MineN w0 w' v L := Mine.later h hb
theorem MineN.lat {w0 w : World} {v : Value} {L : List Nd} (h : MineN w0 w v L) : Later w0 w := Mine.lat h
theorem MineN.nodes {w0 w : World} {v : Value} {L : List Nd} (h : MineN w0 w v L) : IsNodes w v L := (Mine.row_ (sz := 5) (f := fun (y : Nd) j => .int .i64 (y.cell j)) ndCs (fun _ => rfl) ndCs_cell (by decide) h).1
theorem MineN.form {w0 w : World} {v : Value} {L : List Nd} (h : MineN w0 w v L) : ∃ p cap, v = .slice p L.length cap := Mine.form h
theorem ndCs_cells (x : Nd) : ∀ u ∈ ndCs x, u.oneCell' = true := by
  intro u hu
  simp only [ndCs, List.mem_cons, List.not_mem_nil, or_false] at hu
  rcases hu with rfl | rfl | rfl | rfl | rfl <;> rfl
theorem wpList_nodes {w0 w : World} {v V : Value} {L ts : List Nd} {ops : Array Oper} {rest : List Oper} {o : Oper} {a : Act} {Q : Exit → Act → World → Prop} (hM : MineN w0 w v L) (hN : IsNodes w V ts) (hgd : o.guard = none) (s x : Operand)
    (ho : o.op = .call { callee := .builtin .append, args := #[s, x], argTypes := #[22, 22] }) (hs : a.eval s = v) (hx : a.eval x = V) (h64 : L.length + ts.length ≤ 1000000)
    (h : ∀ v' w', MineN w0 w' v' (L ++ ts) → Later w0 w' → wpList Tryz.prog ops Q rest (a.put o.dst v') w') : wpList Tryz.prog ops Q (o :: rest) a w := by
  refine B.wpList_rows (f := fun (y : Nd) j => .int .i64 (y.cell j)) (base := w0.heap.size) ndCs (fun _ => rfl) ndCs_cell ndCs_cells sliceNode hM.1 (Later.size hM.lat) hN hgd s x ho hs hx h64 (by decide) (fun v' w' h1 h2 _ => ?_)
  have hl := Later.grown hM.lat h2 (fun k hk => (hM.1.lt k hk).1)
  exact h v' w' ⟨h1, hl⟩ hl
end Go.Proofs.YtkjabiabeemfhaaGreatDoor
end
section
/- flows and waits in order: one more is put in its place (plain) -/
namespace Go.Proofs.YtkjabiabeemfhaaGreatDoor
open Go.RowKit Go.Sort

/-! Put in place -/
section
variable {α : Type} {cf : α → α → Int}
def insL (cf : α → α → Int) (l : List α) (x : α) : List α := l.takeWhile (fun y => !(ltOf cf) x y) ++ x :: l.dropWhile (fun y => !(ltOf cf) x y)
theorem insL_perm (l : List α) (x : α) : (insL cf l x).Perm (l ++ [x]) := by
  unfold insL
  refine List.perm_middle.trans ?_
  rw [List.takeWhile_append_dropWhile]
  exact (List.perm_append_singleton x l).symm
theorem drop_head {p : α → Bool} {l : List α} {y : α} {r : List α} (h : l.dropWhile p = y :: r) : p y = false := by
  induction l with
  | nil => cases h
  | cons a l ih =>
    rw [List.dropWhile_cons] at h
    split at h
    · exact ih h
    · rename_i h1
      cases h
      simpa using h1
theorem insL_sorted (hO : SWO (ltOf cf)) {l : List α} (h : l.Pairwise (fun x y => ltOf cf y x = false)) (x : α) : (insL cf l x).Pairwise (fun x y => ltOf cf y x = false) := by
  unfold insL
  have h0 := h
  rw [← List.takeWhile_append_dropWhile (p := fun y => !(ltOf cf) x y) (l := l)] at h0
  rw [List.pairwise_append] at h0 ⊢
  obtain ⟨h1, h2, h3⟩ := h0
  have h4 : ∀ a ∈ l.takeWhile (fun y => !(ltOf cf) x y), ltOf cf x a = false := fun a ha => by
    have := List.all_eq_true.1 (List.all_takeWhile (l := l) (p := fun y => !(ltOf cf) x y)) a ha
    simpa using this
  refine ⟨h1, List.pairwise_cons.2 ⟨fun b hb => ?_, h2⟩, fun a ha b hb => ?_⟩
  · cases hd : l.dropWhile (fun y => !(ltOf cf) x y) with
    | nil => rw [hd] at hb; cases hb
    | cons y r =>
      have hy := drop_head hd
      have hy' : ltOf cf x y = true := by simpa using hy
      have hyx : ltOf cf y x = false := by
        cases e : ltOf cf y x with
        | false => rfl
        | true => have := hO.trans y x y e hy'; rw [hO.irrefl] at this; cases this
      rw [hd] at hb h2
      rcases List.mem_cons.1 hb with rfl | hb
      · exact hyx
      · exact hO.ntrans b y x ((List.pairwise_cons.1 h2).1 b hb) hyx
  · rcases List.mem_cons.1 hb with rfl | hb
    · exact h4 a ha
    · exact h3 a ha b hb
theorem sort_put (hO : SWO (ltOf cf)) (hT : ∀ x y, (ltOf cf) x y = false → (ltOf cf) y x = false → x = y) (l : List α) (x : α) : insL cf (sortL cf l) x = sortL cf (l ++ [x]) := by
  refine order_unique hT ?_ (insL_sorted hO (sortL_sorted hO hT l) x) (sortL_sorted hO hT _)
  exact (insL_perm _ _).trans (((sortL_perm cf l).append_right [x]).trans (sortL_perm cf _).symm)
/-! Each once -/
end
section
variable {α : Type} [DecidableEq α]
end
end Go.Proofs.YtkjabiabeemfhaaGreatDoor
end
section
/- denote: a contract that is given (plain) -/
namespace Go.Proofs.YtkjabiabeemfhaaGreatDoor
open Go.RowKit Go.Sort

/-! A term's place does not count. -/
def Hd.sim (a b : Hd) : Prop := a.T = b.T ∧ a.day = b.day ∧ a.n = b.n ∧ a.d = b.d
def Hd.z (h : Hd) : Hd := ⟨h.T, 0, h.day, h.n, h.d⟩
theorem kidH_place (l : List Tm) (k k' i : Nat) (day n d : Int) : (kidH l k i day n d).map Hd.z = (kidH l k' i day n d).map Hd.z := by
  unfold kidH
  split <;> rfl
theorem step_place (env : Env) (tod : Int) (x : Nd) (l : List Tm) (k k' : Nat) (day n d : Int) :
    (stepT env tod x l k day n d).1 = (stepT env tod x l k' day n d).1 ∧ (stepT env tod x l k day n d).2.1.map Hd.z = (stepT env tod x l k' day n d).2.1.map Hd.z ∧ (stepT env tod x l k day n d).2.2 = (stepT env tod x l k' day n d).2.2 := by
  unfold stepT
  split
  · exact ⟨rfl, rfl, rfl⟩
  split
  · exact ⟨rfl, kidH_place _ _ _ _ _ _ _, rfl⟩
  split
  · refine ⟨rfl, ?_, rfl⟩
    rw [List.map_append, List.map_append, kidH_place l k k', kidH_place l k k']
  split
  · unfold scaleT
    split
    · exact ⟨rfl, rfl, rfl⟩
    split
    · exact ⟨rfl, rfl, rfl⟩
    split
    · exact ⟨rfl, rfl, rfl⟩
    · exact ⟨rfl, kidH_place _ _ _ _ _ _ _, rfl⟩
  split
  · refine ⟨rfl, ?_, rfl⟩
    simp only
    split
    · exact kidH_place _ _ _ _ _ _ _
    · rfl
  split
  · unfold condT
    split
    · exact ⟨rfl, rfl, rfl⟩
    split
    · exact ⟨rfl, rfl, rfl⟩
    split
    · exact ⟨rfl, kidH_place _ _ _ _ _ _ _, rfl⟩
    · exact ⟨rfl, rfl, rfl⟩
  split
  · split
    · exact ⟨rfl, kidH_place _ _ _ _ _ _ _, rfl⟩
    · exact ⟨rfl, rfl, rfl⟩
  split
  · split
    · exact ⟨rfl, kidH_place _ _ _ _ _ _ _, rfl⟩
    · exact ⟨rfl, rfl, rfl⟩
  exact ⟨rfl, rfl, rfl⟩
theorem one_place (env : Env) (tod : Int) (h : Hd) : (oneH env tod h).1 = (oneH env tod h.z).1 ∧ (oneH env tod h).2.1.map Hd.z = (oneH env tod h.z).2.1.map Hd.z ∧ (oneH env tod h).2.2 = (oneH env tod h.z).2.2 := by
  unfold oneH
  show (if tod < h.day then _ else _ : St).1 = (if tod < h.day then _ else _ : St).1 ∧ _
  by_cases hd : tod < h.day
  · simp only [Hd.z, hd, if_true, and_self]
  · simp only [Hd.z, hd, if_false]
    exact step_place _ _ _ _ _ _ _ _ _
theorem den_z (env : Env) (tod : Int) : ∀ h : Hd, den env tod h = den env tod h.z := by
  refine hd_ind (fun h ih => ?_)
  obtain ⟨k1, k2, k3⟩ := one_place env tod h
  rw [den_eq, den_eq env tod h.z, k1, k3]
  have k4 : (oneH env tod h).2.1.map (den env tod) = (oneH env tod h.z).2.1.map (den env tod) := by
    have e1 : (oneH env tod h).2.1.map (den env tod) = ((oneH env tod h).2.1.map Hd.z).map (den env tod) := by
      rw [List.map_map]; exact List.map_congr_left (fun g hg => ih g (mem_lt hg))
    have e2 : (oneH env tod h.z).2.1.map (den env tod) = ((oneH env tod h.z).2.1.map Hd.z).map (den env tod) := by
      rw [List.map_map]; exact List.map_congr_left (fun g hg => ih g (mem_lt (h := h.z) hg))
    rw [e1, e2, k2]
  rw [k4]
theorem den_place (env : Env) (tod : Int) (h g : Hd) (hs : h.sim g) : den env tod h = den env tod g := by
  rw [den_z env tod h, den_z env tod g]
  obtain ⟨T, pl, day, n, d⟩ := h
  obtain ⟨T', pl', day', n', d'⟩ := g
  obtain ⟨e1, e2, e3, e4⟩ := hs
  simp only at e1 e2 e3 e4
  subst e1 e2 e3 e4
  rfl
end Go.Proofs.YtkjabiabeemfhaaGreatDoor
end
section
/- denote: heads of contracts (plain) -/
namespace Go.Proofs.YtkjabiabeemfhaaGreatDoor
open Go.RowKit Go.Sort

section
variable {env : Env} {tod : Int}
theorem comb_nil_eq {b : Rs} (h : b.1 ≠ 0 → b.2 = ([], [])) : comb (0, [], []) b = b := by
  unfold comb
  obtain ⟨e, f, w⟩ := b
  by_cases h0 : e = 0
  · subst h0; simp
  · have := h h0
    simp only [Prod.mk.injEq] at this
    obtain ⟨rfl, rfl⟩ := this
    simp [h0]
theorem comb_eq_nil {a : Rs} (h : a.1 ≠ 0 → a.2 = ([], [])) : comb a (0, [], []) = a := by
  unfold comb
  obtain ⟨e, f, w⟩ := a
  by_cases h0 : e = 0
  · subst h0; simp
  · have := h h0
    simp only [Prod.mk.injEq] at this
    obtain ⟨rfl, rfl⟩ := this
    simp [h0]
theorem comb_err {a b : Rs} (h : (comb a b).1 ≠ 0) : (comb a b).2 = ([], []) := by
  unfold comb at h ⊢
  split
  · rfl
  · rename_i h1
    rw [if_neg h1] at h
    split
    · rfl
    · rename_i h2
      rw [if_neg h2] at h
      exact absurd rfl h
theorem den_via {h g : Hd} (h1 : oneH env tod h = (0, [g], [], [])) : den env tod h = den env tod g := by
  rw [den_eq, h1]
  simp only [ne_eq, not_true_eq_false, if_false, List.map_cons, List.map_nil]
  show comb (0, [], []) (comb (den env tod g) (0, [], [])) = _
  rw [comb_eq_nil (fun e => den_err e), comb_nil_eq (fun e => den_err e)]
theorem den_two {h g g' : Hd} (h1 : oneH env tod h = (0, [g, g'], [], [])) : den env tod h = comb (den env tod g) (den env tod g') := by
  rw [den_eq, h1]
  simp only [ne_eq, not_true_eq_false, if_false, List.map_cons, List.map_nil]
  show comb (0, [], []) (comb (den env tod g) (comb (den env tod g') (0, [], []))) = _
  rw [comb_eq_nil (fun e => den_err e), comb_nil_eq (fun e => comb_err e)]
theorem den_stop {h : Hd} (h1 : oneH env tod h = (0, [], [], [])) : den env tod h = (0, [], []) := by
  rw [den_eq, h1]
  simp [comb, combL]
theorem den_and (T U : Tm) (k k' k2 : Nat) (day n d : Int) : den env tod ⟨.node ⟨12, 0, 0, 0, 0⟩ [T, U], k, day, n, d⟩ = comb (den env tod ⟨T, k', day, n, d⟩) (den env tod ⟨U, k2, day, n, d⟩) := by
  by_cases hd : tod < day
  · rw [den_late hd, den_late hd, den_late hd]; rfl
  · have h1 : oneH env tod ⟨.node ⟨12, 0, 0, 0, 0⟩ [T, U], k, day, n, d⟩ = (0, [⟨T, placeN k [T, U] 0, day, n, d⟩, ⟨U, placeN k [T, U] 1, day, n, d⟩], [], []) := by
      unfold oneH
      rw [if_neg hd]
      simp [stepT, Tm.root, Tm.kids, kidH]
    rw [den_two h1, den_place env tod ⟨T, placeN k [T, U] 0, day, n, d⟩ ⟨T, k', day, n, d⟩ ⟨rfl, rfl, rfl, rfl⟩, den_place env tod ⟨U, placeN k [T, U] 1, day, n, d⟩ ⟨U, k2, day, n, d⟩ ⟨rfl, rfl, rfl, rfl⟩]
theorem den_when (T : Tm) (k k' : Nat) (a day n d : Int) : den env tod ⟨.node ⟨14, a, 0, 0, 0⟩ [T], k, day, n, d⟩ = if day ≤ a then den env tod ⟨T, k', a, n, d⟩ else (0, [], []) := by
  by_cases hd : tod < day
  · rw [den_late hd]
    split
    · rw [den_late (by simp only; omega)]
    · rfl
  · split
    · rename_i ha
      refine (den_via (g := ⟨T, placeN k [T] 0, a, n, d⟩) ?_).trans (den_place _ _ _ _ ⟨rfl, rfl, rfl, rfl⟩)
      unfold oneH
      rw [if_neg hd]
      simp [stepT, Tm.root, Tm.kids, kidH, ha]
    · rename_i ha
      refine den_stop ?_
      unfold oneH
      rw [if_neg hd]
      simp [stepT, Tm.root, Tm.kids, ha]
end
end Go.Proofs.YtkjabiabeemfhaaGreatDoor
end
section
/- terms put together (plain) -/
namespace Go.Proofs.YtkjabiabeemfhaaGreatDoor
open Go.RowKit Go.Sort

section
variable {x : Nd} {l : List Tm}
end
/-! What a contract that is put together comes to -/
section
variable {env : Env} {ts us : List Nd} {T U : Tm} {day tod : Int}
theorem out_late (hG : Good ts T) (hm : makesI T.root.op = 2) (hr : day < 0 ∨ 73048 < day ∨ tod < -1 ∨ 73048 < tod) : outT env ts day tod = (18, [], []) := out_day (ct_of_good hG hm) hr
def andN : Nd := ⟨12, 0, 0, 0, 0⟩
def whenN (a : Int) : Nd := ⟨14, a, 0, 0, 0⟩
theorem mk_and : makesI (Tm.node andN [T, U]).root.op = 2 := show makesI 12 = 2 by decide
theorem mk_when (a : Int) : makesI (Tm.node (whenN a) [T]).root.op = 2 := show makesI 14 = 2 by decide
theorem and_out (hG : Good ts T) (hm : makesI T.root.op = 2) (hU : Good us U) (hmu : makesI U.root.op = 2) (hJ : Good (andN :: (ts ++ us)) (.node andN [T, U])) (h0 : 0 ≤ day) (h1 : day ≤ 73048) :
    ((outT env ts day tod).1 = 0 ∧ (outT env us day tod).1 = 0 ↔ (outT env (andN :: (ts ++ us)) day tod).1 = 0) ∧ ((outT env (andN :: (ts ++ us)) day tod).1 = 0 → (outT env (andN :: (ts ++ us)) day tod).2.1 = (outT env ts day tod).2.1 ++ (outT env us day tod).2.1) := by
  by_cases hr : day < 0 ∨ 73048 < day ∨ tod < -1 ∨ 73048 < tod
  · rw [out_late hJ mk_and hr, out_late hG hm hr, out_late hU hmu hr]; simp
  · rw [out_good hJ mk_and hr, out_good hG hm hr, out_good hU hmu hr, show den env tod ⟨.node andN [T, U], 0, day, 1, 1⟩ = _ from den_and T U 0 0 0 day 1 1]
    refine ⟨comb_fst.symm, fun h => ?_⟩
    obtain ⟨a, b⟩ := comb_fst.1 h
    rw [comb_ok a b]
theorem when_out {a : Int} (hG : Good ts T) (hm : makesI T.root.op = 2) (hJ : Good (whenN a :: ts) (.node (whenN a) [T])) (h0 : 0 ≤ day) (h1 : day ≤ 73048) (a0 : 0 ≤ a) (a1 : a ≤ 73048) :
    (a < day → (outT env (whenN a :: ts) day tod).2.1 = []) ∧ (day ≤ a → outT env (whenN a :: ts) day tod = outT env ts a tod) := by
  have hw : makesI (Tm.node (whenN a) [T]).root.op = 2 := mk_when a
  by_cases hr : tod < -1 ∨ 73048 < tod
  · rw [out_late hJ hw (by omega), out_late hG hm (by omega)]; simp
  · rw [out_good hJ hw (by omega), out_good hG hm (by omega), show den env tod ⟨.node (whenN a) [T], 0, day, 1, 1⟩ = _ from den_when T 0 0 a day 1 1]
    refine ⟨fun h => by rw [if_neg (by omega)], fun h => by rw [if_pos h]⟩
end
/-- All put in their places. -/
theorem puts_sort (l : List Fl) : ∀ m : List Fl, l.foldl (insL ordF) (sortL ordF m) = sortL ordF (m ++ l) := by
  induction l with
  | nil => intro m; simp
  | cons x l ih =>
    intro m
    rw [List.foldl_cons, sort_put swoF totF, ih, List.append_assoc]
    rfl
end Go.Proofs.YtkjabiabeemfhaaGreatDoor
end
section
/- facts that are told more only (plain) -/
namespace Go.Proofs.YtkjabiabeemfhaaGreatDoor
open Go.RowKit Go.Sort

theorem FcOk.env {s : FxL × ChL} {n : Nat} (h : FcOk s n) : EnvOk (envT s.1 s.2) := envT_ok h.fo h.co
section
variable {s : FxL × ChL} {n : Nat} {x : Td}
end
/-! More, but none that is there, and no choice of a key of an Any -/
end Go.Proofs.YtkjabiabeemfhaaGreatDoor
end
section
/- term.Join: what is wrong with what it puts together (plain) -/
namespace Go.Proofs.YtkjabiabeemfhaaGreatDoor
open Go.RowKit
set_option maxRecDepth 100000

/-- Rows that are just one term each, one behind the other, from a place on. -/
def partsE (out : List Nd) : Nat → List (List Nd) → Bool
  | _, [] => true
  | at_, p :: r => (!p.isEmpty && decide (endN out at_ = some (at_ + p.length))) && partsE out (at_ + p.length) r
/-- What is wrong with a term of a node, and terms. -/
noncomputable def joinE (x : Nd) (l : List (List Nd)) : Int := if ofE (x :: l.flatten) ≠ 0 then ofE (x :: l.flatten) else if partsE (x :: l.flatten) 1 l = true then 0 else 14
theorem parts_at : ∀ (l : List (List Nd)) {out : List Nd} {k : Nat}, out.drop k = l.flatten → partsE out k l = true → ∃ L : List Tm, L.map Tm.flat = l ∧ TmsAt out k L
  | [], out, k, _, _ => ⟨[], rfl, trivial, List.nil_prefix⟩
  | p :: r, out, k, hd, h => by
    unfold partsE at h
    simp only [Bool.and_eq_true, decide_eq_true_eq] at h
    obtain ⟨⟨h1, h2⟩, h3⟩ := h
    obtain ⟨t, ht, hsz⟩ := tm_of_end (Nat.le_refl _) h2
    have hsz' : t.size = p.length := by omega
    have htp : t.flat = p := by
      obtain ⟨c, hc⟩ := ht.2
      rw [hd, List.flatten_cons] at hc
      have := congrArg (List.take p.length) hc
      rwa [List.take_left' (by rw [Tm.size_flat, hsz']), List.take_left' rfl] at this
    have hd' : out.drop (k + p.length) = r.flatten := by
      rw [← List.drop_drop, hd, List.flatten_cons, List.drop_left' rfl]
    obtain ⟨L, hL, hT⟩ := parts_at r hd' h3
    refine ⟨t :: L, by rw [List.map_cons, htp, hL], ⟨⟨ht.1, hT.1⟩, ?_⟩⟩
    obtain ⟨c, hc⟩ := hT.2
    refine ⟨c, ?_⟩
    show (t.flat ++ Tm.flat.flats L) ++ c = _
    rw [List.append_assoc, hc, hd, List.flatten_cons, hd', htp]
theorem depths_le {t : Tm} : ∀ {l : List Tm}, t ∈ l → t.depth ≤ Tm.depth.depths l
  | a :: r, h => by
    simp only [Tm.depth.depths]
    rcases List.mem_cons.1 h with rfl | h
    · omega
    · have := depths_le h; omega
/-- A term that is put together of rows: each of them is a term that may be. -/
theorem join_parts {x : Nd} {l : List (List Nd)} (h : joinE x l = 0) : ∃ L : List Tm, L.map Tm.flat = l ∧ Good (x :: l.flatten) (.node x L) ∧ (∀ i (hi : i < L.length), Good (L[i]).flat L[i] ∧ makesI (L[i]).root.op = belI x.op i) ∧ L.length = manyN x.op := by
  unfold joinE at h
  split at h
  · rename_i h0; exact absurd h h0
  · rename_i h0
    split at h
    · rename_i hp
      have h0' : ofE (x :: l.flatten) = 0 := by simpa using h0
      obtain ⟨T, hG⟩ := good_of h0'
      obtain ⟨L, hL, hT⟩ := parts_at l (out := x :: l.flatten) (k := 1) (by simp) hp
      obtain ⟨y, m⟩ := T
      obtain ⟨hAt, hsz⟩ := hG.at
      obtain ⟨r1, r2, r3, r4⟩ := hAt.root
      have hx : x = y := by simpa using r1
      subst hx
      have hflat : (L.map Tm.size).sum = l.flatten.length := by
        rw [← hL, List.length_flatten, List.map_map]
        congr 1
        exact List.map_congr_left (fun t _ => (Tm.size_flat t).symm)
      -- as many terms as the node has
      have hlen : L = m := by
        have key : ∀ (l m : List Tm) (k : Nat), TmsAt (x :: (L.map Tm.flat).flatten) k l → TmsAt (x :: (L.map Tm.flat).flatten) k m → (l.map Tm.size).sum = (m.map Tm.size).sum → l = m := by
          intro l
          induction l with
          | nil =>
            intro m k _ _ hs
            cases m with
            | nil => rfl
            | cons t r => have := t.size_pos; simp at hs; omega
          | cons t r ih =>
            intro m k h1 h2 hs
            cases m with
            | nil => have := t.size_pos; simp at hs; omega
            | cons s q =>
              obtain ⟨c1, c2⟩ := h1.cons
              obtain ⟨d1, d2⟩ := h2.cons
              obtain rfl := TmAt.unique c1 d1
              rw [ih q _ c2 d2 (by simp at hs; omega)]
        rw [← hL] at hT r2 hsz hflat
        refine key L m 1 hT r2 ?_
        rw [hflat]
        have e : (Tm.node x m).size = 1 + Tm.size.sizes m := rfl
        rw [e, List.length_cons] at hsz
        have e2 := sizes_sum m
        omega
      subst hlen
      refine ⟨L, hL, hG, fun i hi => ?_, r4⟩
      obtain ⟨s1, s2⟩ := sorted_kid hG.sorted hi
      have hmem : L[i] ∈ L := List.getElem_mem hi
      have hfl : ∀ y ∈ (L[i]).flat, y ∈ x :: l.flatten := fun y hy => List.mem_cons_of_mem _ (by rw [← hL]; exact List.mem_flatten.2 ⟨_, List.mem_map_of_mem hmem, hy⟩)
      refine ⟨⟨treeOf_iff.2 ⟨(Tm.oks_iff L).1 r2.1 _ hmem, rfl⟩, ?_, fun y hy => hG.fields y (hfl y hy), s1, ?_⟩, s2⟩
      · have hle : (L[i]).size ≤ (L.map Tm.size).sum := le_sum (List.mem_map_of_mem hmem)
        have := hG.len
        rw [Tm.size_flat]
        rw [List.length_cons] at this
        omega
      · have := hG.depth
        have e : (Tm.node x L).depth = Tm.depth.depths L + 1 := rfl
        have := depths_le hmem
        omega
    · cases h
end Go.Proofs.YtkjabiabeemfhaaGreatDoor
end
section
/- both, and when (plain) -/
namespace Go.Proofs.YtkjabiabeemfhaaGreatDoor
open Go.RowKit Go.Sort

theorem join_when {a : Int} {ts : List Nd} (h : joinE (whenN a) [ts] = 0) : ∃ T, Good ts T ∧ makesI T.root.op = 2 ∧ Good (whenN a :: ts) (.node (whenN a) [T]) := by
  obtain ⟨L, h1, h2, h3, h4⟩ := join_parts h
  have h5 : L.length = 1 := h4
  obtain ⟨T, rfl⟩ := List.length_eq_one_iff.1 h5
  have hf : T.flat = ts := by simpa using h1
  obtain ⟨h6, h7⟩ := h3 0 (by simp)
  refine ⟨T, by rw [← hf]; exact h6, h7.trans (show belI 14 0 = 2 by decide), ?_⟩
  have e : [ts].flatten = ts := by simp
  rw [e] at h2
  exact h2
theorem join_two {ts us : List Nd} (h : joinE andN [ts, us] = 0) : ∃ T U, Good ts T ∧ makesI T.root.op = 2 ∧ Good us U ∧ makesI U.root.op = 2 ∧ Good (andN :: (ts ++ us)) (.node andN [T, U]) := by
  obtain ⟨L, h1, h2, h3, h4⟩ := join_parts h
  have h5 : L.length = 2 := h4
  obtain ⟨T, U, rfl⟩ : ∃ a b, L = [a, b] := by match L, h5 with | [a, b], _ => exact ⟨a, b, rfl⟩
  obtain ⟨hf, hg⟩ : T.flat = ts ∧ U.flat = us := by simpa using h1
  obtain ⟨h6, h7⟩ := h3 0 (by simp)
  obtain ⟨h8, h9⟩ := h3 1 (by simp)
  refine ⟨T, U, by rw [← hf]; exact h6, h7.trans (show belI 12 0 = 2 by decide), by rw [← hg]; exact h8, h9.trans (show belI 12 1 = 2 by decide), ?_⟩
  have e : [ts, us].flatten = ts ++ us := by simp
  rw [e] at h2
  exact h2
theorem both_plain {env : Env} {ts us : List Nd} {day tod : Int} (h : joinE andN [ts, us] = 0) (h0 : 0 ≤ day) (h1 : day ≤ 73048) :
    ((outT env ts day tod).1 = 0 ∧ (outT env us day tod).1 = 0 ↔ (outT env (andN :: (ts ++ us)) day tod).1 = 0) ∧
    ((outT env (andN :: (ts ++ us)) day tod).1 = 0 → (flowsT env us day tod).foldl (insL ordF) (flowsT env ts day tod) = flowsT env (andN :: (ts ++ us)) day tod) ∧
    ((outT env (andN :: (ts ++ us)) day tod).1 ≠ 0 → flowsT env (andN :: (ts ++ us)) day tod = []) := by
  obtain ⟨T, U, hG, hm, hU, hmu, hJ⟩ := join_two h
  obtain ⟨a, b⟩ := and_out (env := env) (day := day) (tod := tod) hG hm hU hmu hJ h0 h1
  refine ⟨a, fun e => ?_, fun e => flows_err e⟩
  unfold flowsT
  rw [puts_sort, b e]
  exact sort_same swoF totF (((sortL_perm ordF _)).append_left _)
theorem when_plain {env : Env} {a : Int} {ts : List Nd} {day tod : Int} (h : joinE (whenN a) [ts] = 0) (h0 : 0 ≤ day) (h1 : day ≤ 73048) (a0 : 0 ≤ a) (a1 : a ≤ 73048) :
    (a < day → flowsT env (whenN a :: ts) day tod = []) ∧ (day ≤ a → (outT env (whenN a :: ts) day tod).1 = (outT env ts a tod).1 ∧ flowsT env (whenN a :: ts) day tod = flowsT env ts a tod) := by
  obtain ⟨T, hG, hm, hJ⟩ := join_when h
  obtain ⟨x, y⟩ := when_out (env := env) (day := day) (tod := tod) hG hm hJ h0 h1 a0 a1
  refine ⟨fun e => ?_, fun e => ?_⟩
  · unfold flowsT; rw [x e]; simp [sortL]
  · unfold flowsT; rw [y e]; exact ⟨rfl, rfl⟩
theorem puts_take {l m : List Fl} {j : Nat} (h : j < l.length) : (l.take (j + 1)).foldl (insL ordF) m = insL ordF ((l.take j).foldl (insL ordF) m) l[j] := by
  rw [List.take_succ_eq_append_getElem h, List.foldl_append]; rfl
theorem ins_len (m : List Fl) (x : Fl) : (insL ordF m x).length = m.length + 1 := by
  rw [(insL_perm m x).length_eq]; simp
theorem puts_lenm (l : List Fl) : ∀ m : List Fl, (l.foldl (insL ordF) m).length = m.length + l.length := by
  induction l with
  | nil => intro m; simp
  | cons x l ih => intro m; rw [List.foldl_cons, ih, ins_len, List.length_cons]; omega
end Go.Proofs.YtkjabiabeemfhaaGreatDoor
end
section
/-
  DERIVED: THE SHELF's CONTRACTS AT THIS DUMP, IN PLAIN WORDS (tools/lay-plain.mjs out of 'TryzGrow.lean', which tools/lay-shelf.mjs wrote): THE SAME DECLARATIONS UNDER THE SAME NAMES: 'import', 'namespace', 'open', 'def', 'theorem' AND NOTHING ELSE: no command of the shelf's: FOR A HAND-IN. Each laying: the table of numbers ('.._ren') and one theorem, a field a fact of the dump's own or the kernel's comparison; each contract: ONE APPLICATION.
-/
namespace Go.Proofs
open Go.Shelf
def Tryz.growNode_ren : Go.Shelf.Ren := ⟨fun | 4 => 116 | n => n, fun | 22 => 22 | 25 => 61 | 3 => 3 | 4 => 4 | 9 => 9 | 20 => 20 | 0 => 0 | n => n, fun | n => n⟩
theorem Tryz.growNode : Go.Proofs.Lays8.n4 Tryz.prog Tryz.growNode_ren := {
  mixed := by kernel_rfl
  f4 := ⟨Tryz.f116.name, by decide, Tryz.func116.trans (congrArg some (by kernel_rfl))⟩
  t0 := Tryz.underlying0
  a0 := Tryz.isAgg0
  z0 := Tryz.sizeOf0
  v0 := Tryz.zeroValue0
  t3 := Tryz.underlying3
  a3 := Tryz.isAgg3
  z3 := Tryz.sizeOf3
  v3 := Tryz.zeroValue3
  t4 := Tryz.underlying4
  a4 := Tryz.isAgg4
  z4 := Tryz.sizeOf4
  v4 := Tryz.zeroValue4
  t9 := Tryz.underlying9
  a9 := Tryz.isAgg9
  z9 := Tryz.sizeOf9
  v9 := Tryz.zeroValue9
  t20 := Tryz.underlying20
  a20 := Tryz.isAgg20
  z20 := Tryz.sizeOf20
  v20 := Tryz.zeroValue20
  t22 := Tryz.underlying22
  a22 := Tryz.isAgg22
  z22 := Tryz.sizeOf22
  v22 := Tryz.zeroValue22 }
end Go.Proofs
end
section
/- slices.Concat of rows of nodes -/
namespace Go.Proofs.YtkjabiabeemfhaaGreatDoor
open Go.RowKit
set_option maxRecDepth 100000

theorem grow_any (n : Nat) (w : World) (hn : n ≤ 1000000) : Calls Tryz.prog 116 #[.slice none 0 0, .int .i64 n] w fun e w' => ∃ v', e = .returned v' ∧ w'.ownsRow w.heap.size 61 5 v' 0 [] ∧ Later w w' := by
  by_cases h0 : n = 0
  · subst h0
    refine (Any8.slices_Grow_room Tryz.growNode none 0 0 0 w (Nat.le_refl _) (by decide) (by decide) (Nat.le_refl _)).mono fun e w' ⟨he, hw⟩ => ?_
    subst hw
    exact ⟨_, he, World.ownsRow_nil _ _ _ _, Later.refl _⟩
  · have hx := nodeInfo
    obtain ⟨i, hi⟩ : ∃ i, Tryz.prog.info? 61 = some i := by
      cases h : Tryz.prog.info? 61 with
      | none => rw [h] at hx; cases hx
      | some i => exact ⟨i, rfl⟩
    rw [hi] at hx
    simp only [Option.map_some, Option.some.injEq, Prod.mk.injEq] at hx
    obtain ⟨i1, i2, i3⟩ := hx
    refine (Any8.slices_Grow_grow Tryz.growNode i _ hi i1 (by rw [i2]; decide) none 0 0 n [] w (Nat.le_refl _) (by omega) (by rw [i3]; omega) (by omega) (by simp) (fun _ => rfl) (fun a h => by cases h)).mono fun e w' ⟨he, hw⟩ => ?_
    have hc := grownCap_ge w (0 + n) 0 61
    have hm := grownCap_le_maxLen w (0 + n) 0 61 (by unfold maxLen; omega)
    refine ⟨_, he, ⟨by simp, .inr ⟨w.heap.size, _, ([] : List Value).toArray ++ Builtin.zeroCells (Value.agg #[.int .i64 0, .int .i64 0, .int .i64 0, .int .i64 0, .int .i64 0]).cells (0 + n - 0) ++ Builtin.zeroCells (Value.agg #[.int .i64 0, .int .i64 0, .int .i64 0, .int .i64 0, .int .i64 0]).cells (grownCap w (0 + n) 0 61 - (0 + n)), rfl, Nat.le_refl _, ?_, Nat.zero_le _, hm, ?_, by simp⟩⟩, by rw [hw]; exact ((Later.refl w).drew).alloc _⟩
    · rw [hw]; exact Array.getElem?_push_size
    · simp only [Array.size_append, size_zeroCells, List.size_toArray, List.length_nil]
      show 0 + (0 + n - 0) * 5 + _ * 5 = _
      simp only [show (Tryz.growNode_ren.t 25) = 61 from rfl]
      omega
/-- Rows of nodes, in a row. -/
def IsParts (w : World) (v : Value) (l : List (List Nd)) : Prop :=
  ∃ us : List Value, us.length = l.length ∧ IsRow 1 (fun u _ => u) w v us ∧ ∀ i (h : i < us.length) (h' : i < l.length), IsNodes w us[i] l[i]
theorem IsParts.later {w w' : World} {v : Value} {l : List (List Nd)} (h : IsParts w v l) (hl : Later w w') : IsParts w' v l := by
  obtain ⟨us, h1, h2, h3⟩ := h
  exact ⟨us, h1, h2.later hl, fun i a b => (h3 i a b).later hl⟩
theorem partsl_take {l : List (List Nd)} {j : Nat} (h : j < l.length) : (l.take (j + 1)).flatten = (l.take j).flatten ++ l[j] := by rw [List.take_succ_eq_append_getElem h, List.flatten_append]; simp only [List.flatten_cons, List.flatten_nil, List.append_nil]
theorem partsl_le (l : List (List Nd)) (j : Nat) : (l.take j).flatten.length ≤ l.flatten.length := by
  conv => rhs; rw [← List.take_append_drop j l, List.flatten_append, List.length_append]
  omega
set_option maxHeartbeats 3200000 in
theorem concat_any (l : List (List Nd)) (v : Value) (w : World) (hN : IsParts w v l) (hlen : l.length ≤ 1000) (htot : l.flatten.length ≤ 100000) :
    Calls Tryz.prog 76 #[v] w fun e w' => ∃ v', e = .returned v' ∧ MineN w w' v' l.flatten := by
  obtain ⟨us, hul, hrow, hus⟩ := hN
  obtain ⟨p, cp, rfl⟩ := hrow.form
  have HR := Lib.hid hrow
  have HU := Lib.hid hus
  obtain ⟨M, hM⟩ : ∃ M, l.length = M := ⟨_, rfl⟩
  rw [hul, hM] at HR
  rw [hul, hM]
  have HL := Lib.hid (show us.length = M ∧ l.length = M from ⟨hul.trans hM, hM⟩)
  have HT : Hid (∀ j, (l.take j).flatten.length ≤ 100000) := Lib.hid (fun j => Nat.le_trans (partsl_le l j) htot)
  have HG := Lib.hid (fun W => grow_any l.flatten.length W (by omega))
  rw [hM] at hlen
  clear hrow hus hul hM
  obtain ⟨S, hS⟩ : ∃ S, l.flatten.length = S := ⟨_, rfl⟩
  rw [hS] at HG htot
  have HS := Lib.hid hS
  clear hS
  go_enter Tryz.func76, Tryz.ntmps76
  go_upto_region 3 with (fail)
  go_loopw [3, 11] (fun s3 s11 wr => ∃ j q : Nat, j ≤ M ∧ s11 = .int .i64 j ∧ s3 = .int .i64 q ∧ Hid (q = (l.take j).flatten.length) ∧ wr = w) (fun _ s11 _ => M - (intOf s11).toNat)
  case atStart => exact ⟨0, 0, Nat.zero_le _, rfl, rfl, Lib.hid (by simp), rfl⟩
  case round =>
    obtain ⟨j, q, hj, rfl, rfl, hq, rfl⟩ := hrel
    have hq5 : q ≤ 100000 := by rw [hq.out]; exact HT.out j
    by_cases hlt : j < M
    · have hjl : j < l.length := by rw [HL.out.2]; exact hlt
      have hju : j < us.length := by rw [HL.out.1]; exact hlt
      obtain ⟨b, o, c1, hv, hb, g⟩ := HR.out.full (i := j) hju
      rw [HL.out.1] at hv
      cases hv
      have g0 := g 0 (by decide)
      obtain ⟨p1, k1, hu1⟩ := (HU.out j hju hjl).form
      rw [hu1] at g0
      simp only [Nat.mul_one, Nat.add_zero] at g0
      obtain ⟨n1, hn1⟩ : ∃ n, (l[j]).length = n := ⟨_, rfl⟩
      rw [hn1] at g0
      have HQ : Hid (q + n1 = (l.take (j + 1)).flatten.length) := Lib.hid (by rw [partsl_take hjl, List.length_append, hn1, hq.out])
      have hq6 : q + n1 ≤ 100000 := by rw [HQ.out]; exact HT.out (j + 1)
      clear g hu1 hn1 hq
      go_wp2
      go_roundw
      case rel => exact ⟨j + 1, q + n1, by omega, by go_num, by go_num, HQ, trivial⟩
      case measure => simp [intOf]; omega
    · have hq7 : q = S := by rw [hq.out, List.take_of_length_le (by rw [HL.out.2]; omega), HS.out]
      subst hq7
      clear hq
      go_upto_region 11 with (go_at_call 116; go_must (refine (HG.out _).mono ?_; rintro e w1 ⟨v1, rfl, hrow1, hl1⟩; obtain ⟨p2, k2, hv2⟩ := B.owns_form hrow1; subst hv2))
      have HM0 : Hid (MineN wr w1 (.slice p2 0 k2) []) := Lib.hid ⟨hrow1, hl1⟩
      clear hrow1 hl1 HG
      go_loopw [6, 27] (fun s6 s27 w5 => ∃ j : Nat, j ≤ M ∧ s27 = .int .i64 j ∧ Hid (MineN wr w5 s6 (l.take j).flatten)) (fun _ s27 _ => M - (intOf s27).toNat)
      case atStart => exact ⟨0, Nat.zero_le _, rfl, HM0⟩
      case round =>
        obtain ⟨i, hi, rfl, hM⟩ := hrel
        clear HM0
        have hlat := hM.out.lat
        obtain ⟨p3, k3, hv3⟩ := hM.out.form
        obtain ⟨n3, hn3⟩ : ∃ n, (l.take i).flatten.length = n := ⟨_, rfl⟩
        rw [hn3] at hv3
        subst hv3
        have hn4 : n3 ≤ 100000 := by rw [← hn3]; exact HT.out i
        have HN3 := Lib.hid hn3
        clear hn3
        by_cases hlt2 : i < M
        · have hjl : i < l.length := by rw [HL.out.2]; exact hlt2
          have hju : i < us.length := by rw [HL.out.1]; exact hlt2
          obtain ⟨b, o, c1, hv, hb, g⟩ := HR.out.full (i := i) hju
          rw [HL.out.1] at hv
          cases hv
          have g0 := ((bcell hlat).1 _ _ hb).trans (g 0 (by decide))
          have hui := HU.out i hju hjl
          obtain ⟨p1, k1, hu1⟩ := hui.form
          rw [hu1] at g0 hui
          simp only [Nat.mul_one, Nat.add_zero] at g0
          have HUI := Lib.hid (hui.later hlat)
          have HF := Lib.hid (partsl_take hjl)
          have hn5 : (l[i]).length ≤ 100000 := by have := HT.out (i + 1); rw [HF.out, List.length_append] at this; omega
          obtain ⟨n1, hn1⟩ : ∃ n, (l[i]).length = n := ⟨_, rfl⟩
          have HN1 := Lib.hid hn1
          rw [hn1] at g0 HUI hn5
          obtain ⟨n9, hn9⟩ : ∃ n, ((l.take i).flatten ++ l[i]).length = n := ⟨_, rfl⟩
          have HN9 := Lib.hid hn9
          clear g hu1 hn1 hui hn9
          go_wp2_with (at_builtin; go_must (refine wpList_nodes hM.out HUI.out rfl _ _ rfl rfl rfl (by rw [HN3.out, HN1.out]; omega) ?_; intro v9 w9 h1 h2; obtain ⟨p9, c9, hv9⟩ := h1.form; rw [HN9.out] at hv9; subst hv9))
          go_roundw
          case rel => exact ⟨i + 1, by omega, by go_num, Lib.hid (by rw [HF.out]; exact h1)⟩
          case measure => simp [intOf]; omega
        · have hfin : Hid ((l.take i).flatten = l.flatten) := Lib.hid (by rw [List.take_of_length_le (by rw [HL.out.2]; omega)])
          go_wp2
          go_ret
          exact ⟨_, rfl, by rw [← hfin.out]; exact hM.out⟩
end Go.Proofs.YtkjabiabeemfhaaGreatDoor
end
