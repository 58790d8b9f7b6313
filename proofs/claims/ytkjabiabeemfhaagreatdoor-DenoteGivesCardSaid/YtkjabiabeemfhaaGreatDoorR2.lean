/- rows cut: the first ones, those from one on -/
import Derived.Shelf.Spec.SlicesGrow
import Derived.Ground.Names8Prog
import Derived.Test.YtkjabiabeemfhaaGreatDoorProg
import Derived.Test.YtkjabiabeemfhaaGreatDoorR1
import Derived.Test.YtkjabiabeemfhaaGreatDoorQ10
import Derived.Test.YtkjabiabeemfhaaGreatDoorQ4
import Derived.Test.YtkjabiabeemfhaaGreatDoorQ3
import Derived.Test.YtkjabiabeemfhaaGreatDoorQ2
import Derived.Test.YtkjabiabeemfhaaGreatDoorRows
import Derived.Test.YtkjabiabeemfhaaGreatDoorQ1
import Derived.Shelf.Small.Bits
import Derived.Shelf.Small.Wraps
import Derived.Shelf.Strconv.Itoa0
import Derived.Shelf.Bits.Mul64
import Derived.Ground.Names2Prog
import Derived.Shelf.Slices.Clone
import Derived.Shelf.Slices.SearchI
import Derived.Ground.SlgnProg
import Derived.Shelf.SlicesE.Clone
import Derived.Shelf.SlLaysF0
import Derived.Ground.SlsfProg
import Derived.WalkKit
import Derived.Lib.BitFns
import Derived.Lib.ItoaNum
import Derived.WalkSpells
import Derived.WalkSmall
import Derived.WalkLawsBesides
import Derived.BigQuiet
import Derived.Deep.RegionHeld3
import Derived.Deep.DeepCutAuto
import Derived.Deep.CutBlock
import Derived.Lib.Hide
import Derived.Deep.Quiet
import Derived.Below
import Derived.OrdersHeld
import Derived.Shelf.Spec.BitsCarry
import Derived.Laws.AppendOwnNone
import Derived.OwnWalk
import Derived.Great.BuildSlice
import Derived.RangeFuncNested
import Derived.RangeFuncBound
import Derived.RangeFuncCalls
import Derived.RangeFuncLeaves
import Derived.Shelf.Abstract
import Derived.Shelf.RegionOpen
import Derived.OwnWalkIn
import Derived.TacticsInMore
import Derived.LoopNIn
import Derived.LoopIn
import Derived.Deep.LoopGhost
import Derived.Test.YtkjabiabeemfhaaGreatDoorQ8
import Derived.Test.YtkjabiabeemfhaaGreatDoorQ7
import Derived.Test.YtkjabiabeemfhaaGreatDoorQ5
import Derived.Test.YtkjabiabeemfhaaGreatDoorQ16
import Derived.Test.YtkjabiabeemfhaaGreatDoorQ17
set_option linter.all false
set_option linter.all false
section
/-
  DERIVED: THE SHELF's CONTRACTS AT THIS DUMP, IN PLAIN WORDS (tools/lay-plain.mjs out of 'TryzGrow.lean', which tools/lay-shelf.mjs wrote): THE SAME DECLARATIONS UNDER THE SAME NAMES: 'import', 'namespace', 'open', 'def', 'theorem' AND NOTHING ELSE: no command of the shelf's: FOR A HAND-IN. Each laying: the table of numbers ('.._ren') and one theorem, a field a fact of the dump's own or the kernel's comparison; each contract: ONE APPLICATION.
-/
namespace Go.Proofs
open Go.Shelf
def Tryz.growNode_ren : Go.Shelf.Ren := ⟨fun | 4 => 116 | n => n, fun | 22 => 22 | 25 => 61 | 3 => 3 | 4 => 4 | 9 => 9 | 20 => 20 | 0 => 0 | n => n, fun | n => n⟩
theorem Tryz.growNode : Go.Proofs.Lays8.n4 Tryz.prog Tryz.growNode_ren := {
  mixed := by kernel_rfl
  f4 := ⟨Tryz.f116.name, by decide, Tryz.func116.trans (congrArg some (by kernel_rfl))⟩
  t0 := Tryz.underlying0
  a0 := Tryz.isAgg0
  z0 := Tryz.sizeOf0
  v0 := Tryz.zeroValue0
  t3 := Tryz.underlying3
  a3 := Tryz.isAgg3
  z3 := Tryz.sizeOf3
  v3 := Tryz.zeroValue3
  t4 := Tryz.underlying4
  a4 := Tryz.isAgg4
  z4 := Tryz.sizeOf4
  v4 := Tryz.zeroValue4
  t9 := Tryz.underlying9
  a9 := Tryz.isAgg9
  z9 := Tryz.sizeOf9
  v9 := Tryz.zeroValue9
  t20 := Tryz.underlying20
  a20 := Tryz.isAgg20
  z20 := Tryz.sizeOf20
  v20 := Tryz.zeroValue20
  t22 := Tryz.underlying22
  a22 := Tryz.isAgg22
  z22 := Tryz.sizeOf22
  v22 := Tryz.zeroValue22 }
end Go.Proofs
end
section
/- slices.Concat of rows of nodes -/
namespace Go.Proofs.YtkjabiabeemfhaaGreatDoor
open Go.RowKit
set_option maxRecDepth 100000

theorem grow_any (n : Nat) (w : World) (hn : n ≤ 1000000) : Calls Tryz.prog 116 #[.slice none 0 0, .int .i64 n] w fun e w' => ∃ v', e = .returned v' ∧ w'.ownsRow w.heap.size 61 5 v' 0 [] ∧ Later w w' := by
  by_cases h0 : n = 0
  · subst h0
    refine (Any8.slices_Grow_room Tryz.growNode none 0 0 0 w (Nat.le_refl _) (by decide) (by decide) (Nat.le_refl _)).mono fun e w' ⟨he, hw⟩ => ?_
    subst hw
    exact ⟨_, he, World.ownsRow_nil _ _ _ _, Later.refl _⟩
  · have hx := nodeInfo
    obtain ⟨i, hi⟩ : ∃ i, Tryz.prog.info? 61 = some i := by
      cases h : Tryz.prog.info? 61 with
      | none => rw [h] at hx; cases hx
      | some i => exact ⟨i, rfl⟩
    rw [hi] at hx
    simp only [Option.map_some, Option.some.injEq, Prod.mk.injEq] at hx
    obtain ⟨i1, i2, i3⟩ := hx
    refine (Any8.slices_Grow_grow Tryz.growNode i _ hi i1 (by rw [i2]; decide) none 0 0 n [] w (Nat.le_refl _) (by omega) (by rw [i3]; omega) (by omega) (by simp) (fun _ => rfl) (fun a h => by cases h)).mono fun e w' ⟨he, hw⟩ => ?_
    have hc := grownCap_ge w (0 + n) 0 61
    have hm := grownCap_le_maxLen w (0 + n) 0 61 (by unfold maxLen; omega)
    refine ⟨_, he, ⟨by simp, .inr ⟨w.heap.size, _, ([] : List Value).toArray ++ Builtin.zeroCells (Value.agg #[.int .i64 0, .int .i64 0, .int .i64 0, .int .i64 0, .int .i64 0]).cells (0 + n - 0) ++ Builtin.zeroCells (Value.agg #[.int .i64 0, .int .i64 0, .int .i64 0, .int .i64 0, .int .i64 0]).cells (grownCap w (0 + n) 0 61 - (0 + n)), rfl, Nat.le_refl _, ?_, Nat.zero_le _, hm, ?_, by simp⟩⟩, by rw [hw]; exact ((Later.refl w).drew).alloc _⟩
    · rw [hw]; exact Array.getElem?_push_size
    · simp only [Array.size_append, size_zeroCells, List.size_toArray, List.length_nil]
      show 0 + (0 + n - 0) * 5 + _ * 5 = _
      simp only [show (Tryz.growNode_ren.t 25) = 61 from rfl]
      omega
/-- Rows of nodes, in a row. -/
def IsParts (w : World) (v : Value) (l : List (List Nd)) : Prop :=
  ∃ us : List Value, us.length = l.length ∧ IsRow 1 (fun u _ => u) w v us ∧ ∀ i (h : i < us.length) (h' : i < l.length), IsNodes w us[i] l[i]
theorem IsParts.later {w w' : World} {v : Value} {l : List (List Nd)} (h : IsParts w v l) (hl : Later w w') : IsParts w' v l := by
  obtain ⟨us, h1, h2, h3⟩ := h
  exact ⟨us, h1, h2.later hl, fun i a b => (h3 i a b).later hl⟩
theorem partsl_take {l : List (List Nd)} {j : Nat} (h : j < l.length) : (l.take (j + 1)).flatten = (l.take j).flatten ++ l[j] := by rw [List.take_succ_eq_append_getElem h, List.flatten_append]; simp only [List.flatten_cons, List.flatten_nil, List.append_nil]
theorem partsl_le (l : List (List Nd)) (j : Nat) : (l.take j).flatten.length ≤ l.flatten.length := by
  conv => rhs; rw [← List.take_append_drop j l, List.flatten_append, List.length_append]
  omega
set_option maxHeartbeats 3200000 in
theorem concat_any (l : List (List Nd)) (v : Value) (w : World) (hN : IsParts w v l) (hlen : l.length ≤ 1000) (htot : l.flatten.length ≤ 100000) :
    Calls Tryz.prog 76 #[v] w fun e w' => ∃ v', e = .returned v' ∧ MineN w w' v' l.flatten := by
  obtain ⟨us, hul, hrow, hus⟩ := hN
  obtain ⟨p, cp, rfl⟩ := hrow.form
  have HR := Lib.hid hrow
  have HU := Lib.hid hus
  obtain ⟨M, hM⟩ : ∃ M, l.length = M := ⟨_, rfl⟩
  rw [hul, hM] at HR
  rw [hul, hM]
  have HL := Lib.hid (show us.length = M ∧ l.length = M from ⟨hul.trans hM, hM⟩)
  have HT : Hid (∀ j, (l.take j).flatten.length ≤ 100000) := Lib.hid (fun j => Nat.le_trans (partsl_le l j) htot)
  have HG := Lib.hid (fun W => grow_any l.flatten.length W (by omega))
  rw [hM] at hlen
  clear hrow hus hul hM
  obtain ⟨S, hS⟩ : ∃ S, l.flatten.length = S := ⟨_, rfl⟩
  rw [hS] at HG htot
  have HS := Lib.hid hS
  clear hS
  go_enter Tryz.func76, Tryz.ntmps76
  go_upto_region 3 with (fail)
  go_loopw [3, 11] (fun s3 s11 wr => ∃ j q : Nat, j ≤ M ∧ s11 = .int .i64 j ∧ s3 = .int .i64 q ∧ Hid (q = (l.take j).flatten.length) ∧ wr = w) (fun _ s11 _ => M - (intOf s11).toNat)
  case atStart => exact ⟨0, 0, Nat.zero_le _, rfl, rfl, Lib.hid (by simp), rfl⟩
  case round =>
    obtain ⟨j, q, hj, rfl, rfl, hq, rfl⟩ := hrel
    have hq5 : q ≤ 100000 := by rw [hq.out]; exact HT.out j
    by_cases hlt : j < M
    · have hjl : j < l.length := by rw [HL.out.2]; exact hlt
      have hju : j < us.length := by rw [HL.out.1]; exact hlt
      obtain ⟨b, o, c1, hv, hb, g⟩ := HR.out.full (i := j) hju
      rw [HL.out.1] at hv
      cases hv
      have g0 := g 0 (by decide)
      obtain ⟨p1, k1, hu1⟩ := (HU.out j hju hjl).form
      rw [hu1] at g0
      simp only [Nat.mul_one, Nat.add_zero] at g0
      obtain ⟨n1, hn1⟩ : ∃ n, (l[j]).length = n := ⟨_, rfl⟩
      rw [hn1] at g0
      have HQ : Hid (q + n1 = (l.take (j + 1)).flatten.length) := Lib.hid (by rw [partsl_take hjl, List.length_append, hn1, hq.out])
      have hq6 : q + n1 ≤ 100000 := by rw [HQ.out]; exact HT.out (j + 1)
      clear g hu1 hn1 hq
      go_wp2
      go_roundw
      case rel => exact ⟨j + 1, q + n1, by omega, by go_num, by go_num, HQ, trivial⟩
      case measure => simp [intOf]; omega
    · have hq7 : q = S := by rw [hq.out, List.take_of_length_le (by rw [HL.out.2]; omega), HS.out]
      subst hq7
      clear hq
      go_upto_region 11 with (go_at_call 116; go_must (refine (HG.out _).mono ?_; rintro e w1 ⟨v1, rfl, hrow1, hl1⟩; obtain ⟨p2, k2, hv2⟩ := B.owns_form hrow1; subst hv2))
      have HM0 : Hid (MineN wr w1 (.slice p2 0 k2) []) := Lib.hid ⟨hrow1, hl1⟩
      clear hrow1 hl1 HG
      go_loopw [6, 27] (fun s6 s27 w5 => ∃ j : Nat, j ≤ M ∧ s27 = .int .i64 j ∧ Hid (MineN wr w5 s6 (l.take j).flatten)) (fun _ s27 _ => M - (intOf s27).toNat)
      case atStart => exact ⟨0, Nat.zero_le _, rfl, HM0⟩
      case round =>
        obtain ⟨i, hi, rfl, hM⟩ := hrel
        clear HM0
        have hlat := hM.out.lat
        obtain ⟨p3, k3, hv3⟩ := hM.out.form
        obtain ⟨n3, hn3⟩ : ∃ n, (l.take i).flatten.length = n := ⟨_, rfl⟩
        rw [hn3] at hv3
        subst hv3
        have hn4 : n3 ≤ 100000 := by rw [← hn3]; exact HT.out i
        have HN3 := Lib.hid hn3
        clear hn3
        by_cases hlt2 : i < M
        · have hjl : i < l.length := by rw [HL.out.2]; exact hlt2
          have hju : i < us.length := by rw [HL.out.1]; exact hlt2
          obtain ⟨b, o, c1, hv, hb, g⟩ := HR.out.full (i := i) hju
          rw [HL.out.1] at hv
          cases hv
          have g0 := ((bcell hlat).1 _ _ hb).trans (g 0 (by decide))
          have hui := HU.out i hju hjl
          obtain ⟨p1, k1, hu1⟩ := hui.form
          rw [hu1] at g0 hui
          simp only [Nat.mul_one, Nat.add_zero] at g0
          have HUI := Lib.hid (hui.later hlat)
          have HF := Lib.hid (partsl_take hjl)
          have hn5 : (l[i]).length ≤ 100000 := by have := HT.out (i + 1); rw [HF.out, List.length_append] at this; omega
          obtain ⟨n1, hn1⟩ : ∃ n, (l[i]).length = n := ⟨_, rfl⟩
          have HN1 := Lib.hid hn1
          rw [hn1] at g0 HUI hn5
          obtain ⟨n9, hn9⟩ : ∃ n, ((l.take i).flatten ++ l[i]).length = n := ⟨_, rfl⟩
          have HN9 := Lib.hid hn9
          clear g hu1 hn1 hui hn9
          go_wp2_with (at_builtin; go_must (refine wpList_nodes hM.out HUI.out rfl _ _ rfl rfl rfl (by rw [HN3.out, HN1.out]; omega) ?_; intro v9 w9 h1 h2; obtain ⟨p9, c9, hv9⟩ := h1.form; rw [HN9.out] at hv9; subst hv9))
          go_roundw
          case rel => exact ⟨i + 1, by omega, by go_num, Lib.hid (by rw [HF.out]; exact h1)⟩
          case measure => simp [intOf]; omega
        · have hfin : Hid ((l.take i).flatten = l.flatten) := Lib.hid (by rw [List.take_of_length_le (by rw [HL.out.2]; omega)])
          go_wp2
          go_ret
          exact ⟨_, rfl, by rw [← hfin.out]; exact hM.out⟩
end Go.Proofs.YtkjabiabeemfhaaGreatDoor
end
section
/- term.Join: its walk -/
namespace Go.Proofs.YtkjabiabeemfhaaGreatDoor
open Go.RowKit
set_option maxRecDepth 100000

theorem mineN_lit {w0 w : World} (hl : Later w0 w) (x : Nd) : MineN w0 (w.alloc (.cells #[.int .i64 x.op, .int .i64 x.a, .int .i64 x.b, .int .i64 x.n, .int .i64 x.d] 61)) (.slice (some ⟨w.heap.size, 0, none⟩) 1 1) [x] :=
  ⟨⟨rfl, .inr ⟨w.heap.size, 1, _, rfl, hl.size, Array.getElem?_push_size, Nat.le_refl _, by decide, rfl, rfl⟩⟩, hl.alloc _⟩
theorem wpList_nodesG {w0 w : World} {v V : Value} {L ts : List Nd} {ops : Array Oper} {rest : List Oper} {o : Oper} {a : Act} {Q : Exit → Act → World → Prop} (hM : MineN w0 w v L) (hN : IsNodes w V ts) (hgd : o.guard = none) (s x : Operand)
    (ho : o.op = .call { callee := .builtin .append, args := #[s, x], argTypes := #[22, 22] }) (hs : a.eval s = v) (hx : a.eval x = V) (h64 : L.length + ts.length ≤ 1000000)
    (h : ∀ v' w', MineN w0 w' v' (L ++ ts) → S.LatB (fun k => w0.heap.size ≤ k) w w' → wpList Tryz.prog ops Q rest (a.put o.dst v') w') : wpList Tryz.prog ops Q (o :: rest) a w := by
  refine B.wpList_rows (f := fun (y : Nd) j => .int .i64 (y.cell j)) (base := w0.heap.size) ndCs (fun _ => rfl) ndCs_cell ndCs_cells sliceNode hM.1 (Later.size hM.lat) hN hgd s x ho hs hx h64 (by decide) (fun v' w' h1 h2 _ => ?_)
  have hl := Later.grown hM.lat h2 (fun k hk => (hM.1.lt k hk).1)
  exact h v' w' ⟨h1, hl⟩ (S.LatB.grown (S.LatB.refl _) h2 (fun k hk => (hM.1.lt k hk).1))
theorem optI_eq {o : Option Nat} {m : Nat} : optI o = (m : Int) ↔ o = some m := by
  cases o with
  | none => simp [optI]
  | some k => simp only [optI, Option.some.injEq]; omega
theorem parts_cons (out : List Nd) (k : Nat) (p : List Nd) (r : List (List Nd)) : partsE out k (p :: r) = ((!p.isEmpty && decide (endN out k = some (k + p.length))) && partsE out (k + p.length) r) := rfl
set_option maxHeartbeats 6400000 in
theorem tjoin_any (x : Nd) (l : List (List Nd)) (v : Value) (w : World) (hx : x.ok) (hok : ∀ y ∈ l.flatten, y.ok) (hS : Shapes w) (hN : IsParts w v l) (hlen : l.length ≤ 1000) (htot : l.flatten.length ≤ 90000) :
    Calls Tryz.prog 32 #[x.val, v] w fun e w' => ∃ v', e = .returned (.tuple #[v', .int .i64 (joinE x l)]) ∧ (joinE x l = 0 → IsNodes w' v' (x :: l.flatten)) ∧ (joinE x l ≠ 0 → v' = .slice none 0 0) ∧ Later w w' := by
  have hok' : ∀ y ∈ x :: l.flatten, y.ok := fun y hy => (List.mem_cons.1 hy).elim (fun e => e ▸ hx) (hok y)
  have HCC := Lib.hid (fun W (hl : Later w W) => concat_any l v W (hN.later hl) hlen (by omega))
  have HOF := Lib.hid (fun u W (hl : Later w W) hu => tterm_any (x :: l.flatten) (by rw [List.length_cons]; omega) hok' u W (hS.later hl) hu)
  have HEN := Lib.hid (fun u k W (hl : Later w W) (hk : k ≤ 100001) hu => end_any (x :: l.flatten) (by rw [List.length_cons]; omega) _ k u W (Nat.le_refl _) hk (hS.later hl) hu)
  obtain ⟨us, hul, hrow, hus⟩ := hN
  obtain ⟨pv, cv, rfl⟩ := hrow.form
  have HR := Lib.hid hrow
  have HU := Lib.hid hus
  obtain ⟨M, hM⟩ : ∃ M, l.length = M := ⟨_, rfl⟩
  rw [hul, hM] at HR HCC
  rw [hul, hM]
  have HL := Lib.hid (show us.length = M ∧ l.length = M from ⟨hul.trans hM, hM⟩)
  rw [hM] at hlen
  have HT : Hid (∀ j, (l.take j).flatten.length ≤ 90000) := Lib.hid (fun j => Nat.le_trans (partsl_le l j) htot)
  obtain ⟨out, hout⟩ : ∃ o, x :: l.flatten = o := ⟨_, rfl⟩
  obtain ⟨N, hNN⟩ : ∃ n, out.length = n := ⟨_, rfl⟩
  obtain ⟨NF, hNF⟩ : ∃ n, l.flatten.length = n := ⟨_, rfl⟩
  have HNF := Lib.hid hNF
  clear hNF
  obtain ⟨E, hE⟩ : ∃ E, ofE out = E := ⟨_, rfl⟩
  obtain ⟨so, hS2⟩ : ∃ s, ofS out = s := ⟨_, rfl⟩
  obtain ⟨J, hJ⟩ : ∃ J, joinE x l = J := ⟨_, rfl⟩
  rw [hout] at HOF HEN ⊢
  rw [hE, hS2] at HOF
  rw [hJ]
  have hj := hJ
  unfold joinE at hj
  rw [hout, hE] at hj
  have HJ := Lib.hid hj
  have HOUT := Lib.hid hout
  have HNN := Lib.hid hNN
  have hn2 : N ≤ 90001 := by rw [← hNN, ← hout, List.length_cons]; omega
  clear hok hok' hS hrow hus hul hM hE hS2 hJ hj
  obtain ⟨op, xa, xb, xn, xd⟩ := x
  unfold Nd.val
  simp only
  go_enter Tryz.func32, Tryz.ntmps32
  go_upto_region 1 with (fail)
  refine wp_opaque (fun w0 hb0 => ?_)
  have hO0 := Own.one hb0
  have hl0 := hb0.un1
  obtain ⟨z0, d0, -⟩ := own_get hO0
  have x0 := d0 0
  have x1 := d0 1
  have x2 := d0 2
  have x3 := d0 3
  have x4 := d0 4
  simp only [List.getElem?_toArray, List.getElem?_cons_zero, List.getElem?_cons_succ] at x0 x1 x2 x3 x4
  obtain ⟨D, hD⟩ : ∃ D, w.heap.size = D := ⟨_, rfl⟩
  rw [hD] at x0 x1 x2 x3 x4 z0 ⊢
  clear hb0 hO0 d0 hNN
  go_cut [6] (fun s6 wx => ∃ p6 c6, s6 = .slice p6 N c6 ∧ Hid (MineN w0 wx (.slice p6 N c6) out))
  case first =>
    clear HOF HEN HR HU HT HJ
    refine V.wp_region_plan 4 (.two [0, 2] 1 (.one [] 3 (.one [] 4 (.done [5]))) 3 (.one [] 1 (.one [] 4 (.done [5])))) (by kernel_rfl) (by kernel_rfl) (fun _ _ d _ _ h => by cases d <;> exact h) ?_
    repeat' (first
      | (refine plan_done (fun K hK => ?_); (first | (simp only [pick_cons, pick_nil, toList_some_append, List.getElem?_toArray, List.getElem?_cons_zero, List.getElem?_cons_succ]; repeat (go_big_quiet_step (fail))) | simp only [pick_nil]); refine wpQuiet_nil (hK _ ?_); clear hK K)
      | (refine plan_one (by rfl) (fun K hK => ?_); (first | (simp only [pick_cons, pick_nil, toList_some_append, List.getElem?_toArray, List.getElem?_cons_zero, List.getElem?_cons_succ]; repeat (go_big_quiet_step (fail))) | simp only [pick_nil]); refine wpQuiet_nil (hK _ ?_); clear hK K)
      | (refine plan_two (by rfl) (by rfl) (fun K hK => ?_); (first | (simp only [pick_cons, pick_nil, toList_some_append, List.getElem?_toArray, List.getElem?_cons_zero, List.getElem?_cons_succ]; repeat (go_big_quiet_step (fail))) | simp only [pick_nil]); refine wpQuiet_nil (hK _ ?_); clear hK K; refine ⟨?_, ?_⟩)
      | ((with_reducible refine at_list ?_); (try simp only [List.getElem_toArray, List.getElem_cons_succ, List.getElem_cons_zero]); go_wp2_with ((first | refine wpList_builtS (nodes_one _ _ _ _ _) rfl rfl rfl ?_ | (go_at_call 76; go_must (refine (HCC.out _ (hl0.trans (by repeat (first | with_reducible exact Later.refl _ | with_reducible assumption | with_reducible refine Later.ofdrew ?_ | with_reducible refine Later.ofdrewN ?_ | with_reducible refine Later.setCell ?_ ?_ _ | with_reducible refine Later.alloc ?_ _ | with_reducible refine Later.drewN ?_ _ | with_reducible refine Later.drew ?_ | (with_reducible refine Later.trans ?_ (by assumption)) | (simp only [World.size_setCell, World.size_alloc, World.heap_drewN]; omega) | (simp; done) | (simp; omega))))).mono ?_; rintro e w1 ⟨v1, rfl, hM1⟩; obtain ⟨p1, c1, hv1⟩ := hM1.form; rw [HNF.out] at hv1; subst hv1; have hb1 := hM1.lat; have HM1 := Lib.hid hM1; clear hM1)) | (at_builtin; go_must (refine wpList_nodesG (w0 := w0) (L := [⟨op, xa, xb, xn, xd⟩]) (by first | exact (mineN_lit (w := w0.drew) ((Later.refl w0).drew) _).later hb1 | exact mineN_lit (by repeat (first | with_reducible exact Later.refl _ | with_reducible assumption | with_reducible refine Later.ofdrew ?_ | with_reducible refine Later.ofdrewN ?_ | with_reducible refine Later.setCell ?_ ?_ _ | with_reducible refine Later.alloc ?_ _ | with_reducible refine Later.drewN ?_ _ | with_reducible refine Later.drew ?_ | (with_reducible refine Later.trans ?_ (by assumption)) | (simp only [World.size_setCell, World.size_alloc, World.heap_drewN]; omega) | (simp; done) | (simp; omega))) _) (HM1.out.nodes.later (by repeat (first | with_reducible exact Later.refl _ | with_reducible assumption | with_reducible refine Later.ofdrew ?_ | with_reducible refine Later.ofdrewN ?_ | with_reducible refine Later.setCell ?_ ?_ _ | with_reducible refine Later.alloc ?_ _ | with_reducible refine Later.drewN ?_ _ | with_reducible refine Later.drew ?_ | (with_reducible refine Later.trans ?_ (by assumption)) | (simp only [World.size_setCell, World.size_alloc, World.heap_drewN]; omega) | (simp; done) | (simp; omega)))) rfl _ _ rfl rfl rfl (by simp only [List.length_cons, List.length_nil]; omega) ?_; intro v9 w9 h9 hl9)))); first | refine behind_store (t := 4) (by decide) ?_ | refine behind (by repeat (first | with_reducible exact Later.refl _ | with_reducible assumption | with_reducible refine Later.ofdrew ?_ | with_reducible refine Later.ofdrewN ?_ | with_reducible refine Later.alloc ?_ _ | with_reducible refine Later.drewN ?_ _ | with_reducible refine Later.drew ?_ | (with_reducible refine Later.trans ?_ (by assumption)))) ?_))
    all_goals
      go_wp2_with fail
      go_meet
      have h9x : MineN w0 w9 v9 out := by rw [← HOUT.out]; exact h9
      obtain ⟨p9, c9, hv9⟩ := h9x.form
      rw [HNN.out] at hv9
      exact ⟨p9, c9, hv9, Lib.hid (by rw [← hv9]; exact h9x)⟩
  case rest =>
    obtain ⟨p6, c6, rfl, HM6⟩ := hcut
    have hl6 := hl0.trans HM6.out.lat
    clear HCC x0 x1 x2 x3 x4 z0
    have HON := Lib.hid HM6.out.nodes
    have HEN6 := Lib.hid (fun k W (hl : Later wc W) hk => HEN.out _ k W (hl6.trans hl) hk (HON.out.later hl))
    have HOF6 := Lib.hid (HOF.out _ wc hl6 HON.out)
    have HR6 := Lib.hid (HR.out.later hl6)
    have HU6 := Lib.hid (fun i h h' => (HU.out i h h').later hl6)
    clear HEN HOF HR HU HM6
    by_cases h0 : E = 0
    · subst h0
      have hj := HJ.out
      rw [if_neg (by simp)] at hj
      have HJ2 := Lib.hid hj
      clear hj HJ
      go_upto_region 7 with (go_at_call 77; go_must (refine HOF6.out.mono ?_; rintro e w1 ⟨rfl, hl1⟩))
      clear HOF6
      go_loopw [9, 27] (fun s9 s27 wr => ∃ j k : Nat, j ≤ M ∧ s27 = .int .i64 j ∧ s9 = .int .i64 k ∧ Hid (k = 1 + (l.take j).flatten.length ∧ partsE out 1 l = partsE out k (l.drop j)) ∧ Later wc wr) (fun _ s27 _ => M - (intOf s27).toNat)
      case atStart => exact ⟨0, 1, Nat.zero_le _, rfl, rfl, Lib.hid ⟨by simp, by simp⟩, hl1⟩
      case round =>
        obtain ⟨j, k, hj, rfl, rfl, hk, hlat⟩ := hrel
        have hk5 : k ≤ 90001 := by have := HT.out j; have := hk.out.1; omega
        by_cases hlt : j < M
        · have hjl : j < l.length := by rw [HL.out.2]; exact hlt
          have hju : j < us.length := by rw [HL.out.1]; exact hlt
          obtain ⟨b, o, c1, hv, hb, g⟩ := HR6.out.full (i := j) hju
          rw [HL.out.1] at hv
          cases hv
          have g0 := ((bcell hlat).1 _ _ hb).trans (g 0 (by decide))
          obtain ⟨p1, k1, hu1⟩ := (HU6.out j hju hjl).form
          rw [hu1] at g0
          simp only [Nat.mul_one, Nat.add_zero] at g0
          have hdr : l.drop j = l[j] :: l.drop (j + 1) := List.drop_eq_getElem_cons hjl
          have hpe := hk.out.2
          rw [hdr, parts_cons] at hpe
          have hft := partsl_take hjl
          have HTJ := HT.out (j + 1)
          rw [hft, List.length_append] at HTJ
          have HK : Hid (k + (l[j]).length = 1 + (l.take (j + 1)).flatten.length) := Lib.hid (by rw [hft, List.length_append]; have := hk.out.1; omega)
          have hem : (l[j]).isEmpty = decide ((l[j]).length = 0) := by cases l[j] <;> rfl
          rw [hem] at hpe
          obtain ⟨n1, hn1⟩ : ∃ n, (l[j]).length = n := ⟨_, rfl⟩
          rw [hn1] at g0 hpe HTJ HK
          have hkn : k + n1 ≤ 90001 := by have := hk.out.1; omega
          have HE6 := Lib.hid (HEN6.out k _ hlat (by omega))
          have HPE := Lib.hid hpe
          clear g hu1 hn1 hdr hft HTJ hem hpe hk
          by_cases hz : n1 = 0
          · subst hz
            have hJJ : Hid (J = 14) := Lib.hid (by rw [← HJ2.out, HPE.out]; simp)
            clear HJ2 HPE HE6
            go_wp2
            go_ret2
            exact ⟨_, by rw [hJJ.out]; rfl, fun h => absurd (h.symm.trans hJJ.out) (by decide), fun _ => rfl, hl6.trans hlat⟩
          · have hz1 : ((n1 : Int) == 0) = false := by rw [beq_eq_false_iff_ne]; omega
            obtain ⟨G, hG⟩ : ∃ G, optI (endN out k) = G := ⟨_, rfl⟩
            rw [hG] at HE6
            have hGI : G = ((k + n1 : Nat) : Int) ↔ endN out k = some (k + n1) := by rw [← hG]; exact optI_eq
            by_cases he : endN out k = some (k + n1)
            · have hG2 := hGI.2 he
              subst hG2
              have HP2 : Hid (partsE out 1 l = partsE out (k + n1) (l.drop (j + 1))) := Lib.hid (by rw [HPE.out]; simp [he, hz])
              clear HPE hGI hG he
              go_wp2_with (go_at_call 78; go_must (refine HE6.out.mono ?_; rintro e w2 ⟨rfl, hb2⟩))
              go_roundw
              case rel => exact ⟨j + 1, k + n1, by omega, by go_num, by go_num, Lib.hid ⟨HK.out, HP2.out⟩, hlat.trans hb2⟩
              case measure => simp [intOf]; omega
            · have hJJ : Hid (J = 14) := Lib.hid (by rw [← HJ2.out, HPE.out]; simp [he])
              have hne : (G == (k : Int) + n1) = false := by
                rw [beq_eq_false_iff_ne]
                intro e
                exact he (hGI.1 (by rw [e]; omega))
              clear HJ2 HPE hGI hG he
              go_wp2_with (go_at_call 78; go_must (refine HE6.out.mono ?_; rintro e w2 ⟨rfl, hb2⟩))
              go_ret2
              exact ⟨_, by rw [hJJ.out]; rfl, fun h => absurd (h.symm.trans hJJ.out) (by decide), fun _ => rfl, hl6.trans (hlat.trans hb2)⟩
        · have hp : partsE out 1 l = true := by rw [hk.out.2, List.drop_of_length_le (by rw [HL.out.2]; omega)]; rfl
          have hJJ : Hid (J = 0) := Lib.hid (by rw [← HJ2.out, hp]; rfl)
          clear HJ2 hp hk
          go_wp2
          go_ret2
          exact ⟨_, by rw [hJJ.out]; rfl, fun _ => HON.out.later hlat, fun h => absurd hJJ.out h, hl6.trans hlat⟩
    · have hj := HJ.out
      rw [if_pos h0] at hj
      have HJ2 := Lib.hid hj
      have he1 : (E == 0) = false := by simpa using h0
      have he2 : (E != 0) = true := by simpa using h0
      have HE0 := Lib.hid h0
      clear hj HJ h0
      go_wp2_with (go_at_call 77; go_must (refine HOF6.out.mono ?_; rintro e w1 ⟨rfl, hl1⟩))
      go_ret2
      exact ⟨_, by rw [HJ2.out]; rfl, fun h => absurd (HJ2.out.trans h) HE0.out, fun _ => rfl, hl6.trans hl1⟩
end Go.Proofs.YtkjabiabeemfhaaGreatDoor
end
section
/- rows cut: the first ones, those from one on -/
namespace Go.Proofs.YtkjabiabeemfhaaGreatDoor
open Go.RowKit
set_option maxRecDepth 100000

section
variable {α : Type} {sz : Nat} {f : α → Nat → Value} {w : World} {P : Program} {t : TypeId} {xs : List α}
theorem row_upto (ht : P.underlying t = some (.slice (P.elem t))) (hz : ∀ W, (sizeOf (P.elem t)).run P W = .ok sz W) {p : Option Addr} {n c : Nat} (h : IsRow sz f w (.slice p n c) xs) {k : Nat} (hk : k ≤ xs.length) :
    ∃ q c', (∀ W, (Instr.slice t (.slice p n c) none (some (.int .i64 (k : Int))) none).run P W = .ok (.slice q k c') W) ∧ IsRow sz f w (.slice q k c') (xs.take k) := by
  rcases h with ⟨⟨p, h1⟩, h6⟩ | ⟨b, o, c', h1, h2, h3, h4, h5⟩
  · cases h1
    subst h6
    obtain rfl : k = 0 := by simpa using hk
    refine ⟨_, 0, fun W => ?_, .inl ⟨⟨p, rfl⟩, by simp⟩⟩
    rw [run_slice_h _ _ _ _ _ ht _ _ (by omega) (by omega), hz]
    simp [Result.andThen, sliced]
  · cases h1
    refine ⟨some ⟨b, o, none⟩, c, fun W => ?_, .inr ⟨b, o, c, by rw [List.length_take, Nat.min_eq_left hk], h2, by rw [List.length_take]; omega, h4, fun i hi j hj => ?_⟩⟩
    · rw [run_slice_h _ _ _ _ _ ht _ _ (by omega) (by omega), hz]
      simp only [Result.andThen, sliced, Int.toNat_natCast, Nat.zero_mul, Nat.sub_zero]
      split
      · rfl
      · simp only [Option.map]; rw [add_plain]; rfl
    · rw [List.length_take] at hi
      rw [List.getElem_take]
      exact h5 i (by omega) j hj
theorem row_from (ht : P.underlying t = some (.slice (P.elem t))) (hz : ∀ W, (sizeOf (P.elem t)).run P W = .ok sz W) {p : Option Addr} {n c : Nat} (h : IsRow sz f w (.slice p n c) xs) {k : Nat} (hk : k ≤ xs.length) :
    ∃ q c', (∀ W, (Instr.slice t (.slice p n c) (some (.int .i64 (k : Int))) none none).run P W = .ok (.slice q (xs.length - k) c') W) ∧ IsRow sz f w (.slice q (xs.length - k) c') (xs.drop k) := by
  rcases h with ⟨⟨p, h1⟩, h6⟩ | ⟨b, o, c', h1, h2, h3, h4, h5⟩
  · cases h1
    subst h6
    obtain rfl : k = 0 := by simpa using hk
    refine ⟨_, 0, fun W => ?_, .inl ⟨⟨p, rfl⟩, by simp⟩⟩
    rw [run_slice_l _ _ _ _ _ ht _ _ (by omega) (by omega), hz]
    simp [Result.andThen, sliced]
  · cases h1
    by_cases hkc : k = c
    · subst hkc
      have hx : xs.length = k := by omega
      refine ⟨some ⟨b, o, none⟩, 0, fun W => ?_, .inr ⟨b, o, 0, by rw [List.length_drop], h2, by rw [List.length_drop]; omega, by omega, fun i hi j hj => ?_⟩⟩
      · rw [run_slice_l _ _ _ _ _ ht _ _ (by omega) (by omega), hz]
        simp [Result.andThen, sliced]
      · rw [List.length_drop] at hi; omega
    · refine ⟨some ⟨b, o + k * sz, none⟩, c - k, fun W => ?_, .inr ⟨b, o + k * sz, c - k, by rw [List.length_drop], h2, by rw [List.length_drop]; omega, by omega, fun i hi j hj => ?_⟩⟩
      · rw [run_slice_l _ _ _ _ _ ht _ _ (by omega) (by omega), hz]
        simp only [Result.andThen, sliced, Int.toNat_natCast]
        rw [if_neg (by omega)]
        simp only [Option.map]; rw [add_plain]
      · rw [List.length_drop] at hi
        have := h5 (k + i) (by omega) j hj
        rw [show o + k * sz + i * sz + j = o + (k + i) * sz + j by rw [Nat.add_mul]; omega, this, List.getElem_drop]
end
end Go.Proofs.YtkjabiabeemfhaaGreatDoor
end
