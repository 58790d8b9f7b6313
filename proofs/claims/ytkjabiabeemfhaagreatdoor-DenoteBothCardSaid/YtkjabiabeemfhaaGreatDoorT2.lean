/- DenoteGives: its walk -/
import Derived.Test.YtkjabiabeemfhaaGreatDoorT1
import Derived.Test.YtkjabiabeemfhaaGreatDoorQ16
import Derived.Test.YtkjabiabeemfhaaGreatDoorQ2
import Derived.Deep.Quiet
import Derived.BigQuiet
import Derived.Below
import Derived.OrdersHeld
import Derived.WalkKit
import Derived.Test.YtkjabiabeemfhaaGreatDoorQ17
import Derived.Test.YtkjabiabeemfhaaGreatDoorQ31
import Derived.Test.YtkjabiabeemfhaaGreatDoorQ35
import Derived.Test.YtkjabiabeemfhaaGreatDoorQ34
import Derived.Test.YtkjabiabeemfhaaGreatDoorQ33
import Derived.Test.YtkjabiabeemfhaaGreatDoorQ32
import Derived.Test.YtkjabiabeemfhaaGreatDoorQ22
import Derived.Test.YtkjabiabeemfhaaGreatDoorQ20
import Derived.Test.YtkjabiabeemfhaaGreatDoorQ18
import Derived.Test.YtkjabiabeemfhaaGreatDoorQ15
import Derived.Test.YtkjabiabeemfhaaGreatDoorQ14
import Derived.Test.YtkjabiabeemfhaaGreatDoorQ13
import Derived.Test.YtkjabiabeemfhaaGreatDoorQ12
import Derived.Test.YtkjabiabeemfhaaGreatDoorQ3
import Derived.Test.YtkjabiabeemfhaaGreatDoorRows
import Derived.Test.YtkjabiabeemfhaaGreatDoorQ1
import Derived.Shelf.Small.Bits
import Derived.Shelf.Small.Wraps
import Derived.Shelf.Strconv.Itoa0
import Derived.Shelf.Bits.Mul64
import Derived.Ground.Names2Prog
import Derived.Shelf.Slices.Clone
import Derived.Shelf.Slices.SearchI
import Derived.Ground.SlgnProg
import Derived.Shelf.SlicesE.Clone
import Derived.Shelf.SlLaysF0
import Derived.Ground.SlsfProg
import Derived.Test.YtkjabiabeemfhaaGreatDoorProg
import Derived.Lib.BitFns
import Derived.Lib.ItoaNum
import Derived.WalkSpells
import Derived.WalkSmall
import Derived.WalkLawsBesides
import Derived.Deep.RegionHeld3
import Derived.Deep.DeepCutAuto
import Derived.Deep.CutBlock
import Derived.Lib.Hide
import Derived.Shelf.Spec.BitsCarry
import Derived.Laws.AppendOwnNone
import Derived.OwnWalk
import Derived.Great.BuildSlice
import Derived.DeepKeys4
import Derived.Maps.Own
import Derived.Test.YtkjabiabeemfhaaGreatDoorQ11
import Derived.Test.YtkjabiabeemfhaaGreatDoorQ10
import Derived.Test.YtkjabiabeemfhaaGreatDoorQ4
import Derived.RangeFuncNested
import Derived.RangeFuncBound
import Derived.RangeFuncCalls
import Derived.RangeFuncLeaves
import Derived.Shelf.Abstract
import Derived.Shelf.RegionOpen
import Derived.OwnWalkIn
import Derived.TacticsInMore
import Derived.LoopNIn
import Derived.LoopIn
import Derived.Deep.LoopGhost
import Derived.Test.YtkjabiabeemfhaaGreatDoorQ8
import Derived.Test.YtkjabiabeemfhaaGreatDoorQ7
import Derived.Test.YtkjabiabeemfhaaGreatDoorQ5
import Derived.WalkMore
import Derived.Lib.Strings
import Derived.Shelf.SlSortCmp.Insertion
import Derived.Laws.IdiomCopy
import Derived.Deep.Upon
import Derived.Shelf.GgSortFunc.InsertionK
import Derived.Test.YtkjabiabeemfhaaGreatDoorQ19
import Derived.RangeFuncBox
import Derived.Test.YtkjabiabeemfhaaGreatDoorQ21
import Derived.Test.YtkjabiabeemfhaaGreatDoorQ23
import Derived.Test.YtkjabiabeemfhaaGreatDoorQ25
import Derived.Test.YtkjabiabeemfhaaGreatDoorQ24
import Derived.Test.YtkjabiabeemfhaaGreatDoorQ26
import Derived.Test.YtkjabiabeemfhaaGreatDoorQ29
import Derived.Test.YtkjabiabeemfhaaGreatDoorQ28
import Derived.Test.YtkjabiabeemfhaaGreatDoorQ27
import Derived.Shelf.SlSortCmp.NoneTotal
import Derived.Shelf.SlSortCmp.WholeK
import Derived.Laws.IdiomRangeMap
import Derived.Test.YtkjabiabeemfhaaGreatDoorQ30
import Derived.Lib.SliceRun
set_option linter.all false
set_option linter.all false
section
/- term.Join: its walk -/
namespace Go.Proofs.YtkjabiabeemfhaaGreatDoor
open Go.RowKit
set_option maxRecDepth 100000

theorem mineN_lit {w0 w : World} (hl : Later w0 w) (x : Nd) : MineN w0 (w.alloc (.cells #[.int .i64 x.op, .int .i64 x.a, .int .i64 x.b, .int .i64 x.n, .int .i64 x.d] 61)) (.slice (some ⟨w.heap.size, 0, none⟩) 1 1) [x] :=
  ⟨⟨rfl, .inr ⟨w.heap.size, 1, _, rfl, hl.size, Array.getElem?_push_size, Nat.le_refl _, by decide, rfl, rfl⟩⟩, hl.alloc _⟩
theorem wpList_nodesG {w0 w : World} {v V : Value} {L ts : List Nd} {ops : Array Oper} {rest : List Oper} {o : Oper} {a : Act} {Q : Exit → Act → World → Prop} (hM : MineN w0 w v L) (hN : IsNodes w V ts) (hgd : o.guard = none) (s x : Operand)
    (ho : o.op = .call { callee := .builtin .append, args := #[s, x], argTypes := #[22, 22] }) (hs : a.eval s = v) (hx : a.eval x = V) (h64 : L.length + ts.length ≤ 1000000)
    (h : ∀ v' w', MineN w0 w' v' (L ++ ts) → S.LatB (fun k => w0.heap.size ≤ k) w w' → wpList Tryz.prog ops Q rest (a.put o.dst v') w') : wpList Tryz.prog ops Q (o :: rest) a w := by
  refine B.wpList_rows (f := fun (y : Nd) j => .int .i64 (y.cell j)) (base := w0.heap.size) ndCs (fun _ => rfl) ndCs_cell ndCs_cells sliceNode hM.1 (Later.size hM.lat) hN hgd s x ho hs hx h64 (by decide) (fun v' w' h1 h2 _ => ?_)
  have hl := Later.grown hM.lat h2 (fun k hk => (hM.1.lt k hk).1)
  exact h v' w' ⟨h1, hl⟩ (S.LatB.grown (S.LatB.refl _) h2 (fun k hk => (hM.1.lt k hk).1))
theorem optI_eq {o : Option Nat} {m : Nat} : optI o = (m : Int) ↔ o = some m := by
  cases o with
  | none => simp [optI]
  | some k => simp only [optI, Option.some.injEq]; omega
theorem parts_cons (out : List Nd) (k : Nat) (p : List Nd) (r : List (List Nd)) : partsE out k (p :: r) = ((!p.isEmpty && decide (endN out k = some (k + p.length))) && partsE out (k + p.length) r) := rfl
set_option maxHeartbeats 6400000 in
theorem tjoin_any (x : Nd) (l : List (List Nd)) (v : Value) (w : World) (hx : x.ok) (hok : ∀ y ∈ l.flatten, y.ok) (hS : Shapes w) (hN : IsParts w v l) (hlen : l.length ≤ 1000) (htot : l.flatten.length ≤ 90000) :
    Calls Tryz.prog 32 #[x.val, v] w fun e w' => ∃ v', e = .returned (.tuple #[v', .int .i64 (joinE x l)]) ∧ (joinE x l = 0 → IsNodes w' v' (x :: l.flatten)) ∧ (joinE x l ≠ 0 → v' = .slice none 0 0) ∧ Later w w' := by
  have hok' : ∀ y ∈ x :: l.flatten, y.ok := fun y hy => (List.mem_cons.1 hy).elim (fun e => e ▸ hx) (hok y)
  have HCC := Lib.hid (fun W (hl : Later w W) => concat_any l v W (hN.later hl) hlen (by omega))
  have HOF := Lib.hid (fun u W (hl : Later w W) hu => tterm_any (x :: l.flatten) (by rw [List.length_cons]; omega) hok' u W (hS.later hl) hu)
  have HEN := Lib.hid (fun u k W (hl : Later w W) (hk : k ≤ 100001) hu => end_any (x :: l.flatten) (by rw [List.length_cons]; omega) _ k u W (Nat.le_refl _) hk (hS.later hl) hu)
  obtain ⟨us, hul, hrow, hus⟩ := hN
  obtain ⟨pv, cv, rfl⟩ := hrow.form
  have HR := Lib.hid hrow
  have HU := Lib.hid hus
  obtain ⟨M, hM⟩ : ∃ M, l.length = M := ⟨_, rfl⟩
  rw [hul, hM] at HR HCC
  rw [hul, hM]
  have HL := Lib.hid (show us.length = M ∧ l.length = M from ⟨hul.trans hM, hM⟩)
  rw [hM] at hlen
  have HT : Hid (∀ j, (l.take j).flatten.length ≤ 90000) := Lib.hid (fun j => Nat.le_trans (partsl_le l j) htot)
  obtain ⟨out, hout⟩ : ∃ o, x :: l.flatten = o := ⟨_, rfl⟩
  obtain ⟨N, hNN⟩ : ∃ n, out.length = n := ⟨_, rfl⟩
  obtain ⟨NF, hNF⟩ : ∃ n, l.flatten.length = n := ⟨_, rfl⟩
  have HNF := Lib.hid hNF
  clear hNF
  obtain ⟨E, hE⟩ : ∃ E, ofE out = E := ⟨_, rfl⟩
  obtain ⟨so, hS2⟩ : ∃ s, ofS out = s := ⟨_, rfl⟩
  obtain ⟨J, hJ⟩ : ∃ J, joinE x l = J := ⟨_, rfl⟩
  rw [hout] at HOF HEN ⊢
  rw [hE, hS2] at HOF
  rw [hJ]
  have hj := hJ
  unfold joinE at hj
  rw [hout, hE] at hj
  have HJ := Lib.hid hj
  have HOUT := Lib.hid hout
  have HNN := Lib.hid hNN
  have hn2 : N ≤ 90001 := by rw [← hNN, ← hout, List.length_cons]; omega
  clear hok hok' hS hrow hus hul hM hE hS2 hJ hj
  obtain ⟨op, xa, xb, xn, xd⟩ := x
  unfold Nd.val
  simp only
  go_enter Tryz.func32, Tryz.ntmps32
  go_upto_region 1 with (fail)
  refine wp_opaque (fun w0 hb0 => ?_)
  have hO0 := Own.one hb0
  have hl0 := hb0.un1
  obtain ⟨z0, d0, -⟩ := own_get hO0
  have x0 := d0 0
  have x1 := d0 1
  have x2 := d0 2
  have x3 := d0 3
  have x4 := d0 4
  simp only [List.getElem?_toArray, List.getElem?_cons_zero, List.getElem?_cons_succ] at x0 x1 x2 x3 x4
  obtain ⟨D, hD⟩ : ∃ D, w.heap.size = D := ⟨_, rfl⟩
  rw [hD] at x0 x1 x2 x3 x4 z0 ⊢
  clear hb0 hO0 d0 hNN
  go_cut [6] (fun s6 wx => ∃ p6 c6, s6 = .slice p6 N c6 ∧ Hid (MineN w0 wx (.slice p6 N c6) out))
  case first =>
    clear HOF HEN HR HU HT HJ
    refine V.wp_region_plan 4 (.two [0, 2] 1 (.one [] 3 (.one [] 4 (.done [5]))) 3 (.one [] 1 (.one [] 4 (.done [5])))) (by kernel_rfl) (by kernel_rfl) (fun _ _ d _ _ h => by cases d <;> exact h) ?_
    repeat' (first
      | (refine plan_done (fun K hK => ?_); (first | (simp only [pick_cons, pick_nil, toList_some_append, List.getElem?_toArray, List.getElem?_cons_zero, List.getElem?_cons_succ]; repeat (go_big_quiet_step (fail))) | simp only [pick_nil]); refine wpQuiet_nil (hK _ ?_); clear hK K)
      | (refine plan_one (by rfl) (fun K hK => ?_); (first | (simp only [pick_cons, pick_nil, toList_some_append, List.getElem?_toArray, List.getElem?_cons_zero, List.getElem?_cons_succ]; repeat (go_big_quiet_step (fail))) | simp only [pick_nil]); refine wpQuiet_nil (hK _ ?_); clear hK K)
      | (refine plan_two (by rfl) (by rfl) (fun K hK => ?_); (first | (simp only [pick_cons, pick_nil, toList_some_append, List.getElem?_toArray, List.getElem?_cons_zero, List.getElem?_cons_succ]; repeat (go_big_quiet_step (fail))) | simp only [pick_nil]); refine wpQuiet_nil (hK _ ?_); clear hK K; refine ⟨?_, ?_⟩)
      | ((with_reducible refine at_list ?_); (try simp only [List.getElem_toArray, List.getElem_cons_succ, List.getElem_cons_zero]); go_wp2_with ((first | refine wpList_builtS (nodes_one _ _ _ _ _) rfl rfl rfl ?_ | (go_at_call 76; go_must (refine (HCC.out _ (hl0.trans (by repeat (first | with_reducible exact Later.refl _ | with_reducible assumption | with_reducible refine Later.ofdrew ?_ | with_reducible refine Later.ofdrewN ?_ | with_reducible refine Later.setCell ?_ ?_ _ | with_reducible refine Later.alloc ?_ _ | with_reducible refine Later.drewN ?_ _ | with_reducible refine Later.drew ?_ | (with_reducible refine Later.trans ?_ (by assumption)) | (simp only [World.size_setCell, World.size_alloc, World.heap_drewN]; omega) | (simp; done) | (simp; omega))))).mono ?_; rintro e w1 ⟨v1, rfl, hM1⟩; obtain ⟨p1, c1, hv1⟩ := hM1.form; rw [HNF.out] at hv1; subst hv1; have hb1 := hM1.lat; have HM1 := Lib.hid hM1; clear hM1)) | (at_builtin; go_must (refine wpList_nodesG (w0 := w0) (L := [⟨op, xa, xb, xn, xd⟩]) (by first | exact (mineN_lit (w := w0.drew) ((Later.refl w0).drew) _).later hb1 | exact mineN_lit (by repeat (first | with_reducible exact Later.refl _ | with_reducible assumption | with_reducible refine Later.ofdrew ?_ | with_reducible refine Later.ofdrewN ?_ | with_reducible refine Later.setCell ?_ ?_ _ | with_reducible refine Later.alloc ?_ _ | with_reducible refine Later.drewN ?_ _ | with_reducible refine Later.drew ?_ | (with_reducible refine Later.trans ?_ (by assumption)) | (simp only [World.size_setCell, World.size_alloc, World.heap_drewN]; omega) | (simp; done) | (simp; omega))) _) (HM1.out.nodes.later (by repeat (first | with_reducible exact Later.refl _ | with_reducible assumption | with_reducible refine Later.ofdrew ?_ | with_reducible refine Later.ofdrewN ?_ | with_reducible refine Later.setCell ?_ ?_ _ | with_reducible refine Later.alloc ?_ _ | with_reducible refine Later.drewN ?_ _ | with_reducible refine Later.drew ?_ | (with_reducible refine Later.trans ?_ (by assumption)) | (simp only [World.size_setCell, World.size_alloc, World.heap_drewN]; omega) | (simp; done) | (simp; omega)))) rfl _ _ rfl rfl rfl (by simp only [List.length_cons, List.length_nil]; omega) ?_; intro v9 w9 h9 hl9)))); first | refine behind_store (t := 4) (by decide) ?_ | refine behind (by repeat (first | with_reducible exact Later.refl _ | with_reducible assumption | with_reducible refine Later.ofdrew ?_ | with_reducible refine Later.ofdrewN ?_ | with_reducible refine Later.alloc ?_ _ | with_reducible refine Later.drewN ?_ _ | with_reducible refine Later.drew ?_ | (with_reducible refine Later.trans ?_ (by assumption)))) ?_))
    all_goals
      go_wp2_with fail
      go_meet
      have h9x : MineN w0 w9 v9 out := by rw [← HOUT.out]; exact h9
      obtain ⟨p9, c9, hv9⟩ := h9x.form
      rw [HNN.out] at hv9
      exact ⟨p9, c9, hv9, Lib.hid (by rw [← hv9]; exact h9x)⟩
  case rest =>
    obtain ⟨p6, c6, rfl, HM6⟩ := hcut
    have hl6 := hl0.trans HM6.out.lat
    clear HCC x0 x1 x2 x3 x4 z0
    have HON := Lib.hid HM6.out.nodes
    have HEN6 := Lib.hid (fun k W (hl : Later wc W) hk => HEN.out _ k W (hl6.trans hl) hk (HON.out.later hl))
    have HOF6 := Lib.hid (HOF.out _ wc hl6 HON.out)
    have HR6 := Lib.hid (HR.out.later hl6)
    have HU6 := Lib.hid (fun i h h' => (HU.out i h h').later hl6)
    clear HEN HOF HR HU HM6
    by_cases h0 : E = 0
    · subst h0
      have hj := HJ.out
      rw [if_neg (by simp)] at hj
      have HJ2 := Lib.hid hj
      clear hj HJ
      go_upto_region 7 with (go_at_call 77; go_must (refine HOF6.out.mono ?_; rintro e w1 ⟨rfl, hl1⟩))
      clear HOF6
      go_loopw [9, 27] (fun s9 s27 wr => ∃ j k : Nat, j ≤ M ∧ s27 = .int .i64 j ∧ s9 = .int .i64 k ∧ Hid (k = 1 + (l.take j).flatten.length ∧ partsE out 1 l = partsE out k (l.drop j)) ∧ Later wc wr) (fun _ s27 _ => M - (intOf s27).toNat)
      case atStart => exact ⟨0, 1, Nat.zero_le _, rfl, rfl, Lib.hid ⟨by simp, by simp⟩, hl1⟩
      case round =>
        obtain ⟨j, k, hj, rfl, rfl, hk, hlat⟩ := hrel
        have hk5 : k ≤ 90001 := by have := HT.out j; have := hk.out.1; omega
        by_cases hlt : j < M
        · have hjl : j < l.length := by rw [HL.out.2]; exact hlt
          have hju : j < us.length := by rw [HL.out.1]; exact hlt
          obtain ⟨b, o, c1, hv, hb, g⟩ := HR6.out.full (i := j) hju
          rw [HL.out.1] at hv
          cases hv
          have g0 := ((bcell hlat).1 _ _ hb).trans (g 0 (by decide))
          obtain ⟨p1, k1, hu1⟩ := (HU6.out j hju hjl).form
          rw [hu1] at g0
          simp only [Nat.mul_one, Nat.add_zero] at g0
          have hdr : l.drop j = l[j] :: l.drop (j + 1) := List.drop_eq_getElem_cons hjl
          have hpe := hk.out.2
          rw [hdr, parts_cons] at hpe
          have hft := partsl_take hjl
          have HTJ := HT.out (j + 1)
          rw [hft, List.length_append] at HTJ
          have HK : Hid (k + (l[j]).length = 1 + (l.take (j + 1)).flatten.length) := Lib.hid (by rw [hft, List.length_append]; have := hk.out.1; omega)
          have hem : (l[j]).isEmpty = decide ((l[j]).length = 0) := by cases l[j] <;> rfl
          rw [hem] at hpe
          obtain ⟨n1, hn1⟩ : ∃ n, (l[j]).length = n := ⟨_, rfl⟩
          rw [hn1] at g0 hpe HTJ HK
          have hkn : k + n1 ≤ 90001 := by have := hk.out.1; omega
          have HE6 := Lib.hid (HEN6.out k _ hlat (by omega))
          have HPE := Lib.hid hpe
          clear g hu1 hn1 hdr hft HTJ hem hpe hk
          by_cases hz : n1 = 0
          · subst hz
            have hJJ : Hid (J = 14) := Lib.hid (by rw [← HJ2.out, HPE.out]; simp)
            clear HJ2 HPE HE6
            go_wp2
            go_ret2
            exact ⟨_, by rw [hJJ.out]; rfl, fun h => absurd (h.symm.trans hJJ.out) (by decide), fun _ => rfl, hl6.trans hlat⟩
          · have hz1 : ((n1 : Int) == 0) = false := by rw [beq_eq_false_iff_ne]; omega
            obtain ⟨G, hG⟩ : ∃ G, optI (endN out k) = G := ⟨_, rfl⟩
            rw [hG] at HE6
            have hGI : G = ((k + n1 : Nat) : Int) ↔ endN out k = some (k + n1) := by rw [← hG]; exact optI_eq
            by_cases he : endN out k = some (k + n1)
            · have hG2 := hGI.2 he
              subst hG2
              have HP2 : Hid (partsE out 1 l = partsE out (k + n1) (l.drop (j + 1))) := Lib.hid (by rw [HPE.out]; simp [he, hz])
              clear HPE hGI hG he
              go_wp2_with (go_at_call 78; go_must (refine HE6.out.mono ?_; rintro e w2 ⟨rfl, hb2⟩))
              go_roundw
              case rel => exact ⟨j + 1, k + n1, by omega, by go_num, by go_num, Lib.hid ⟨HK.out, HP2.out⟩, hlat.trans hb2⟩
              case measure => simp [intOf]; omega
            · have hJJ : Hid (J = 14) := Lib.hid (by rw [← HJ2.out, HPE.out]; simp [he])
              have hne : (G == (k : Int) + n1) = false := by
                rw [beq_eq_false_iff_ne]
                intro e
                exact he (hGI.1 (by rw [e]; omega))
              clear HJ2 HPE hGI hG he
              go_wp2_with (go_at_call 78; go_must (refine HE6.out.mono ?_; rintro e w2 ⟨rfl, hb2⟩))
              go_ret2
              exact ⟨_, by rw [hJJ.out]; rfl, fun h => absurd (h.symm.trans hJJ.out) (by decide), fun _ => rfl, hl6.trans (hlat.trans hb2)⟩
        · have hp : partsE out 1 l = true := by rw [hk.out.2, List.drop_of_length_le (by rw [HL.out.2]; omega)]; rfl
          have hJJ : Hid (J = 0) := Lib.hid (by rw [← HJ2.out, hp]; rfl)
          clear HJ2 hp hk
          go_wp2
          go_ret2
          exact ⟨_, by rw [hJJ.out]; rfl, fun _ => HON.out.later hlat, fun h => absurd hJJ.out h, hl6.trans hlat⟩
    · have hj := HJ.out
      rw [if_pos h0] at hj
      have HJ2 := Lib.hid hj
      have he1 : (E == 0) = false := by simpa using h0
      have he2 : (E != 0) = true := by simpa using h0
      have HE0 := Lib.hid h0
      clear hj HJ h0
      go_wp2_with (go_at_call 77; go_must (refine HOF6.out.mono ?_; rintro e w1 ⟨rfl, hl1⟩))
      go_ret2
      exact ⟨_, by rw [HJ2.out]; rfl, fun h => absurd (HJ2.out.trans h) HE0.out, fun _ => rfl, hl6.trans hl1⟩
end Go.Proofs.YtkjabiabeemfhaaGreatDoor
end
section
/- rows cut: the first ones, those from one on -/
namespace Go.Proofs.YtkjabiabeemfhaaGreatDoor
open Go.RowKit
set_option maxRecDepth 100000

section
variable {α : Type} {sz : Nat} {f : α → Nat → Value} {w : World} {P : Program} {t : TypeId} {xs : List α}
theorem row_upto (ht : P.underlying t = some (.slice (P.elem t))) (hz : ∀ W, (sizeOf (P.elem t)).run P W = .ok sz W) {p : Option Addr} {n c : Nat} (h : IsRow sz f w (.slice p n c) xs) {k : Nat} (hk : k ≤ xs.length) :
    ∃ q c', (∀ W, (Instr.slice t (.slice p n c) none (some (.int .i64 (k : Int))) none).run P W = .ok (.slice q k c') W) ∧ IsRow sz f w (.slice q k c') (xs.take k) := by
  rcases h with ⟨⟨p, h1⟩, h6⟩ | ⟨b, o, c', h1, h2, h3, h4, h5⟩
  · cases h1
    subst h6
    obtain rfl : k = 0 := by simpa using hk
    refine ⟨_, 0, fun W => ?_, .inl ⟨⟨p, rfl⟩, by simp⟩⟩
    rw [run_slice_h _ _ _ _ _ ht _ _ (by omega) (by omega), hz]
    simp [Result.andThen, sliced]
  · cases h1
    refine ⟨some ⟨b, o, none⟩, c, fun W => ?_, .inr ⟨b, o, c, by rw [List.length_take, Nat.min_eq_left hk], h2, by rw [List.length_take]; omega, h4, fun i hi j hj => ?_⟩⟩
    · rw [run_slice_h _ _ _ _ _ ht _ _ (by omega) (by omega), hz]
      simp only [Result.andThen, sliced, Int.toNat_natCast, Nat.zero_mul, Nat.sub_zero]
      split
      · rfl
      · simp only [Option.map]; rw [add_plain]; rfl
    · rw [List.length_take] at hi
      rw [List.getElem_take]
      exact h5 i (by omega) j hj
theorem row_from (ht : P.underlying t = some (.slice (P.elem t))) (hz : ∀ W, (sizeOf (P.elem t)).run P W = .ok sz W) {p : Option Addr} {n c : Nat} (h : IsRow sz f w (.slice p n c) xs) {k : Nat} (hk : k ≤ xs.length) :
    ∃ q c', (∀ W, (Instr.slice t (.slice p n c) (some (.int .i64 (k : Int))) none none).run P W = .ok (.slice q (xs.length - k) c') W) ∧ IsRow sz f w (.slice q (xs.length - k) c') (xs.drop k) := by
  rcases h with ⟨⟨p, h1⟩, h6⟩ | ⟨b, o, c', h1, h2, h3, h4, h5⟩
  · cases h1
    subst h6
    obtain rfl : k = 0 := by simpa using hk
    refine ⟨_, 0, fun W => ?_, .inl ⟨⟨p, rfl⟩, by simp⟩⟩
    rw [run_slice_l _ _ _ _ _ ht _ _ (by omega) (by omega), hz]
    simp [Result.andThen, sliced]
  · cases h1
    by_cases hkc : k = c
    · subst hkc
      have hx : xs.length = k := by omega
      refine ⟨some ⟨b, o, none⟩, 0, fun W => ?_, .inr ⟨b, o, 0, by rw [List.length_drop], h2, by rw [List.length_drop]; omega, by omega, fun i hi j hj => ?_⟩⟩
      · rw [run_slice_l _ _ _ _ _ ht _ _ (by omega) (by omega), hz]
        simp [Result.andThen, sliced]
      · rw [List.length_drop] at hi; omega
    · refine ⟨some ⟨b, o + k * sz, none⟩, c - k, fun W => ?_, .inr ⟨b, o + k * sz, c - k, by rw [List.length_drop], h2, by rw [List.length_drop]; omega, by omega, fun i hi j hj => ?_⟩⟩
      · rw [run_slice_l _ _ _ _ _ ht _ _ (by omega) (by omega), hz]
        simp only [Result.andThen, sliced, Int.toNat_natCast]
        rw [if_neg (by omega)]
        simp only [Option.map]; rw [add_plain]
      · rw [List.length_drop] at hi
        have := h5 (k + i) (by omega) j hj
        rw [show o + k * sz + i * sz + j = o + (k + i) * sz + j by rw [Nat.add_mul]; omega, this, List.getElem_drop]
end
end Go.Proofs.YtkjabiabeemfhaaGreatDoor
end
section
/- chattelref09.ahead, Put: one more flow, put in its place -/
namespace Go.Proofs.YtkjabiabeemfhaaGreatDoor
open Go.RowKit Go.Sort

def aheadB (x y : Fl) : Bool := !(ltOf ordF) y x
theorem ahead_true {x y : Fl} (h : ¬ ltF y x) : aheadB x y = true := by unfold aheadB; rw [not_lt ltF_iff |>.2 h]; rfl
theorem ahead_false {x y : Fl} (h : ltF y x) : aheadB x y = false := by unfold aheadB; rw [(ltF_iff y x).2 h]; rfl
def flV (x : Fl) : Value := .agg #[.int .i64 x.day, .int .i64 x.cur, .int .i64 x.amt]
set_option maxHeartbeats 1600000 in
theorem rahead_any (x y : Fl) (w : World) : Calls Tryz.prog 79 #[flV x, flV y] w fun e w' => e = .returned (.bool (aheadB x y)) ∧ Later w w' := by
  obtain ⟨a, b, c⟩ := x
  obtain ⟨a', b', c'⟩ := y
  unfold flV
  simp only
  obtain ⟨R, hR⟩ : ∃ R, aheadB ⟨a, b, c⟩ ⟨a', b', c'⟩ = R := ⟨_, rfl⟩
  rw [hR]
  have hcase : (a ≠ a' ∧ a < a' ∧ R = true) ∨ (a ≠ a' ∧ ¬ a < a' ∧ R = false) ∨ (a = a' ∧ b ≠ b' ∧ b < b' ∧ R = true) ∨ (a = a' ∧ b ≠ b' ∧ ¬ b < b' ∧ R = false) ∨ (a = a' ∧ b = b' ∧ c ≤ c' ∧ R = true) ∨ (a = a' ∧ b = b' ∧ ¬ c ≤ c' ∧ R = false) := by
    by_cases h1 : a = a'
    · by_cases h2 : b = b'
      · by_cases h3 : c ≤ c'
        · exact .inr (.inr (.inr (.inr (.inl ⟨h1, h2, h3, by rw [← hR]; exact ahead_true (by unfold ltF; simp only; omega)⟩))))
        · exact .inr (.inr (.inr (.inr (.inr ⟨h1, h2, h3, by rw [← hR]; exact ahead_false (by unfold ltF; simp only; omega)⟩))))
      · by_cases h3 : b < b'
        · exact .inr (.inr (.inl ⟨h1, h2, h3, by rw [← hR]; exact ahead_true (by unfold ltF; simp only; omega)⟩))
        · exact .inr (.inr (.inr (.inl ⟨h1, h2, h3, by rw [← hR]; exact ahead_false (by unfold ltF; simp only; omega)⟩)))
    · by_cases h3 : a < a'
      · exact .inl ⟨h1, h3, by rw [← hR]; exact ahead_true (by unfold ltF; simp only; omega)⟩
      · exact .inr (.inl ⟨h1, h3, by rw [← hR]; exact ahead_false (by unfold ltF; simp only; omega)⟩)
  clear hR
  rcases hcase with ⟨h1, h2, rfl⟩ | ⟨h1, h2, rfl⟩ | ⟨rfl, h1, h2, rfl⟩ | ⟨rfl, h1, h2, rfl⟩ | ⟨rfl, rfl, h2, rfl⟩ | ⟨rfl, rfl, h2, rfl⟩
  · have hb : (a == a') = false := by rw [beq_eq_false_iff_ne]; exact h1
    clear h1
    go_enter Tryz.func79, Tryz.ntmps79
    go_wp2
    go_ret
    exact ⟨rfl, by repeat (first | with_reducible exact Later.refl _ | with_reducible assumption | with_reducible refine Later.ofdrew ?_ | with_reducible refine Later.ofdrewN ?_ | with_reducible refine Later.setCell ?_ ?_ _ | with_reducible refine Later.alloc ?_ _ | with_reducible refine Later.drewN ?_ _ | with_reducible refine Later.drew ?_ | (with_reducible refine Later.trans ?_ (by assumption)) | (simp only [World.size_setCell, World.size_alloc, World.heap_drewN]; omega) | (simp; done) | (simp; omega))⟩
  · have hb : (a == a') = false := by rw [beq_eq_false_iff_ne]; exact h1
    clear h1
    go_enter Tryz.func79, Tryz.ntmps79
    go_wp2
    go_ret
    exact ⟨rfl, by repeat (first | with_reducible exact Later.refl _ | with_reducible assumption | with_reducible refine Later.ofdrew ?_ | with_reducible refine Later.ofdrewN ?_ | with_reducible refine Later.setCell ?_ ?_ _ | with_reducible refine Later.alloc ?_ _ | with_reducible refine Later.drewN ?_ _ | with_reducible refine Later.drew ?_ | (with_reducible refine Later.trans ?_ (by assumption)) | (simp only [World.size_setCell, World.size_alloc, World.heap_drewN]; omega) | (simp; done) | (simp; omega))⟩
  · have hb : (b == b') = false := by rw [beq_eq_false_iff_ne]; exact h1
    clear h1
    go_enter Tryz.func79, Tryz.ntmps79
    go_wp2
    go_ret
    exact ⟨rfl, by repeat (first | with_reducible exact Later.refl _ | with_reducible assumption | with_reducible refine Later.ofdrew ?_ | with_reducible refine Later.ofdrewN ?_ | with_reducible refine Later.setCell ?_ ?_ _ | with_reducible refine Later.alloc ?_ _ | with_reducible refine Later.drewN ?_ _ | with_reducible refine Later.drew ?_ | (with_reducible refine Later.trans ?_ (by assumption)) | (simp only [World.size_setCell, World.size_alloc, World.heap_drewN]; omega) | (simp; done) | (simp; omega))⟩
  · have hb : (b == b') = false := by rw [beq_eq_false_iff_ne]; exact h1
    clear h1
    go_enter Tryz.func79, Tryz.ntmps79
    go_wp2
    go_ret
    exact ⟨rfl, by repeat (first | with_reducible exact Later.refl _ | with_reducible assumption | with_reducible refine Later.ofdrew ?_ | with_reducible refine Later.ofdrewN ?_ | with_reducible refine Later.setCell ?_ ?_ _ | with_reducible refine Later.alloc ?_ _ | with_reducible refine Later.drewN ?_ _ | with_reducible refine Later.drew ?_ | (with_reducible refine Later.trans ?_ (by assumption)) | (simp only [World.size_setCell, World.size_alloc, World.heap_drewN]; omega) | (simp; done) | (simp; omega))⟩
  · go_enter Tryz.func79, Tryz.ntmps79
    go_wp2
    go_ret
    exact ⟨rfl, by repeat (first | with_reducible exact Later.refl _ | with_reducible assumption | with_reducible refine Later.ofdrew ?_ | with_reducible refine Later.ofdrewN ?_ | with_reducible refine Later.setCell ?_ ?_ _ | with_reducible refine Later.alloc ?_ _ | with_reducible refine Later.drewN ?_ _ | with_reducible refine Later.drew ?_ | (with_reducible refine Later.trans ?_ (by assumption)) | (simp only [World.size_setCell, World.size_alloc, World.heap_drewN]; omega) | (simp; done) | (simp; omega))⟩
  · go_enter Tryz.func79, Tryz.ntmps79
    go_wp2
    go_ret
    exact ⟨rfl, by repeat (first | with_reducible exact Later.refl _ | with_reducible assumption | with_reducible refine Later.ofdrew ?_ | with_reducible refine Later.ofdrewN ?_ | with_reducible refine Later.setCell ?_ ?_ _ | with_reducible refine Later.alloc ?_ _ | with_reducible refine Later.drewN ?_ _ | with_reducible refine Later.drew ?_ | (with_reducible refine Later.trans ?_ (by assumption)) | (simp only [World.size_setCell, World.size_alloc, World.heap_drewN]; omega) | (simp; done) | (simp; omega))⟩
theorem tw_take {α : Type} (p : α → Bool) (l : List α) : l.take (l.takeWhile p).length = l.takeWhile p ∧ l.drop (l.takeWhile p).length = l.dropWhile p := by
  have h := List.takeWhile_append_dropWhile (p := p) (l := l)
  constructor
  · conv => lhs; rw [← h]
    rw [List.take_left']
    rw [h]
  · conv => lhs; rw [← h]
    rw [List.drop_left']
    rw [h]
theorem tw_in {α : Type} {p : α → Bool} : ∀ {l : List α} {i : Nat} (hi : i < l.length), i < (l.takeWhile p).length → p l[i] = true
  | a :: l, i, hi, h => by
    rw [List.takeWhile_cons] at h
    split at h
    · rename_i hp
      cases i with
      | zero => exact hp
      | succ i => exact tw_in (l := l) (by simpa using hi) (by simpa using h)
    · simp at h
theorem tw_out {α : Type} {p : α → Bool} : ∀ {l : List α} (hi : (l.takeWhile p).length < l.length), p (l[(l.takeWhile p).length]) = false
  | a :: l, hi => by
    by_cases hp : p a = true
    · have e : (a :: l).takeWhile p = a :: l.takeWhile p := by rw [List.takeWhile_cons, if_pos hp]
      simp only [e, List.length_cons, List.getElem_cons_succ]
      exact tw_out (l := l) (by rw [e] at hi; simpa using hi)
    · have e : (a :: l).takeWhile p = [] := by rw [List.takeWhile_cons, if_neg hp]
      simp only [e, List.length_nil, List.getElem_cons_zero]
      simpa using hp
theorem tw_le {α : Type} (p : α → Bool) (l : List α) : (l.takeWhile p).length ≤ l.length := (List.takeWhile_sublist p).length_le
/-- How many are ahead of one. -/
def aheadN (L : List Fl) (x : Fl) : Nat := (L.takeWhile (fun y => aheadB y x)).length
theorem ins_take (L : List Fl) (x : Fl) : insL ordF L x = L.take (aheadN L x) ++ [x] ++ L.drop (aheadN L x) := by
  unfold aheadN insL
  obtain ⟨a, b⟩ := tw_take (fun y => aheadB y x) L
  rw [a, b]
  unfold aheadB
  simp
set_option maxHeartbeats 3200000 in
theorem rput_any (L : List Fl) (x : Fl) (v : Value) (w : World) (hN : IsFlows w v L) (hlen0 : L.length ≤ 100000) :
    Calls Tryz.prog 33 #[v, flV x] w fun e w' => ∃ v', e = .returned v' ∧ w'.ownsRow w.heap.size 50 3 v' (insL ordF L x).length ((insL ordF L x).flatMap flCs) ∧ Later w w' := by
  obtain ⟨p, cp, rfl⟩ := hN.form
  have hK0 : aheadN L x ≤ L.length := tw_le _ _
  obtain ⟨q1, c1, s1, r1⟩ := row_upto (t := 30) (P := Tryz.prog) (by kernel_rfl) (fun W => by kernel_rfl) hN hK0
  obtain ⟨q2, c2, s2, r2⟩ := row_from (t := 30) (P := Tryz.prog) (by kernel_rfl) (fun W => by kernel_rfl) hN hK0
  have HIN : Hid (∀ i (hi : i < L.length), i < aheadN L x → aheadB (L[i]) x = true) := Lib.hid (fun i hi h => tw_in (p := fun y => aheadB y x) hi h)
  have HOUT : Hid (∀ h : aheadN L x < L.length, aheadB (L[aheadN L x]) x = false) := Lib.hid (fun h => tw_out (p := fun y => aheadB y x) h)
  have HI := Lib.hid (ins_take L x)
  have HX := Lib.hid (fun i (hi : i < L.length) W => rahead_any L[i] x W)
  have HR1 := Lib.hid r1
  have HR2 := Lib.hid r2
  have HN := Lib.hid hN
  obtain ⟨R, hR⟩ : ∃ R, insL ordF L x = R := ⟨_, rfl⟩
  rw [hR] at HI ⊢
  obtain ⟨N, hNL⟩ : ∃ N, L.length = N := ⟨_, rfl⟩
  have HL := Lib.hid hNL
  rw [hNL] at HN hlen0 hK0 s1 s2 HR2 ⊢
  have HT : Hid ((L.take (aheadN L x)).length = aheadN L x ∧ (L.drop (aheadN L x)).length = N - aheadN L x) := Lib.hid ⟨by rw [List.length_take, hNL]; omega, by rw [List.length_drop, hNL]⟩
  clear hR hNL r1 r2 hN
  generalize aheadN L x = K at *
  obtain ⟨xd, xc, xa⟩ := x
  unfold flV
  simp only
  go_enter Tryz.func33, Tryz.ntmps33
  go_upto_region 1 with (fail)
  refine wp_opaque (fun w0 hb0 => ?_)
  have hO0 := Own.one hb0
  have hl0 := hb0.un1
  obtain ⟨z0, d0, -⟩ := own_get hO0
  have x0 := d0 0
  have x1 := d0 1
  have x2 := d0 2
  simp only [List.getElem?_toArray, List.getElem?_cons_zero, List.getElem?_cons_succ] at x0 x1 x2
  clear hb0 d0
  obtain ⟨D, hB⟩ : ∃ D, w.heap.size = D := ⟨_, rfl⟩
  rw [hB] at x0 x1 x2 z0 ⊢
  go_upto_block 0 with (fail)
  go_cut [5] (fun s5 wx => s5 = .int .i64 K ∧ Later w0 wx)
  case first =>
    go_wp2_with fail
    go_loopw [5] (fun s5 wr => ∃ j : Nat, j ≤ K ∧ s5 = .int .i64 j ∧ Later w0 wr) (fun s5 _ => N - (intOf s5).toNat)
    case atStart => exact ⟨0, Nat.zero_le _, rfl, Later.refl _⟩
    case round =>
      obtain ⟨j, hj, rfl, hlat⟩ := hrel
      have hlw := hl0.trans hlat
      replace x0 := ((bcell hlat).1 _ 0 z0).trans x0
      replace x1 := ((bcell hlat).1 _ 1 z0).trans x1
      replace x2 := ((bcell hlat).1 _ 2 z0).trans x2
      have zB := Nat.lt_of_lt_of_le z0 hlat.size
      by_cases hlt : j < N
      · have hjl : j < L.length := by rw [HL.out]; exact hlt
        obtain ⟨b, o, c3, hv, hb, g⟩ := HN.out.full (i := j) hjl
        rw [HL.out] at hv
        cases hv
        have e0 := ((bcell hlw).1 _ _ hb).trans (g 0 (by decide))
        have e1 := ((bcell hlw).1 _ _ hb).trans (g 1 (by decide))
        have e2 := ((bcell hlw).1 _ _ hb).trans (g 2 (by decide))
        simp only [flF, Nat.add_zero] at e0 e1 e2
        have hbr := Nat.lt_of_lt_of_le hb hlw.size
        have HXJ := Lib.hid (fun W => HX.out j hjl W)
        unfold flV at HXJ
        obtain ⟨q, hq⟩ : ∃ q, aheadB L[j] ⟨xd, xc, xa⟩ = q := ⟨_, rfl⟩
        rw [hq] at HXJ
        have HQ := Lib.hid hq
        clear g hq hb HX
        by_cases hjk : j < K
        · have hq : q = true := by rw [← HQ.out]; exact HIN.out j hjl hjk
          subst hq
          clear HQ HIN HOUT HR1 HR2
          generalize (L[j]).day = y0 at *
          generalize (L[j]).cur = y1 at *
          generalize (L[j]).amt = y2 at *
          go_upto_region 2 with (fail)
          refine wp_region_plan 12 (.one [0, 1] 2 (.one [3, 4, 5, 6, 7, 8, 9] 10 (.done [11]))) (by kernel_rfl) (by kernel_rfl) (fun _ _ d _ _ h => by cases d <;> exact h) ?_
          repeat' (first
            | (refine plan_done (fun K hK => ?_); (first | (simp only [pick_cons, pick_nil, toList_some_append, List.getElem?_toArray, List.getElem?_cons_zero, List.getElem?_cons_succ]; repeat (go_big_quiet_step (fail))) | simp only [pick_nil]); refine wpQuiet_nil (hK _ ?_); clear hK K)
            | (refine plan_one (by rfl) (fun K hK => ?_); (first | (simp only [pick_cons, pick_nil, toList_some_append, List.getElem?_toArray, List.getElem?_cons_zero, List.getElem?_cons_succ]; repeat (go_big_quiet_step (fail))) | simp only [pick_nil]); refine wpQuiet_nil (hK _ ?_); clear hK K)
            | ((with_reducible refine at_list ?_); go_wp2_with ((go_at_call 79; go_must (refine (HXJ.out _).mono ?_; rintro e w1 ⟨rfl, hb1⟩))); first | refine behind_store (t := 12) (by decide) ?_ | refine behind (by repeat (first | with_reducible exact Later.refl _ | with_reducible assumption | with_reducible refine Later.ofdrew ?_ | with_reducible refine Later.ofdrewN ?_ | with_reducible refine Later.alloc ?_ _ | with_reducible refine Later.drewN ?_ _ | with_reducible refine Later.drew ?_ | (with_reducible refine Later.trans ?_ (by assumption)))) ?_))
          all_goals
            go_wp2
            go_roundw
            case rel => exact ⟨j + 1, by omega, by go_num, hlat.trans (by repeat (first | with_reducible exact Later.refl _ | with_reducible assumption | with_reducible refine Later.ofdrew ?_ | with_reducible refine Later.ofdrewN ?_ | with_reducible refine Later.setCell ?_ ?_ _ | with_reducible refine Later.alloc ?_ _ | with_reducible refine Later.drewN ?_ _ | with_reducible refine Later.drew ?_ | (with_reducible refine Later.trans ?_ (by assumption)) | (simp only [World.size_setCell, World.size_alloc, World.heap_drewN]; omega) | (simp; done) | (simp; omega)))⟩
            case measure => simp [intOf]; omega
        · obtain rfl : j = K := by omega
          have hq : q = false := by rw [← HQ.out]; exact HOUT.out hjl
          subst hq
          clear HQ HIN HOUT HR1 HR2
          generalize (L[j]).day = y0 at *
          generalize (L[j]).cur = y1 at *
          generalize (L[j]).amt = y2 at *
          go_upto_region 2 with (fail)
          refine wp_region_plan 12 (.one [0, 1] 2 (.one [3, 4, 5, 6, 7, 8, 9] 10 (.done [11]))) (by kernel_rfl) (by kernel_rfl) (fun _ _ d _ _ h => by cases d <;> exact h) ?_
          repeat' (first
            | (refine plan_done (fun K hK => ?_); (first | (simp only [pick_cons, pick_nil, toList_some_append, List.getElem?_toArray, List.getElem?_cons_zero, List.getElem?_cons_succ]; repeat (go_big_quiet_step (fail))) | simp only [pick_nil]); refine wpQuiet_nil (hK _ ?_); clear hK K)
            | (refine plan_one (by rfl) (fun K hK => ?_); (first | (simp only [pick_cons, pick_nil, toList_some_append, List.getElem?_toArray, List.getElem?_cons_zero, List.getElem?_cons_succ]; repeat (go_big_quiet_step (fail))) | simp only [pick_nil]); refine wpQuiet_nil (hK _ ?_); clear hK K)
            | ((with_reducible refine at_list ?_); go_wp2_with ((go_at_call 79; go_must (refine (HXJ.out _).mono ?_; rintro e w1 ⟨rfl, hb1⟩))); first | refine behind_store (t := 12) (by decide) ?_ | refine behind (by repeat (first | with_reducible exact Later.refl _ | with_reducible assumption | with_reducible refine Later.ofdrew ?_ | with_reducible refine Later.ofdrewN ?_ | with_reducible refine Later.alloc ?_ _ | with_reducible refine Later.drewN ?_ _ | with_reducible refine Later.drew ?_ | (with_reducible refine Later.trans ?_ (by assumption)))) ?_))
          all_goals
            go_wp2_with fail
            go_meet
            exact ⟨rfl, hlat.trans (by repeat (first | with_reducible exact Later.refl _ | with_reducible assumption | with_reducible refine Later.ofdrew ?_ | with_reducible refine Later.ofdrewN ?_ | with_reducible refine Later.setCell ?_ ?_ _ | with_reducible refine Later.alloc ?_ _ | with_reducible refine Later.drewN ?_ _ | with_reducible refine Later.drew ?_ | (with_reducible refine Later.trans ?_ (by assumption)) | (simp only [World.size_setCell, World.size_alloc, World.heap_drewN]; omega) | (simp; done) | (simp; omega)))⟩
      · obtain rfl : j = K := by omega
        clear HIN HOUT HR1 HR2 HX
        go_upto_region 2 with (fail)
        refine wp_region_plan 12 (.one [0, 1] 2 (.one [3, 4, 5, 6, 7, 8, 9] 10 (.done [11]))) (by kernel_rfl) (by kernel_rfl) (fun _ _ d _ _ h => by cases d <;> exact h) ?_
        repeat' (first
          | (refine plan_done (fun K hK => ?_); (first | (simp only [pick_cons, pick_nil, toList_some_append, List.getElem?_toArray, List.getElem?_cons_zero, List.getElem?_cons_succ]; repeat (go_big_quiet_step (fail))) | simp only [pick_nil]); refine wpQuiet_nil (hK _ ?_); clear hK K)
          | (refine plan_one (by rfl) (fun K hK => ?_); (first | (simp only [pick_cons, pick_nil, toList_some_append, List.getElem?_toArray, List.getElem?_cons_zero, List.getElem?_cons_succ]; repeat (go_big_quiet_step (fail))) | simp only [pick_nil]); refine wpQuiet_nil (hK _ ?_); clear hK K)
          | ((with_reducible refine at_list ?_); go_wp2_with (fail); first | refine behind_store (t := 12) (by decide) ?_ | refine behind (by repeat (first | with_reducible exact Later.refl _ | with_reducible assumption | with_reducible refine Later.ofdrew ?_ | with_reducible refine Later.ofdrewN ?_ | with_reducible refine Later.alloc ?_ _ | with_reducible refine Later.drewN ?_ _ | with_reducible refine Later.drew ?_ | (with_reducible refine Later.trans ?_ (by assumption)))) ?_))
        all_goals
          go_wp2_with fail
          go_meet
          exact ⟨rfl, hlat.trans (by repeat (first | with_reducible exact Later.refl _ | with_reducible assumption | with_reducible refine Later.ofdrew ?_ | with_reducible refine Later.ofdrewN ?_ | with_reducible refine Later.setCell ?_ ?_ _ | with_reducible refine Later.alloc ?_ _ | with_reducible refine Later.drewN ?_ _ | with_reducible refine Later.drew ?_ | (with_reducible refine Later.trans ?_ (by assumption)) | (simp only [World.size_setCell, World.size_alloc, World.heap_drewN]; omega) | (simp; done) | (simp; omega)))⟩
  case rest =>
    obtain ⟨rfl, hlc⟩ := hcut
    have hlE : Later w wc := hl0.trans hlc
    replace x0 := ((bcell hlc).1 _ 0 z0).trans x0
    replace x1 := ((bcell hlc).1 _ 1 z0).trans x1
    replace x2 := ((bcell hlc).1 _ 2 z0).trans x2
    have zc := Nat.lt_of_lt_of_le z0 hlc.size
    have hBc : D ≤ wc.heap.size := by omega
    clear HX HIN HOUT HN
    go_upto_region 6 with (at_builtin; go_must (refine B.wpList_rows (L := []) (base := D) flCs flCs_len flCs_get flCs_one sliceFlow (World.ownsRow_nil _ _ _ _) hBc (HR1.out.later hlE) rfl _ _ rfl rfl rfl (by rw [HT.out.1]; simp; omega) (by decide) ?_; intro v1 w1 h1 g1 k1; rw [List.nil_append] at h1; have h1' := h1; rw [HT.out.1] at h1'; obtain ⟨p1, c1', rfl⟩ := B.owns_form h1'; have hl1 : Later wc w1 := Later.grown (Later.refl _) g1 (fun k hk => by cases hk)))
    have HM1 := Lib.hid h1
    replace x0 := ((bcell hl1).1 _ 0 zc).trans x0
    replace x1 := ((bcell hl1).1 _ 1 zc).trans x1
    replace x2 := ((bcell hl1).1 _ 2 zc).trans x2
    have zc1 := Nat.lt_of_lt_of_le zc hl1.size
    have hB1 : D ≤ w1.heap.size := by omega
    clear h1 h1' g1 k1
    go_upto_region 7 with (at_builtin; go_must (refine wpList_flow (base := D) ⟨xd, xc, xa⟩ HM1.out hB1 rfl _ _ rfl rfl 1 _ rfl rfl (by rw [HT.out.1]; omega) ?_; intro v2 w2 h2 g2 k2))
    have hK2 : ((L.take K) ++ [(⟨xd, xc, xa⟩ : Fl)]).length = K + 1 := by rw [List.length_append, HT.out.1]; rfl
    have h2' := h2
    rw [hK2] at h2'
    obtain ⟨p2, c2', rfl⟩ := B.owns_form h2'
    have HM2 := Lib.hid h2
    have hl2 : Later w w2 := Later.grown ((hlE.trans hl1).alloc _) g2 (fun k hk => by rw [hB]; exact (HM1.out.lt k hk).1)
    have hB2 : D ≤ w2.heap.size := by have := hl2.size; omega
    have HK2 := Lib.hid hK2
    clear h2 h2' g2 k2 hK2
    go_wp2_with (at_builtin; go_must (refine B.wpList_rows (base := D) flCs flCs_len flCs_get flCs_one sliceFlow HM2.out hB2 (HR2.out.later hl2) rfl _ _ rfl rfl rfl (by rw [HK2.out, HT.out.2]; omega) (by decide) ?_; intro v3 w3 h3 g3 k3; have hl3 : Later w w3 := Later.grown hl2 g3 (fun k hk => by rw [hB]; exact (HM2.out.lt k hk).1)))
    go_ret
    exact ⟨_, rfl, by rw [HI.out, hB]; exact h3, hl3⟩
end Go.Proofs.YtkjabiabeemfhaaGreatDoor
end
section
/- DenoteGives: its walk -/
namespace Go.Proofs.YtkjabiabeemfhaaGreatDoor
open Go.RowKit
set_option maxRecDepth 100000

theorem parts_lit {w w' : World} {u : Value} {ts : List Nd} (h : IsNodes w' u ts) (hl : Later (w.alloc (.cells #[u] 22)) w') : IsParts w' (.slice (some ⟨w.heap.size, 0, none⟩) 1 1) [ts] := by
  have hr : IsRow 1 (fun (u : Value) _ => u) (w.alloc (.cells #[u] 22)) (.slice (some ⟨w.heap.size, 0, none⟩) 1 1) [u] := by
    refine .inr ⟨w.heap.size, 0, 1, rfl, by rw [World.size_alloc]; omega, Nat.le_refl _, by decide, fun i hi j hj => ?_⟩
    obtain rfl : i = 0 := by simpa using hi
    obtain rfl : j = 0 := by omega
    simp only [Nat.zero_mul, Nat.add_zero, List.getElem_cons_zero]
    rw [World.cell?_alloc_at _ _ _ _ rfl]; rfl
  refine ⟨[u], rfl, hr.later hl, fun i h1 h2 => ?_⟩
  obtain rfl : i = 0 := by simpa using h1
  exact h

end Go.Proofs.YtkjabiabeemfhaaGreatDoor
end
