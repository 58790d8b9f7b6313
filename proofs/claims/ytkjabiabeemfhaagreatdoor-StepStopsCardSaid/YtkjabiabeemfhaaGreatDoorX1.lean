/- step: runs and facts beside one another -/
import Derived.Test.YtkjabiabeemfhaaGreatDoorW11
import Derived.Test.YtkjabiabeemfhaaGreatDoorW10
import Derived.Test.YtkjabiabeemfhaaGreatDoorW3
import Derived.Test.YtkjabiabeemfhaaGreatDoorW2
import Derived.Test.YtkjabiabeemfhaaGreatDoorRows
import Derived.Test.YtkjabiabeemfhaaGreatDoorW1
import Derived.Shelf.Small.Bits
import Derived.Shelf.Small.Wraps
import Derived.Shelf.Strconv.Itoa0
import Derived.Shelf.Bits.Mul64
import Derived.Ground.Names2Prog
import Derived.Shelf.Slices.Clone
import Derived.Shelf.Slices.SearchI
import Derived.Ground.SlgnProg
import Derived.Shelf.SlicesE.Clone
import Derived.Shelf.SlLaysF0
import Derived.Ground.SlsfProg
import Derived.Test.YtkjabiabeemfhaaGreatDoorProg
import Derived.WalkKit
import Derived.Lib.BitFns
import Derived.Lib.ItoaNum
import Derived.WalkSpells
import Derived.WalkSmall
import Derived.WalkLawsBesides
import Derived.BigQuiet
import Derived.Deep.RegionHeld3
import Derived.Deep.DeepCutAuto
import Derived.Deep.CutBlock
import Derived.Lib.Hide
import Derived.Deep.Quiet
import Derived.Below
import Derived.OrdersHeld
import Derived.Shelf.Spec.BitsCarry
import Derived.Laws.AppendOwnNone
import Derived.OwnWalk
import Derived.Great.BuildSlice
import Derived.DeepKeys4
import Derived.Maps.Own
import Derived.Test.YtkjabiabeemfhaaGreatDoorW9
import Derived.Test.YtkjabiabeemfhaaGreatDoorW8
import Derived.RangeFuncNested
import Derived.RangeFuncBound
import Derived.RangeFuncCalls
import Derived.RangeFuncLeaves
import Derived.Shelf.Abstract
import Derived.Shelf.RegionOpen
import Derived.OwnWalkIn
import Derived.TacticsInMore
import Derived.LoopNIn
import Derived.LoopIn
import Derived.Test.YtkjabiabeemfhaaGreatDoorW4
import Derived.Test.YtkjabiabeemfhaaGreatDoorW7
import Derived.Test.YtkjabiabeemfhaaGreatDoorW5
import Derived.Test.YtkjabiabeemfhaaGreatDoorW6
import Derived.Deep.LoopGhost
import Derived.WalkMore
import Derived.Lib.Strings
import Derived.Test.YtkjabiabeemfhaaGreatDoorW13
import Derived.Test.YtkjabiabeemfhaaGreatDoorW12
import Derived.Test.YtkjabiabeemfhaaGreatDoorW15
import Derived.Test.YtkjabiabeemfhaaGreatDoorW14
import Derived.ArgAppend
import Derived.Test.YtkjabiabeemfhaaGreatDoorW16
import Derived.Test.YtkjabiabeemfhaaGreatDoorW18
import Derived.Shelf.SlSortCmp.Insertion
import Derived.Laws.IdiomCopy
import Derived.Deep.Upon
import Derived.Shelf.GgSortFunc.InsertionK
import Derived.Test.YtkjabiabeemfhaaGreatDoorW29
import Derived.Test.YtkjabiabeemfhaaGreatDoorW30
import Derived.Test.YtkjabiabeemfhaaGreatDoorW19
import Derived.RangeFuncBox
import Derived.Test.YtkjabiabeemfhaaGreatDoorW17
import Derived.Test.YtkjabiabeemfhaaGreatDoorW21
import Derived.Test.YtkjabiabeemfhaaGreatDoorW20
import Derived.Shelf.SlSortCmp.NoneTotal
import Derived.Shelf.SlSortCmp.WholeK
import Derived.Laws.IdiomRangeMap
import Derived.Test.YtkjabiabeemfhaaGreatDoorW28
import Derived.Test.YtkjabiabeemfhaaGreatDoorW27
import Derived.Lib.SliceRun
import Derived.Test.YtkjabiabeemfhaaGreatDoorW31
import Derived.Test.YtkjabiabeemfhaaGreatDoorW26
import Derived.Test.YtkjabiabeemfhaaGreatDoorW22
import Derived.Test.YtkjabiabeemfhaaGreatDoorW23
import Derived.Test.YtkjabiabeemfhaaGreatDoorW24
import Derived.Test.YtkjabiabeemfhaaGreatDoorW25
set_option linter.all false
set_option linter.all false
section
namespace Go.Proofs.YtkjabiabeemfhaaGreatDoor
open Go.RowKit
set_option maxRecDepth 100000
abbrev IsTolds (w : World) (v : Value) (l : List Td) : Prop := IsRow 6 Td.cell w v l
end Go.Proofs.YtkjabiabeemfhaaGreatDoor
end
section
namespace Go.Proofs.YtkjabiabeemfhaaGreatDoor
open Go.RowKit
set_option maxRecDepth 100000
def madeFx (l : List Td) : FxL := l.foldl tellFx []
def madeCh (l : List Td) : ChL := l.foldl tellCh []
set_option maxHeartbeats 1600000 in
theorem made_any (l : List Td) (hlen : l.length ≤ 100000) (hok : ∀ x ∈ l, x.ok) (v : Value) (w : World) (hN : IsTolds w v l) :
    Calls Tryz.prog 15 #[v] w fun e w' => ∃ p m1 m2, e = .returned (.pointer (some ⟨p, 0, none⟩)) ∧ FactsAt w' p m1 m2 (madeFx l) (madeCh l) ∧ w.heap.size ≤ m1 ∧ w.heap.size ≤ m2 ∧ Later w w' := by
  obtain ⟨p0, cp, rfl⟩ := hN.form
  have HN := Lib.hid hN
  have HNEW := Lib.hid (fnew_any w)
  have HTL := Lib.hid (fun (j : Nat) (h : j < l.length) p m1 m2 fx ch W hF => tell_any p m1 m2 fx ch l[j] W hF (hok _ (List.getElem_mem _)))
  clear hok hN
  obtain ⟨L, hL⟩ : ∃ L, l.length = L := ⟨_, rfl⟩
  rw [hL] at HN hlen ⊢
  have HL := Lib.hid hL
  clear hL
  go_enter Tryz.func15, Tryz.ntmps15
  go_wp2_with (go_at_call 36; go_must (refine HNEW.out.mono ?_; rintro e w1 ⟨p, m1, m2, rfl, hF1, h1, h2, hb1⟩))
  have HF1 := Lib.hid hF1
  clear hF1 HNEW
  go_loopw [4] (fun s4 wr => ∃ j : Nat, j ≤ L ∧ s4 = .int .i64 j ∧ Hid (FactsAt wr p m1 m2 ((l.take j).foldl tellFx []) ((l.take j).foldl tellCh [])) ∧ Later w wr) (fun s4 _ => L - (intOf s4).toNat)
  case atStart => exact ⟨0, Nat.zero_le _, rfl, HF1, hb1⟩
  case round =>
    obtain ⟨j, hj, rfl, hF, hlat⟩ := hrel
    by_cases hlt : j < L
    · have hjl : j < l.length := by rw [HL.out]; exact hlt
      obtain ⟨b, o, cp2, hv, hb, gg⟩ := HN.out.full (i := j) hjl
      rw [HL.out] at hv
      cases hv
      have g0 := ((bcell hlat).1 _ _ hb).trans (gg 0 (by omega))
      have g1 := ((bcell hlat).1 _ _ hb).trans (gg 1 (by omega))
      have g2 := ((bcell hlat).1 _ _ hb).trans (gg 2 (by omega))
      have g3 := ((bcell hlat).1 _ _ hb).trans (gg 3 (by omega))
      have g4 := ((bcell hlat).1 _ _ hb).trans (gg 4 (by omega))
      have g5 := ((bcell hlat).1 _ _ hb).trans (gg 5 (by omega))
      have HC := Lib.hid (HTL.out j hjl p m1 m2 _ _ wr hF.out)
      have ht : l.take (j + 1) = l.take j ++ [l[j]] := List.take_succ_eq_append_getElem hjl
      have HT1 := Lib.hid (show (l.take (j + 1)).foldl tellFx [] = tellFx ((l.take j).foldl tellFx []) l[j] by rw [ht, List.foldl_append]; rfl)
      have HT2 := Lib.hid (show (l.take (j + 1)).foldl tellCh [] = tellCh ((l.take j).foldl tellCh []) l[j] by rw [ht, List.foldl_append]; rfl)
      unfold Td.val at HC
      simp only [Td.cell, Nat.add_zero] at g0 g1 g2 g3 g4 g5
      generalize (l[j]).c = x0 at g0 HC
      generalize (l[j]).k = x1 at g1 HC
      generalize (l[j]).d = x2 at g2 HC
      generalize (l[j]).n = x3 at g3 HC
      generalize (l[j]).m = x4 at g4 HC
      generalize (l[j]).p = x5 at g5 HC
      clear gg ht hF HTL
      go_wp2_with (go_at_call 26; go_must (refine HC.out.mono ?_; rintro e w3 ⟨rfl, hF3, mm, hmm, hg3⟩))
      go_roundw
      case rel => exact ⟨j + 1, by omega, by go_num, Lib.hid (by rw [HT1.out, HT2.out]; exact hF3), Later.grown hlat hg3 (fun k e => by cases e; rcases hmm with rfl | rfl <;> assumption)⟩
      case measure => simp [intOf]; omega
    · have hfin : l.take j = l := List.take_of_length_le (by rw [HL.out]; omega)
      have hFF := hF.out
      rw [hfin] at hFF
      have HFF := Lib.hid hFF
      clear hF hFF hfin
      go_wp2
      go_ret
      exact ⟨p, m1, m2, rfl, HFF.out, h1, h2, hlat⟩
end Go.Proofs.YtkjabiabeemfhaaGreatDoor
end
section
namespace Go.Proofs.YtkjabiabeemfhaaGreatDoor
open Go.RowKit
set_option maxRecDepth 100000
theorem valT_mono {get get' : Int → Option Q2} (hm : ∀ k v, get k = some v → get' k = some v) : ∀ (T : Tm), ((valT get T).1 ≠ 0 → (valT get' T).1 ≠ 0) ∧ ((valT get T).1 = 0 → ∀ q, (valT get T).2 = some q → valT get' T = (0, some q)) := by
  intro T
  induction T using Tm.ind with
  | h x l ih =>
    rw [valT_node, valT_node]
    unfold nodeV
    by_cases h1 : x.op = 1
    · rw [if_pos h1, if_pos h1]; exact ⟨fun h => absurd rfl h, fun _ q hq => by cases hq; rfl⟩
    rw [if_neg h1, if_neg h1]
    by_cases h2 : x.op = 2
    · rw [if_pos h2, if_pos h2]; exact ⟨fun h => absurd rfl h, fun _ q hq => by rw [hm _ _ hq]⟩
    rw [if_neg h2, if_neg h2]
    cases hr : (l.map (valT get)).find? (fun r => decide (r.1 ≠ 0)) with
    | some r =>
      have h3 : r.1 ≠ 0 := by have := List.find?_some hr; simpa using this
      have hmem := List.mem_of_find?_eq_some hr
      obtain ⟨t, ht, rfl⟩ := List.mem_map.1 hmem
      have h4 := (ih t ht).1 h3
      cases hr' : (l.map (valT get')).find? (fun r => decide (r.1 ≠ 0)) with
      | some r' => 
        have h5 : r'.1 ≠ 0 := by have := List.find?_some hr'; simpa using this
        exact ⟨fun _ => h5, fun h => absurd h h3⟩
      | none =>
        have h5 := List.find?_eq_none.1 hr' _ (List.mem_map.2 ⟨t, ht, rfl⟩)
        exact absurd h4 (by simpa using h5)
    | none =>
      have h3 : ∀ t ∈ l, (valT get t).1 = 0 := fun t ht => by have := List.find?_eq_none.1 hr _ (List.mem_map.2 ⟨t, ht, rfl⟩); simpa using this
      simp only
      by_cases hall : ((l.map (valT get)).all fun r => r.2.isSome) = true
      · have hsame : l.map (valT get') = l.map (valT get) := by
          refine List.map_congr_left (fun t ht => ?_)
          have h4 := List.all_eq_true.1 hall _ (List.mem_map.2 ⟨t, ht, rfl⟩)
          obtain ⟨q, hq⟩ := Option.isSome_iff_exists.1 h4
          rw [(ih t ht).2 (h3 t ht) q hq]
          exact Prod.ext (h3 t ht).symm hq.symm
        rw [hsame, hr]
        simp only
        rw [if_pos hall]
        exact ⟨fun h => h, fun h q hq => Prod.ext h hq⟩
      · rw [if_neg hall]
        exact ⟨fun h => absurd rfl h, fun _ q hq => by cases hq⟩
end Go.Proofs.YtkjabiabeemfhaaGreatDoor
end
section
namespace Go.Proofs.YtkjabiabeemfhaaGreatDoor
open Go.RowKit
set_option maxRecDepth 100000
def combL (l : List Rs) : Rs := l.foldr comb (0, [], [])
def denF (env : Env) (tod : Int) : Nat → Hd → Rs
  | 0, _ => (0, [], [])
  | n + 1, h => if (oneH env tod h).1 ≠ 0 then ((oneH env tod h).1, [], []) else comb (0, (oneH env tod h).2.2.1, (oneH env tod h).2.2.2) (combL ((oneH env tod h).2.1.map (denF env tod n)))
def den (env : Env) (tod : Int) (h : Hd) : Rs := denF env tod h.T.size h
theorem mem_le {q : List Hd} {h : Hd} (hm : h ∈ q) : h.T.size ≤ sizesH q := le_sum (List.mem_map_of_mem hm)
theorem denF_enough (env : Env) (tod : Int) : ∀ (n : Nat) (h : Hd), h.T.size ≤ n → denF env tod n h = den env tod h := by
  have key : ∀ (n m : Nat) (h : Hd), h.T.size ≤ n → h.T.size ≤ m → denF env tod n h = denF env tod m h := by
    intro n
    induction n with
    | zero => intro m h hn _; have := h.T.size_pos; omega
    | succ n ih =>
      intro m h hn hm
      cases m with
      | zero => have := h.T.size_pos; omega
      | succ m =>
        have hlt := one_lt env tod h
        have : (oneH env tod h).2.1.map (denF env tod n) = (oneH env tod h).2.1.map (denF env tod m) := List.map_congr_left (fun k hk => by
          have := mem_le hk
          exact ih m k (by omega) (by omega))
        simp only [denF, this]
  intro n h hn
  exact key n _ h hn (Nat.le_refl _)
theorem den_eq (env : Env) (tod : Int) (h : Hd) : den env tod h = if (oneH env tod h).1 ≠ 0 then ((oneH env tod h).1, [], []) else comb (0, (oneH env tod h).2.2.1, (oneH env tod h).2.2.2) (combL ((oneH env tod h).2.1.map (den env tod))) := by
  obtain ⟨n, hn⟩ : ∃ n, h.T.size = n + 1 := ⟨h.T.size - 1, by have := h.T.size_pos; omega⟩
  have hlt := one_lt env tod h
  have : (oneH env tod h).2.1.map (denF env tod n) = (oneH env tod h).2.1.map (den env tod) := List.map_congr_left (fun k hk => by
    have := mem_le hk
    exact denF_enough env tod n k (by omega))
  conv => lhs; unfold den; rw [hn]
  simp only [denF, this]
theorem Sim.refl (a : Rs) : Sim a a := ⟨Iff.rfl, fun _ => ⟨.refl _, .refl _⟩⟩
theorem Sim.symm {a b : Rs} (h : Sim a b) : Sim b a := ⟨h.1.symm, fun hb => ⟨(h.2 (h.1.2 hb)).1.symm, (h.2 (h.1.2 hb)).2.symm⟩⟩
theorem Sim.trans {a b c : Rs} (h : Sim a b) (k : Sim b c) : Sim a c := ⟨h.1.trans k.1, fun ha => ⟨(h.2 ha).1.trans (k.2 (h.1.1 ha)).1, (h.2 ha).2.trans (k.2 (h.1.1 ha)).2⟩⟩
theorem comb_comm (a b : Rs) : Sim (comb a b) (comb b a) := by
  refine ⟨by rw [comb_fst, comb_fst, and_comm], fun h0 => ?_⟩
  obtain ⟨ha, hb⟩ := comb_fst.1 h0
  rw [comb_ok ha hb, comb_ok hb ha]
  exact ⟨List.perm_append_comm, List.perm_append_comm⟩
theorem comb_assoc (a b c : Rs) : Sim (comb (comb a b) c) (comb a (comb b c)) := by
  refine ⟨by rw [comb_fst, comb_fst, comb_fst, comb_fst, and_assoc], fun h0 => ?_⟩
  obtain ⟨h1, hc⟩ := comb_fst.1 h0
  obtain ⟨ha, hb⟩ := comb_fst.1 h1
  rw [comb_ok ha hb, comb_ok hb hc, comb_ok (a := (0, _, _)) rfl hc, comb_ok (b := (0, _, _)) ha rfl]
  exact ⟨by simp, by simp⟩
theorem comb_nil (a : Rs) : Sim (comb (0, [], []) a) a := by
  refine ⟨by rw [comb_fst]; simp, fun h0 => ?_⟩
  obtain ⟨_, ha⟩ := comb_fst.1 h0
  rw [comb_ok rfl ha]
  exact ⟨.refl _, .refl _⟩
theorem combL_cons (a : Rs) (l : List Rs) : combL (a :: l) = comb a (combL l) := rfl
theorem combL_app (l m : List Rs) : Sim (combL (l ++ m)) (comb (combL l) (combL m)) := by
  induction l with
  | nil => exact (comb_nil _).symm
  | cons a l ih =>
    rw [List.cons_append, combL_cons, combL_cons]
    exact ((Sim.refl a).comb ih).trans (comb_assoc _ _ _).symm
theorem run_den (env : Env) (tod : Int) : ∀ (n : Nat) (q : List Hd), sizesH q ≤ n → Sim (runQ env tod n q) (combL (q.map (den env tod))) := by
  intro n
  induction n with
  | zero =>
    intro q hq
    cases q with
    | nil => exact Sim.refl _
    | cons h r => have := h.T.size_pos; simp [sizesH] at hq; omega
  | succ n ih =>
    intro q hq
    cases q with
    | nil => exact Sim.refl _
    | cons h r =>
      have hlt := one_lt env tod h
      have hq' : sizesH (r ++ (oneH env tod h).2.1) ≤ n := by
        simp only [sizesH, List.map_append, List.sum_append, List.map_cons, List.sum_cons] at hq hlt ⊢
        omega
      have h1 := ih _ hq'
      rw [List.map_cons, combL_cons, den_eq]
      simp only [runQ]
      by_cases he : (oneH env tod h).1 = 0
      · simp only [he, ne_eq, not_true_eq_false, if_false]
        refine ((Sim.refl _).comb h1).trans ?_
        rw [List.map_append]
        refine ((Sim.refl _).comb ((combL_app _ _).trans (comb_comm _ _))).trans ?_
        exact (comb_assoc _ _ _).symm
      · simp only [he, ne_eq, not_false_eq_true, if_true]
        exact ⟨by rw [comb_fst]; simp [he], fun h0 => absurd h0 he⟩
end Go.Proofs.YtkjabiabeemfhaaGreatDoor
end
section
namespace Go.Proofs.YtkjabiabeemfhaaGreatDoor
open Go.RowKit
set_option maxRecDepth 100000
theorem one_code {ts : List Nd} {T : Tm} {env : Env} {tod : Int} (hG : Good ts T) (hok : ∀ x ∈ ts, x.ok) (hE : EnvOk env) {h : Hd} (hh : HdOk ts h) : (oneH env tod h).1 = 0 ∨ (oneH env tod h).1 = 11 := by
  obtain ⟨⟨x, l⟩, pl, day, n, d⟩ := h
  obtain ⟨hT, hs, hm, h0, h1, hv⟩ := hh
  simp only at hT hs hm h0 h1 hv
  obtain ⟨r1, -, -, r4⟩ := hT.root
  unfold oneH
  split
  · exact .inl rfl
  show (stepT env tod x l pl day n d).1 = 0 ∨ (stepT env tod x l pl day n d).1 = 11
  unfold stepT
  by_cases h10 : x.op = 10
  · rw [if_pos h10]; exact .inl rfl
  rw [if_neg h10]
  by_cases h11 : x.op = 11
  · rw [if_pos h11]; exact .inl rfl
  rw [if_neg h11]
  by_cases h12 : x.op = 12
  · rw [if_pos h12]; exact .inl rfl
  rw [if_neg h12]
  by_cases h13 : x.op = 13
  · rw [if_pos h13]
    have hl : l.length = 2 := by rw [r4, h13]; decide
    obtain ⟨k1, k2, k3⟩ := kid_num hG hok hT hs (i := 0) (by omega) (by rw [h13]; decide)
    have hr := valT_res (hE.get day) k2
    have e : numT env day l 0 = valT (env.get day) l[0] := by unfold numT; rw [List.getElem?_eq_getElem (by omega)]
    unfold scaleT
    rw [e]
    split
    · exact hr.code
    split
    · exact .inl rfl
    rename_i v hv2
    split
    · rename_i h3
      have hv3 := hr.val v hv2
      have := fitQ_code (N := n * v.1) (D := d * v.2) (Int.mul_pos hv.d0 hv3.d0)
      exact this
    · exact .inl rfl
  rw [if_neg h13]
  by_cases h14 : x.op = 14
  · rw [if_pos h14]; exact .inl rfl
  rw [if_neg h14]
  by_cases h15 : x.op = 15
  · rw [if_pos h15]
    have hl : l.length = 4 := by rw [r4, h15]; decide
    obtain ⟨k1, k2, k3⟩ := kid_num hG hok hT hs (i := 0) (by omega) (by rw [h15]; decide)
    obtain ⟨m1, m2, m3⟩ := kid_num hG hok hT hs (i := 1) (by omega) (by rw [h15]; decide)
    have e : numT env day l 0 = valT (env.get day) l[0] := by unfold numT; rw [List.getElem?_eq_getElem (by omega)]
    have e2 : numT env day l 1 = valT (env.get day) l[1] := by unfold numT; rw [List.getElem?_eq_getElem (by omega)]
    unfold condT
    rw [e, e2]
    split
    · exact (valT_res (hE.get day) k2).code
    split
    · exact (valT_res (hE.get day) m2).code
    split <;> exact .inl rfl
  rw [if_neg h15]
  by_cases h16 : x.op = 16
  · rw [if_pos h16]; split <;> exact .inl rfl
  rw [if_neg h16]
  by_cases h17 : x.op = 17
  · rw [if_pos h17]; split <;> exact .inl rfl
  rw [if_neg h17]
  exact .inl rfl
end Go.Proofs.YtkjabiabeemfhaaGreatDoor
end
section
namespace Go.Proofs.YtkjabiabeemfhaaGreatDoor
open Go.RowKit Go.Sort
section
variable {α : Type} {cf : α → α → Int}
def StrictL (cf : α → α → Int) (l : List α) : Prop := l.Pairwise (fun x y => ltOf cf x y = true)
theorem strict_unique (hO : SWO (ltOf cf)) {l m : List α} (hl : StrictL cf l) (hm : StrictL cf m) (h : ∀ x, x ∈ l ↔ x ∈ m) : l = m := by
  have nd : ∀ {l : List α}, StrictL cf l → l.Nodup := fun h => List.Pairwise.imp (fun {a b} hab e => by subst e; rw [hO.irrefl] at hab; cases hab) h
  have hp : l.Perm m := (List.perm_ext_iff_of_nodup (nd hl) (nd hm)).2 h
  exact List.Perm.eq_of_pairwise (fun a b _ _ h1 h2 => by have := hO.trans a b a h1 h2; rw [hO.irrefl] at this; cases this) hl hm hp
theorem cmpL_mem [DecidableEq α] : ∀ (l : List α) (x : α), x ∈ cmpL l ↔ x ∈ l
  | [], _ => Iff.rfl
  | [_], _ => Iff.rfl
  | a :: b :: r, x => by
    have ih := cmpL_mem (b :: r) x
    unfold cmpL
    split
    · rename_i h; subst h; rw [ih]; simp
    · rw [List.mem_cons, ih, List.mem_cons (a := x) (b := a)]
theorem cmpL_strict [DecidableEq α] (hO : SWO (ltOf cf)) (hT : ∀ x y, (ltOf cf) x y = false → (ltOf cf) y x = false → x = y) : ∀ {l : List α}, l.Pairwise (fun x y => ltOf cf y x = false) → StrictL cf (cmpL l)
  | [], _ => List.Pairwise.nil
  | [_], _ => List.pairwise_singleton _ _
  | a :: b :: r, h => by
    obtain ⟨h1, h2⟩ := List.pairwise_cons.1 h
    have ih := cmpL_strict hO hT h2
    unfold cmpL
    split
    · exact ih
    · rename_i hne
      refine List.pairwise_cons.2 ⟨fun y hy => ?_, ih⟩
      rw [cmpL_mem] at hy
      have hya := h1 y hy
      cases e : ltOf cf a y with
      | true => rfl
      | false =>
        have hay := hT _ _ e hya
        subst hay
        have hba := h1 b List.mem_cons_self
        rcases List.mem_cons.1 hy with rfl | hy
        · exact absurd rfl hne
        · have hab := (List.pairwise_cons.1 h2).1 a hy
          exact absurd (hT _ _ hab hba) hne
end
section
variable {α : Type} [DecidableEq α]
end
theorem waitL_strict (l : List Wt) : StrictL ordW (waitL l) := cmpL_strict swoW totW (sortL_sorted swoW totW l)
theorem waitL_mem (l : List Wt) (x : Wt) : x ∈ waitL l ↔ x ∈ l := by unfold waitL; rw [cmpL_mem]; exact (sortL_perm ordW l).mem_iff
theorem waitL_of {l m : List Wt} (hm : StrictL ordW m) (h : ∀ x, x ∈ m ↔ x ∈ l) : m = waitL l := strict_unique swoW hm (waitL_strict l) (fun x => by rw [h, waitL_mem])
theorem waitL_same {l m : List Wt} (h : ∀ x, x ∈ l ↔ x ∈ m) : waitL l = waitL m := waitL_of (waitL_strict l) (fun x => by rw [waitL_mem, h])
end Go.Proofs.YtkjabiabeemfhaaGreatDoor
end
section
namespace Go.Proofs.YtkjabiabeemfhaaGreatDoor
open Go.RowKit Go.Sort
theorem hd_ind {p : Hd → Prop} (h : ∀ x : Hd, (∀ y : Hd, y.T.size < x.T.size → p y) → p x) (x : Hd) : p x := by
  have key : ∀ n (x : Hd), x.T.size ≤ n → p x := by
    intro n
    induction n with
    | zero => intro x hx; have := x.T.size_pos; omega
    | succ n ih => exact fun x hx => h x (fun y hy => ih y (by omega))
  exact key _ x (Nat.le_refl _)
theorem mem_lt {env : Env} {tod : Int} {h g : Hd} (hg : g ∈ (oneH env tod h).2.1) : g.T.size < h.T.size := Nat.lt_of_le_of_lt (mem_le hg) (one_lt env tod h)
theorem combL_fst {l : List Rs} : (combL l).1 = 0 ↔ ∀ r ∈ l, r.1 = 0 := by
  induction l with
  | nil => simp [combL]
  | cons a l ih => rw [combL_cons, comb_fst, ih]; simp
theorem combL_ok {l : List Rs} (h : ∀ r ∈ l, r.1 = 0) : combL l = (0, l.flatMap (·.2.1), l.flatMap (·.2.2)) := by
  induction l with
  | nil => rfl
  | cons a l ih => rw [combL_cons, comb_ok (h a (by simp)) (combL_fst.2 (fun r hr => h r (by simp [hr]))), ih (fun r hr => h r (by simp [hr]))]; simp
theorem den_fst {env : Env} {tod : Int} {h : Hd} : (den env tod h).1 = 0 ↔ (oneH env tod h).1 = 0 ∧ ∀ g ∈ (oneH env tod h).2.1, (den env tod g).1 = 0 := by
  rw [den_eq]
  by_cases h1 : (oneH env tod h).1 = 0
  · simp only [h1, ne_eq, not_true_eq_false, if_false, true_and]
    rw [comb_fst, combL_fst]
    simp
  · simp [h1]
theorem den_ok {env : Env} {tod : Int} {h : Hd} (h0 : (den env tod h).1 = 0) :
    den env tod h = (0, (oneH env tod h).2.2.1 ++ (oneH env tod h).2.1.flatMap (fun g => (den env tod g).2.1), (oneH env tod h).2.2.2 ++ (oneH env tod h).2.1.flatMap (fun g => (den env tod g).2.2)) := by
  obtain ⟨h1, h2⟩ := den_fst.1 h0
  rw [den_eq]
  simp only [h1, ne_eq, not_true_eq_false, if_false]
  have h3 : ∀ r ∈ (oneH env tod h).2.1.map (den env tod), r.1 = 0 := by
    intro r hr
    obtain ⟨g, hg, rfl⟩ := List.mem_map.1 hr
    exact h2 g hg
  rw [comb_ok rfl (combL_fst.2 h3), combL_ok h3]
  simp [List.flatMap_map]
theorem firstD_less {cho : Int → Int → Option Int} {key a b b' : Int} (hb : b' ≤ b) : (∃ q, firstD cho key a b' = some q ∧ firstD cho key a b = some q) ∨ (firstD cho key a b' = none ∧ (firstD cho key a b = none ∨ ∃ q, firstD cho key a b = some q ∧ b' < q)) := by
  unfold firstD
  cases hf : (List.range 73049).find? (fun i : Nat => decide (a ≤ (i : Int) ∧ (i : Int) ≤ b' ∧ cho key i = some 1)) with
  | some i =>
    have h1 := List.find?_some hf
    simp only [decide_eq_true_eq] at h1
    refine .inl ⟨i, rfl, ?_⟩
    cases hg : (List.range 73049).find? (fun i : Nat => decide (a ≤ (i : Int) ∧ (i : Int) ≤ b ∧ cho key i = some 1)) with
    | none =>
      have := List.find?_eq_none.1 hg i (List.mem_of_find?_eq_some hf)
      simp only [decide_eq_true_eq] at this
      exact absurd ⟨h1.1, by omega, h1.2.2⟩ this
    | some j =>
      have h2 := List.find?_some hg
      simp only [decide_eq_true_eq] at h2
      have hji : j = i ∨ j < i := find_sorted' List.pairwise_lt_range hg i (List.mem_of_find?_eq_some hf) (by simp only [decide_eq_true_eq]; exact ⟨h1.1, by omega, h1.2.2⟩) |>.imp Eq.symm id
      have hij : i = j ∨ i < j := by
        rcases hji with e | e
        · exact .inl e.symm
        · exact find_sorted' List.pairwise_lt_range hf j (List.mem_of_find?_eq_some hg) (by simp only [decide_eq_true_eq]; exact ⟨h2.1, by omega, h2.2.2⟩) |>.imp Eq.symm id
      have : i = j := by omega
      rw [this]; rfl
  | none =>
    refine .inr ⟨rfl, ?_⟩
    cases hg : (List.range 73049).find? (fun i : Nat => decide (a ≤ (i : Int) ∧ (i : Int) ≤ b ∧ cho key i = some 1)) with
    | none => exact .inl rfl
    | some j =>
      have h2 := List.find?_some hg
      simp only [decide_eq_true_eq] at h2
      refine .inr ⟨j, rfl, ?_⟩
      have := List.find?_eq_none.1 hf j (List.mem_of_find?_eq_some hg)
      simp only [decide_eq_true_eq] at this
      apply Classical.byContradiction
      intro hc
      exact this ⟨h2.1, by omega, h2.2.2⟩
end Go.Proofs.YtkjabiabeemfhaaGreatDoor
end
section
namespace Go.Proofs.YtkjabiabeemfhaaGreatDoor
open Go.RowKit Go.Sort
theorem comb_code {a b : Rs} (ha : a.1 = 0 ∨ a.1 = 11) (hb : b.1 = 0 ∨ b.1 = 11) : (comb a b).1 = 0 ∨ (comb a b).1 = 11 := by
  unfold comb
  split
  · exact ha
  · split
    · exact hb
    · exact .inl rfl
section
variable {ts : List Nd} {T : Tm} {env : Env} {tod : Int}
theorem run_code (hG : Good ts T) (hok : ∀ x ∈ ts, x.ok) (hE : EnvOk env) : ∀ (n : Nat) (q : List Hd), (∀ h ∈ q, HdOk ts h) → (runQ env tod n q).1 = 0 ∨ (runQ env tod n q).1 = 11 := by
  intro n
  induction n with
  | zero => exact fun _ _ => .inl rfl
  | succ n ih =>
    intro q hq
    cases q with
    | nil => exact .inl rfl
    | cons h r =>
      have h1 := one_code (tod := tod) hG hok hE (hq h List.mem_cons_self)
      simp only [runQ]
      by_cases h0 : (oneH env tod h).1 = 0
      · simp only [h0, ne_eq, not_true_eq_false, if_false]
        refine comb_code (.inl rfl) (ih _ (fun g hg => ?_))
        rcases List.mem_append.1 hg with hg | hg
        · exact hq g (List.mem_cons_of_mem _ hg)
        · exact one_ok hG hok hE (hq h List.mem_cons_self) g hg
      · rw [if_pos h0]
        exact h1
end
end Go.Proofs.YtkjabiabeemfhaaGreatDoor
end
section
namespace Go.Proofs.YtkjabiabeemfhaaGreatDoor
open Go.RowKit Go.Sort
structure EnvLeD (ts : List Nd) (day : Int) (env env' : Env) : Prop where
  get : ∀ day k v, env.get day k = some v → env'.get day k = some v
  cho : ∀ k d p, env.cho k d = some p → env'.cho k d = some p
  any : ∀ x ∈ ts, x.op = 17 → ∀ d, d ≤ day → env'.cho x.a d = some 1 → env.cho x.a d = some 1
theorem EnvLeD.refl (ts : List Nd) (day : Int) (env : Env) : EnvLeD ts day env env := ⟨fun _ _ _ h => h, fun _ _ _ h => h, fun _ _ _ _ _ h => h⟩
theorem EnvLeD.less {ts : List Nd} {day day' : Int} {e e' : Env} (h : EnvLeD ts day' e e') (hd : day ≤ day') : EnvLeD ts day e e' := ⟨h.get, h.cho, fun x hx h17 d hd' e => h.any x hx h17 d (by omega) e⟩
theorem firstD_leD {cho cho' : Int → Int → Option Int} {key a b tod : Int} (h1 : ∀ d p, cho key d = some p → cho' key d = some p) (h2 : ∀ d, d ≤ tod → cho' key d = some 1 → cho key d = some 1) : firstD cho' key a (min b tod) = firstD cho key a (min b tod) := by
  unfold firstD
  congr 2
  funext i
  exact decide_eq_decide.2 ⟨fun ⟨x, y, z⟩ => ⟨x, y, h2 _ (by omega) z⟩, fun ⟨x, y, z⟩ => ⟨x, y, h1 _ _ z⟩⟩
theorem one_go {ts : List Nd} {T : Tm} {env env' : Env} {tod tod' : Int} (hG : Good ts T) (hok : ∀ x ∈ ts, x.ok) (hle : tod ≤ tod') (hL : EnvLeD ts tod env env') {h : Hd} (hh : HdOk ts h) (h0 : (oneH env tod h).1 = 0) :
    (keptH env tod h = [h] ∧ (oneH env tod h).2.1 = [] ∧ (oneH env tod h).2.2.1 = []) ∨ (keptH env tod h = [] ∧ oneH env' tod' h = oneH env tod h ∧ (oneH env tod h).2.2.2 = [] ∧ keptH env' tod' h = []) := by
  obtain ⟨⟨x, l⟩, pl, day, n, d⟩ := h
  obtain ⟨hT, hs, hm, hd0, hd1, hv⟩ := hh
  simp only at hT hs hm hd0 hd1 hv
  obtain ⟨r1, -, -, r4⟩ := hT.root
  by_cases hlt : tod < day
  · refine .inl ⟨?_, ?_, ?_⟩
    · rw [keptH_node, if_pos hlt]
    · rw [oneH_node, if_pos hlt]
    · rw [oneH_node, if_pos hlt]
  have hlt' : ¬ tod' < day := by omega
  rw [oneH_node, if_neg hlt] at h0
  rw [keptH_node, keptH_node, oneH_node, oneH_node, if_neg hlt, if_neg hlt', if_neg hlt, if_neg hlt']
  unfold stepT at h0 ⊢
  by_cases h10 : x.op = 10
  · simp [h10]
  rw [if_neg h10] at h0
  rw [if_neg h10, if_neg h10]
  by_cases h11 : x.op = 11
  · simp [h11]
  rw [if_neg h11] at h0
  rw [if_neg h11, if_neg h11]
  by_cases h12 : x.op = 12
  · simp [h12]
  rw [if_neg h12] at h0
  rw [if_neg h12, if_neg h12]
  have hnum : ∀ {i : Nat} (hi : i < l.length), numT env day l i = valT (env.get day) l[i] ∧ numT env' day l i = valT (env'.get day) l[i] ∧ askI env day l i = asksT env day l[i] := fun hi => by
    unfold numT askI; rw [List.getElem?_eq_getElem hi]; exact ⟨rfl, rfl, rfl⟩
  by_cases h13 : x.op = 13
  · rw [if_pos h13] at h0
    simp only [if_pos h13]
    have hl : l.length = 2 := by rw [r4, h13]; decide
    obtain ⟨e1, e2, e3⟩ := hnum (i := 0) (by omega)
    unfold scaleT at h0 ⊢
    rw [e1] at h0 ⊢
    rw [e2, e3]
    by_cases hz : (valT (env.get day) l[0]).1 = 0
    · simp only [hz, ne_eq, not_true_eq_false, if_false] at h0 ⊢
      cases hv2 : (valT (env.get day) l[0]).2 with
      | none => exact .inl ⟨by simp, by simp, by simp⟩
      | some v =>
        have := (valT_mono (hL.get day) l[0]).2 hz v hv2
        rw [this]
        refine .inr ⟨by simp, by simp, ?_, by simp⟩
        simp only
        split <;> rfl
    · simp [hz] at h0
  rw [if_neg h13] at h0
  simp only [if_neg h13]
  by_cases h14 : x.op = 14
  · simp [h14]
  rw [if_neg h14] at h0
  rw [if_neg h14, if_neg h14]
  by_cases h15 : x.op = 15
  · rw [if_pos h15] at h0
    simp only [if_pos h15]
    have hl : l.length = 4 := by rw [r4, h15]; decide
    obtain ⟨e1, e2, e3⟩ := hnum (i := 0) (by omega)
    obtain ⟨f1, f2, f3⟩ := hnum (i := 1) (by omega)
    unfold condT at h0 ⊢
    rw [e1, f1] at h0 ⊢
    rw [e2, e3, f2, f3]
    by_cases hz : (valT (env.get day) l[0]).1 = 0
    · simp only [hz, ne_eq, not_true_eq_false, if_false] at h0 ⊢
      by_cases hy : (valT (env.get day) l[1]).1 = 0
      · simp only [hy, ne_eq, not_true_eq_false, if_false] at h0 ⊢
        cases hv2 : (valT (env.get day) l[0]).2 with
        | none => exact .inl ⟨by simp, by simp, by simp⟩
        | some v =>
          cases hu2 : (valT (env.get day) l[1]).2 with
          | none => exact .inl ⟨by simp, by simp, by simp⟩
          | some u =>
            rw [(valT_mono (hL.get day) l[0]).2 hz v hv2, (valT_mono (hL.get day) l[1]).2 hy u hu2]
            exact .inr ⟨by simp, by simp, by simp, by simp⟩
      · simp [hy] at h0
    · simp [hz] at h0
  rw [if_neg h15] at h0
  simp only [if_neg h15]
  by_cases h16 : x.op = 16
  · simp only [if_pos h16]
    cases hc : env.cho x.a day with
    | none => exact .inl ⟨by simp, by simp, by simp⟩
    | some p => rw [hL.cho _ _ _ hc]; exact .inr ⟨by simp, by simp, by simp, by simp⟩
  simp only [if_neg h16]
  by_cases h17 : x.op = 17
  · simp only [if_pos h17]
    have hf := firstD_leD (key := x.a) (a := day) (b := x.b) (tod := tod) (hL.cho x.a) (hL.any x (List.mem_of_getElem? r1) h17)
    obtain ⟨g, hc⟩ : ∃ g, firstD env.cho x.a day (min x.b tod) = g := ⟨_, rfl⟩
    rw [hc]
    rw [hc] at hf
    cases g with
    | some q =>
      rcases firstD_less (cho := env'.cho) (key := x.a) (a := day) (b := min x.b tod') (b' := min x.b tod) (by omega) with ⟨q', a1, a2⟩ | ⟨a1, -⟩
      · rw [hf] at a1
        cases a1
        rw [a2]
        exact .inr ⟨by simp, by simp, by simp, by simp⟩
      · rw [hf] at a1; cases a1
    | none =>
      by_cases hb : day ≤ x.b
      · exact .inl ⟨by simp [hb], by simp, by simp⟩
      · obtain ⟨g', hc'⟩ : ∃ g, firstD env'.cho x.a day (min x.b tod') = g := ⟨_, rfl⟩
        rw [hc']
        cases g' with
        | none => exact .inr ⟨by simp [hb], by simp, by simp, by simp [hb]⟩
        | some q => have := firstD_range hc'; omega
  simp only [if_neg h17]
  exact .inr ⟨by simp, by simp, by simp, by simp⟩
def keptF (env : Env) (tod : Int) : Nat → Hd → List Hd
  | 0, _ => []
  | n + 1, h => keptH env tod h ++ (oneH env tod h).2.1.flatMap (keptF env tod n)
def keptD (env : Env) (tod : Int) (h : Hd) : List Hd := keptF env tod h.T.size h
theorem keptF_enough (env : Env) (tod : Int) : ∀ (n : Nat) (h : Hd), h.T.size ≤ n → keptF env tod n h = keptD env tod h := by
  have key : ∀ (n m : Nat) (h : Hd), h.T.size ≤ n → h.T.size ≤ m → keptF env tod n h = keptF env tod m h := by
    intro n
    induction n with
    | zero => intro m h hn _; have := h.T.size_pos; omega
    | succ n ih =>
      intro m h hn hm
      cases m with
      | zero => have := h.T.size_pos; omega
      | succ m =>
        have hlt := one_lt env tod h
        have : (oneH env tod h).2.1.map (keptF env tod n) = (oneH env tod h).2.1.map (keptF env tod m) := List.map_congr_left (fun k hk => by
          have := mem_le hk
          exact ih m k (by omega) (by omega))
        simp only [keptF, List.flatMap_def, this]
  intro n h hn
  exact key n _ h hn (Nat.le_refl _)
theorem keptD_eq (env : Env) (tod : Int) (h : Hd) : keptD env tod h = keptH env tod h ++ (oneH env tod h).2.1.flatMap (keptD env tod) := by
  obtain ⟨n, hn⟩ : ∃ n, h.T.size = n + 1 := ⟨h.T.size - 1, by have := h.T.size_pos; omega⟩
  have hlt := one_lt env tod h
  have : (oneH env tod h).2.1.map (keptF env tod n) = (oneH env tod h).2.1.map (keptD env tod) := List.map_congr_left (fun k hk => by
    have := mem_le hk
    exact keptF_enough env tod n k (by omega))
  conv => lhs; unfold keptD; rw [hn]
  simp only [keptF, List.flatMap_def, this]
theorem kept_den (env : Env) (tod : Int) : ∀ (n : Nat) (q : List Hd), sizesH q ≤ n → (keptQ env tod n q).Perm (q.flatMap (keptD env tod)) := by
  intro n
  induction n with
  | zero =>
    intro q hq
    cases q with
    | nil => exact .refl _
    | cons h r => have := h.T.size_pos; simp [sizesH] at hq; omega
  | succ n ih =>
    intro q hq
    cases q with
    | nil => exact .refl _
    | cons h r =>
      have hlt := one_lt env tod h
      have hq' : sizesH (r ++ (oneH env tod h).2.1) ≤ n := by
        simp only [sizesH, List.map_append, List.sum_append, List.map_cons, List.sum_cons] at hq hlt ⊢
        omega
      show (keptH env tod h ++ keptQ env tod n (r ++ (oneH env tod h).2.1)).Perm _
      rw [List.flatMap_cons, keptD_eq]
      refine ((ih _ hq').append_left _).trans ?_
      rw [List.flatMap_append, List.append_assoc]
      exact List.perm_append_comm.append_left _
theorem comb_one (a : Rs) : Sim (comb a (0, [], [])) a := (comb_comm _ _).trans (comb_nil a)
theorem comb_mix (a b c d : Rs) : Sim (comb (comb a b) (comb c d)) (comb (comb a c) (comb b d)) :=
  (comb_assoc a b _).trans (((Sim.refl a).comb ((comb_assoc b c d).symm.trans (((comb_comm b c).comb (Sim.refl d)).trans (comb_assoc c b d)))).trans (comb_assoc a c _).symm)
theorem comb_flows (x y : List Fl) : comb (0, x, []) (0, y, []) = (0, x ++ y, []) := comb_ok rfl rfl
theorem combL_split {D : Hd → Rs} {f : Hd → List Fl} {K : Hd → List Hd} : ∀ l : List Hd, (∀ g ∈ l, Sim (D g) (comb (0, f g, []) (combL ((K g).map D)))) → Sim (combL (l.map D)) (comb (0, l.flatMap f, []) (combL ((l.flatMap K).map D)))
  | [], _ => by
    rw [List.map_nil, List.flatMap_nil, List.flatMap_nil, List.map_nil]
    exact (comb_nil _).symm
  | g :: l, h => by
    rw [List.map_cons, combL_cons, List.flatMap_cons, List.flatMap_cons, List.map_append, ← comb_flows]
    refine ((h g List.mem_cons_self).comb (combL_split l (fun x hx => h x (List.mem_cons_of_mem _ hx)))).trans ?_
    exact (comb_mix _ _ _ _).trans ((Sim.refl _).comb (combL_app _ _).symm)
theorem go_den {ts : List Nd} {T : Tm} {env env' : Env} {tod tod' : Int} (hG : Good ts T) (hok : ∀ x ∈ ts, x.ok) (hE : EnvOk env) (hle : tod ≤ tod') (hL : EnvLeD ts tod env env') : ∀ h : Hd, HdOk ts h → (den env tod h).1 = 0 →
    Sim (den env' tod' h) (comb (0, (den env tod h).2.1, []) (combL ((keptD env tod h).map (den env' tod')))) ∧ keptD env' tod' h = (keptD env tod h).flatMap (keptD env' tod') := by
  refine hd_ind (fun h ih hh h0 => ?_)
  obtain ⟨h1, h2⟩ := den_fst.1 h0
  rcases one_go hG hok hle hL hh h1 with ⟨k1, k2, k3⟩ | ⟨k1, k2, k3, k4⟩
  · have e1 : keptD env tod h = [h] := by rw [keptD_eq, k1, k2]; rfl
    have e2 : (den env tod h).2.1 = [] := by rw [den_ok h0, k2, k3]; rfl
    rw [e1, e2]
    refine ⟨?_, by simp⟩
    rw [List.map_cons, List.map_nil, combL_cons]
    exact ((comb_nil _).trans (comb_one _)).symm
  · have hkid := fun g hg => ih g (mem_lt hg) (one_ok hG hok hE hh g hg) (h2 g hg)
    have e1 : keptD env tod h = (oneH env tod h).2.1.flatMap (keptD env tod) := by rw [keptD_eq, k1]; rfl
    have e2 : keptD env' tod' h = (oneH env tod h).2.1.flatMap (keptD env' tod') := by rw [keptD_eq, k4, k2]; rfl
    have e3 : (den env tod h).2.1 = (oneH env tod h).2.2.1 ++ (oneH env tod h).2.1.flatMap (fun g => (den env tod g).2.1) := by rw [den_ok h0]
    have e4 : den env' tod' h = comb (0, (oneH env tod h).2.2.1, []) (combL ((oneH env tod h).2.1.map (den env' tod'))) := by
      rw [den_eq, k2, if_neg (by rw [h1]; simp), k3]
    refine ⟨?_, ?_⟩
    · rw [e1, e3, e4, ← comb_flows]
      exact ((Sim.refl _).comb (combL_split (f := fun g => (den env tod g).2.1) (K := keptD env tod) _ (fun g hg => (hkid g hg).1))).trans (comb_assoc _ _ _).symm
    · rw [e1, e2, List.flatMap_assoc]
      simp only [List.flatMap_def]
      congr 1
      exact List.map_congr_left (fun g hg => by rw [(hkid g hg).2, List.flatMap_def])
end Go.Proofs.YtkjabiabeemfhaaGreatDoor
end
section
namespace Go.Proofs.YtkjabiabeemfhaaGreatDoor
open Go.RowKit Go.Sort
theorem combL_perm {l m : List Rs} (h : l.Perm m) : Sim (combL l) (combL m) := by
  induction h with
  | nil => exact Sim.refl _
  | cons a _ ih => rw [combL_cons, combL_cons]; exact (Sim.refl a).comb ih
  | swap a b l =>
    rw [combL_cons, combL_cons, combL_cons, combL_cons]
    exact (comb_assoc b a _).symm.trans (((comb_comm b a).comb (Sim.refl _)).trans (comb_assoc a b _))
  | trans _ _ i1 i2 => exact i1.trans i2
theorem sim_flows {F G : List Fl} (h : F.Perm G) : Sim (0, F, []) (0, G, []) := ⟨Iff.rfl, fun _ => ⟨h, .refl _⟩⟩
def Comes (ts : List Nd) (env : Env) (h0 : Hd) (F : List Fl) (s : RunS) : Prop :=
  ∀ env' tod', EnvLeD ts s.day env env' → s.day ≤ tod' → Sim (den env' tod' h0) (comb (0, F, []) (combL (s.L.map (den env' tod'))))
theorem comes_new (ts : List Nd) (env : Env) (T : Tm) (day : Int) : Comes ts env ⟨T, 0, day, 1, 1⟩ [] (newR T day) := by
  intro env' tod' _ _
  show Sim _ (comb (0, [], []) (combL [den env' tod' ⟨T, 0, day, 1, 1⟩]))
  rw [combL_cons]
  exact ((comb_nil _).trans (comb_one _)).symm
theorem go_comes {ts : List Nd} {T : Tm} {env : Env} (hG : Good ts T) (hok : ∀ x ∈ ts, x.ok) (hE : EnvOk env) {s : RunS} (hs : RunOk ts s) {h0 : Hd} {F : List Fl} (hC : Comes ts env h0 F s) {tod : Int} (h : ¬ (tod < s.day ∨ 73048 < tod)) (h1 : (runQ env tod (sizesH s.L) s.L).1 = 0) :
    (den env tod h0).1 = 0 ∧ sortL ordF (den env tod h0).2.1 = sortL ordF (F ++ (goR env s tod).2.1) ∧ waitL (den env tod h0).2.2 = (goR env s tod).2.2.W ∧ Comes ts env h0 (F ++ (goR env s tod).2.1) (goR env s tod).2.2 := by
  have hr := run_den env tod (sizesH s.L) s.L (Nat.le_refl _)
  have hz := hr.1.1 h1
  obtain ⟨p1, p2⟩ := hr.2 h1
  have hd := hC env tod (EnvLeD.refl _ _ _) (by omega)
  have hd0 : (den env tod h0).1 = 0 := hd.1.2 (comb_fst.2 ⟨rfl, hz⟩)
  obtain ⟨q1, q2⟩ := hd.2 hd0
  rw [comb_ok rfl hz] at q1 q2
  rw [goR_done h h1]
  have hkid := combL_fst.1 hz
  rw [combL_ok hkid] at p1 p2 q1 q2
  simp only [List.nil_append] at q2
  have hF : (F ++ sortL ordF (runQ env tod (sizesH s.L) s.L).2.1).Perm (F ++ (s.L.map (den env tod)).flatMap (·.2.1)) := ((sortL_perm _ _).trans p1).append_left F
  refine ⟨hd0, ?_, ?_, ?_⟩
  · exact sort_same swoF totF (q1.trans hF.symm)
  · exact waitL_same (fun x => ((q2.trans p2.symm).mem_iff))
  · intro env' tod' hL ht
    have ht' : tod ≤ tod' := ht
    have hL' : EnvLeD ts tod env env' := hL
    refine (hC env' tod' (hL'.less (by omega)) (by omega)).trans ?_
    have hsp := combL_split (D := den env' tod') (f := fun g => (den env tod g).2.1) (K := keptD env tod) s.L (fun g hg => (go_den hG hok hE ht' hL' g (hs.held g hg) (hkid _ (List.mem_map_of_mem hg))).1)
    refine ((Sim.refl _).comb hsp).trans ((comb_assoc _ _ _).symm.trans ?_)
    rw [comb_flows]
    refine (sim_flows ?_).comb (combL_perm ((kept_den env tod _ _ (Nat.le_refl _)).symm.map _))
    rw [show s.L.flatMap (fun g => (den env tod g).2.1) = (s.L.map (den env tod)).flatMap (·.2.1) by rw [List.flatMap_map]]
    exact hF.symm
def Holds (env : Env) (h0 : Hd) (s : RunS) : Prop := ∀ tod', s.day ≤ tod' → (s.L.flatMap (keptD env tod')).Perm (keptD env tod' h0)
theorem holds_new (env : Env) (T : Tm) (day : Int) : Holds env ⟨T, 0, day, 1, 1⟩ (newR T day) := fun tod' _ => by simp [newR]
theorem go_holds {ts : List Nd} {T : Tm} {env : Env} (hG : Good ts T) (hok : ∀ x ∈ ts, x.ok) (hE : EnvOk env) {s : RunS} (hs : RunOk ts s) {h0 : Hd} (hH : Holds env h0 s) {tod : Int} (h : ¬ (tod < s.day ∨ 73048 < tod)) (h1 : (runQ env tod (sizesH s.L) s.L).1 = 0) :
    Holds env h0 (goR env s tod).2.2 ∧ (goR env s tod).2.2.L.Perm (keptD env tod h0) := by
  have hr := run_den env tod (sizesH s.L) s.L (Nat.le_refl _)
  have hkid := combL_fst.1 (hr.1.1 h1)
  rw [goR_done h h1]
  have hk := kept_den env tod (sizesH s.L) s.L (Nat.le_refl _)
  refine ⟨fun tod' ht => ?_, hk.trans (hH tod (by omega))⟩
  have ht' : tod ≤ tod' := ht
  refine (hk.flatMap_right _).trans (List.Perm.trans ?_ (hH tod' (by omega)))
  rw [List.flatMap_assoc]
  have : (s.L.flatMap fun x => (keptD env tod x).flatMap (keptD env tod')) = s.L.flatMap (keptD env tod') := by
    simp only [List.flatMap_def]
    congr 1
    refine List.map_congr_left (fun g hg => ?_)
    have := (go_den hG hok hE ht' (EnvLeD.refl ts tod env) g (hs.held g hg) (hkid _ (List.mem_map_of_mem hg))).2
    rw [List.flatMap_def] at this
    exact this.symm
  rw [this]
end Go.Proofs.YtkjabiabeemfhaaGreatDoor
end
section
namespace Go.Proofs.YtkjabiabeemfhaaGreatDoor
open Go.RowKit Go.Sort
theorem fcOk_all (l : List Td) (hok : ∀ x ∈ l, x.ok) : ∀ (s : FxL × ChL) (n : Nat), FcOk s n → FcOk (l.foldl tellS s) (n + l.length) := by
  induction l with
  | nil => exact fun _ _ h => h
  | cons x r ih =>
    intro s n h
    have := ih (fun y hy => hok y (List.mem_cons_of_mem _ hy)) (tellS s x) (n + 1) (h.tell (hok x List.mem_cons_self))
    rwa [show n + (x :: r).length = n + 1 + r.length by simp; omega]
theorem tells_made (l : List Td) : ∀ s : FxL × ChL, l.foldl tellS s = (l.foldl tellFx s.1, l.foldl tellCh s.2) := by
  induction l with
  | nil => exact fun _ => rfl
  | cons x r ih => exact fun s => ih _
theorem fcOk_made (l : List Td) (hok : ∀ x ∈ l, x.ok) : FcOk (madeFx l, madeCh l) l.length := by
  have := fcOk_all l hok ([], []) 0 fcOk_nil
  rw [tells_made, Nat.zero_add] at this
  exact this
section
variable {s : FxL × ChL} {n : Nat} {x : Td}
end
end Go.Proofs.YtkjabiabeemfhaaGreatDoor
end
section
namespace Go.Proofs.YtkjabiabeemfhaaGreatDoor
open Go.RowKit
set_option maxRecDepth 100000
open Go.Sort
set_option maxHeartbeats 1600000 in
theorem lfew_any (ts : List Nd) (l : List Td) (v u : Value) (day tod : Int) (w : World) (hN : IsNodes w v ts) (hT : IsTolds w u l) :
    Calls Tryz.prog 16 #[.agg #[v, .int .i64 day, .int .i64 tod, u]] w fun e w' => e = .returned (.bool (decide (ts.length ≤ 100) && decide (l.length ≤ 60))) ∧ Later w w' := by
  obtain ⟨p, cp, rfl⟩ := hN.form
  obtain ⟨q, cq, rfl⟩ := hT.form
  generalize ts.length = N at *
  generalize l.length = M at *
  clear hN hT
  by_cases h1 : N ≤ 100
  · rw [decide_eq_true h1, Bool.true_and]
    have h1' : (N : Int) ≤ 100 := by omega
    by_cases h2 : M ≤ 60
    · rw [decide_eq_true h2]
      have h2' : (M : Int) ≤ 60 := by omega
      go_enter Tryz.func16, Tryz.ntmps16
      go_wp2
      go_ret
      exact ⟨rfl, by repeat (first | with_reducible exact Later.refl _ | with_reducible assumption | with_reducible refine Later.ofdrew ?_ | with_reducible refine Later.ofdrewN ?_ | with_reducible refine Later.setCell ?_ ?_ _ | with_reducible refine Later.alloc ?_ _ | with_reducible refine Later.drewN ?_ _ | with_reducible refine Later.drew ?_ | (with_reducible refine Later.trans ?_ (by assumption)) | (simp only [World.size_setCell, World.size_alloc, World.heap_drewN]; omega) | (simp; done) | (simp; omega))⟩
    · rw [decide_eq_false h2]
      have h2' : ¬ (M : Int) ≤ 60 := by omega
      go_enter Tryz.func16, Tryz.ntmps16
      go_wp2
      go_ret
      exact ⟨rfl, by repeat (first | with_reducible exact Later.refl _ | with_reducible assumption | with_reducible refine Later.ofdrew ?_ | with_reducible refine Later.ofdrewN ?_ | with_reducible refine Later.setCell ?_ ?_ _ | with_reducible refine Later.alloc ?_ _ | with_reducible refine Later.drewN ?_ _ | with_reducible refine Later.drew ?_ | (with_reducible refine Later.trans ?_ (by assumption)) | (simp only [World.size_setCell, World.size_alloc, World.heap_drewN]; omega) | (simp; done) | (simp; omega))⟩
  · rw [decide_eq_false h1, Bool.false_and]
    have h1' : ¬ (N : Int) ≤ 100 := by omega
    go_enter Tryz.func16, Tryz.ntmps16
    go_wp2
    go_ret
    exact ⟨rfl, by repeat (first | with_reducible exact Later.refl _ | with_reducible assumption | with_reducible refine Later.ofdrew ?_ | with_reducible refine Later.ofdrewN ?_ | with_reducible refine Later.setCell ?_ ?_ _ | with_reducible refine Later.alloc ?_ _ | with_reducible refine Later.drewN ?_ _ | with_reducible refine Later.drew ?_ | (with_reducible refine Later.trans ?_ (by assumption)) | (simp only [World.size_setCell, World.size_alloc, World.heap_drewN]; omega) | (simp; done) | (simp; omega))⟩
end Go.Proofs.YtkjabiabeemfhaaGreatDoor
end
section
namespace Go.Proofs.YtkjabiabeemfhaaGreatDoor
open Go.RowKit
set_option maxRecDepth 100000
def intCell (x : Int) : Nat → Value := fun _ => .int .i64 x
abbrev IsIntR (w : World) (v : Value) (l : List Int) : Prop := IsRow 1 intCell w v l
section
variable {w w' : World} {b p m1 m2 mm : Nat} {ts : List Nd} {tv lv wv : Value} {s : RunS} {fx : FxL} {ch : ChL}
end
end Go.Proofs.YtkjabiabeemfhaaGreatDoor
end
