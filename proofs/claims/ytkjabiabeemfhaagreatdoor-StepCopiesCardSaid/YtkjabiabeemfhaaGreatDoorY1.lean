/- A region that draws its order, once more: a test for nil is taken among the readers (printed by gen_regionn.py) -/
import Derived.Test.YtkjabiabeemfhaaGreatDoorW11
import Derived.Test.YtkjabiabeemfhaaGreatDoorW10
import Derived.Test.YtkjabiabeemfhaaGreatDoorW3
import Derived.Test.YtkjabiabeemfhaaGreatDoorW2
import Derived.Test.YtkjabiabeemfhaaGreatDoorRows
import Derived.Test.YtkjabiabeemfhaaGreatDoorW1
import Derived.Shelf.Small.Bits
import Derived.Shelf.Small.Wraps
import Derived.Shelf.Strconv.Itoa0
import Derived.Shelf.Bits.Mul64
import Derived.Ground.Names2Prog
import Derived.Shelf.Slices.Clone
import Derived.Shelf.Slices.SearchI
import Derived.Ground.SlgnProg
import Derived.Shelf.SlicesE.Clone
import Derived.Shelf.SlLaysF0
import Derived.Ground.SlsfProg
import Derived.Test.YtkjabiabeemfhaaGreatDoorProg
import Derived.WalkKit
import Derived.Lib.BitFns
import Derived.Lib.ItoaNum
import Derived.WalkSpells
import Derived.WalkSmall
import Derived.WalkLawsBesides
import Derived.BigQuiet
import Derived.Deep.RegionHeld3
import Derived.Deep.DeepCutAuto
import Derived.Deep.CutBlock
import Derived.Lib.Hide
import Derived.Deep.Quiet
import Derived.Below
import Derived.OrdersHeld
import Derived.Shelf.Spec.BitsCarry
import Derived.Laws.AppendOwnNone
import Derived.OwnWalk
import Derived.Great.BuildSlice
import Derived.DeepKeys4
import Derived.Maps.Own
import Derived.Test.YtkjabiabeemfhaaGreatDoorW9
import Derived.Test.YtkjabiabeemfhaaGreatDoorW8
import Derived.RangeFuncNested
import Derived.RangeFuncBound
import Derived.RangeFuncCalls
import Derived.RangeFuncLeaves
import Derived.Shelf.Abstract
import Derived.Shelf.RegionOpen
import Derived.OwnWalkIn
import Derived.TacticsInMore
import Derived.LoopNIn
import Derived.LoopIn
import Derived.Test.YtkjabiabeemfhaaGreatDoorW4
import Derived.Test.YtkjabiabeemfhaaGreatDoorW7
import Derived.Test.YtkjabiabeemfhaaGreatDoorW5
import Derived.Test.YtkjabiabeemfhaaGreatDoorW6
import Derived.Deep.LoopGhost
import Derived.WalkMore
import Derived.Lib.Strings
import Derived.Test.YtkjabiabeemfhaaGreatDoorW13
import Derived.Test.YtkjabiabeemfhaaGreatDoorW12
import Derived.Test.YtkjabiabeemfhaaGreatDoorW16
import Derived.Test.YtkjabiabeemfhaaGreatDoorW15
import Derived.Test.YtkjabiabeemfhaaGreatDoorW14
import Derived.ArgAppend
import Derived.Test.YtkjabiabeemfhaaGreatDoorW18
import Derived.Shelf.SlSortCmp.Insertion
import Derived.Laws.IdiomCopy
import Derived.Deep.Upon
import Derived.Shelf.GgSortFunc.InsertionK
import Derived.Test.YtkjabiabeemfhaaGreatDoorW29
import Derived.Test.YtkjabiabeemfhaaGreatDoorW30
import Derived.Test.YtkjabiabeemfhaaGreatDoorW19
import Derived.RangeFuncBox
import Derived.Test.YtkjabiabeemfhaaGreatDoorW17
import Derived.Test.YtkjabiabeemfhaaGreatDoorW21
import Derived.Test.YtkjabiabeemfhaaGreatDoorW20
import Derived.Shelf.SlSortCmp.NoneTotal
import Derived.Shelf.SlSortCmp.WholeK
import Derived.Laws.IdiomRangeMap
import Derived.Test.YtkjabiabeemfhaaGreatDoorW28
import Derived.Test.YtkjabiabeemfhaaGreatDoorW27
import Derived.Lib.SliceRun
set_option linter.all false
set_option linter.all false
section
/- what is told: wrong, Tell, Made, Plain -/
namespace Go.Proofs.YtkjabiabeemfhaaGreatDoor
open Go.RowKit
set_option maxRecDepth 100000

abbrev IsTolds (w : World) (v : Value) (l : List Td) : Prop := IsRow 6 Td.cell w v l
end Go.Proofs.YtkjabiabeemfhaaGreatDoor
end
section
/- what is told: Tell, Made, Plain -/
namespace Go.Proofs.YtkjabiabeemfhaaGreatDoor
open Go.RowKit
set_option maxRecDepth 100000

def madeFx (l : List Td) : FxL := l.foldl tellFx []
def madeCh (l : List Td) : ChL := l.foldl tellCh []
set_option maxHeartbeats 1600000 in
theorem made_any (l : List Td) (hlen : l.length ≤ 100000) (hok : ∀ x ∈ l, x.ok) (v : Value) (w : World) (hN : IsTolds w v l) :
    Calls Tryz.prog 15 #[v] w fun e w' => ∃ p m1 m2, e = .returned (.pointer (some ⟨p, 0, none⟩)) ∧ FactsAt w' p m1 m2 (madeFx l) (madeCh l) ∧ w.heap.size ≤ m1 ∧ w.heap.size ≤ m2 ∧ Later w w' := by
  obtain ⟨p0, cp, rfl⟩ := hN.form
  have HN := Lib.hid hN
  have HNEW := Lib.hid (fnew_any w)
  have HTL := Lib.hid (fun (j : Nat) (h : j < l.length) p m1 m2 fx ch W hF => tell_any p m1 m2 fx ch l[j] W hF (hok _ (List.getElem_mem _)))
  clear hok hN
  obtain ⟨L, hL⟩ : ∃ L, l.length = L := ⟨_, rfl⟩
  rw [hL] at HN hlen ⊢
  have HL := Lib.hid hL
  clear hL
  go_enter Tryz.func15, Tryz.ntmps15
  go_wp2_with (go_at_call 36; go_must (refine HNEW.out.mono ?_; rintro e w1 ⟨p, m1, m2, rfl, hF1, h1, h2, hb1⟩))
  have HF1 := Lib.hid hF1
  clear hF1 HNEW
  go_loopw [4] (fun s4 wr => ∃ j : Nat, j ≤ L ∧ s4 = .int .i64 j ∧ Hid (FactsAt wr p m1 m2 ((l.take j).foldl tellFx []) ((l.take j).foldl tellCh [])) ∧ Later w wr) (fun s4 _ => L - (intOf s4).toNat)
  case atStart => exact ⟨0, Nat.zero_le _, rfl, HF1, hb1⟩
  case round =>
    obtain ⟨j, hj, rfl, hF, hlat⟩ := hrel
    by_cases hlt : j < L
    · have hjl : j < l.length := by rw [HL.out]; exact hlt
      obtain ⟨b, o, cp2, hv, hb, gg⟩ := HN.out.full (i := j) hjl
      rw [HL.out] at hv
      cases hv
      have g0 := ((bcell hlat).1 _ _ hb).trans (gg 0 (by omega))
      have g1 := ((bcell hlat).1 _ _ hb).trans (gg 1 (by omega))
      have g2 := ((bcell hlat).1 _ _ hb).trans (gg 2 (by omega))
      have g3 := ((bcell hlat).1 _ _ hb).trans (gg 3 (by omega))
      have g4 := ((bcell hlat).1 _ _ hb).trans (gg 4 (by omega))
      have g5 := ((bcell hlat).1 _ _ hb).trans (gg 5 (by omega))
      have HC := Lib.hid (HTL.out j hjl p m1 m2 _ _ wr hF.out)
      have ht : l.take (j + 1) = l.take j ++ [l[j]] := List.take_succ_eq_append_getElem hjl
      have HT1 := Lib.hid (show (l.take (j + 1)).foldl tellFx [] = tellFx ((l.take j).foldl tellFx []) l[j] by rw [ht, List.foldl_append]; rfl)
      have HT2 := Lib.hid (show (l.take (j + 1)).foldl tellCh [] = tellCh ((l.take j).foldl tellCh []) l[j] by rw [ht, List.foldl_append]; rfl)
      unfold Td.val at HC
      simp only [Td.cell, Nat.add_zero] at g0 g1 g2 g3 g4 g5
      generalize (l[j]).c = x0 at g0 HC
      generalize (l[j]).k = x1 at g1 HC
      generalize (l[j]).d = x2 at g2 HC
      generalize (l[j]).n = x3 at g3 HC
      generalize (l[j]).m = x4 at g4 HC
      generalize (l[j]).p = x5 at g5 HC
      clear gg ht hF HTL
      go_wp2_with (go_at_call 26; go_must (refine HC.out.mono ?_; rintro e w3 ⟨rfl, hF3, mm, hmm, hg3⟩))
      go_roundw
      case rel => exact ⟨j + 1, by omega, by go_num, Lib.hid (by rw [HT1.out, HT2.out]; exact hF3), Later.grown hlat hg3 (fun k e => by cases e; rcases hmm with rfl | rfl <;> assumption)⟩
      case measure => simp [intOf]; omega
    · have hfin : l.take j = l := List.take_of_length_le (by rw [HL.out]; omega)
      have hFF := hF.out
      rw [hfin] at hFF
      have HFF := Lib.hid hFF
      clear hF hFF hfin
      go_wp2
      go_ret
      exact ⟨p, m1, m2, rfl, HFF.out, h1, h2, hlat⟩

end Go.Proofs.YtkjabiabeemfhaaGreatDoor
end
section
/- what is known stays: the plain laws -/
namespace Go.Proofs.YtkjabiabeemfhaaGreatDoor
open Go.RowKit
set_option maxRecDepth 100000

theorem valT_mono {get get' : Int → Option Q2} (hm : ∀ k v, get k = some v → get' k = some v) : ∀ (T : Tm), ((valT get T).1 ≠ 0 → (valT get' T).1 ≠ 0) ∧ ((valT get T).1 = 0 → ∀ q, (valT get T).2 = some q → valT get' T = (0, some q)) := by
  intro T
  induction T using Tm.ind with
  | h x l ih =>
    rw [valT_node, valT_node]
    unfold nodeV
    by_cases h1 : x.op = 1
    · rw [if_pos h1, if_pos h1]; exact ⟨fun h => absurd rfl h, fun _ q hq => by cases hq; rfl⟩
    rw [if_neg h1, if_neg h1]
    by_cases h2 : x.op = 2
    · rw [if_pos h2, if_pos h2]; exact ⟨fun h => absurd rfl h, fun _ q hq => by rw [hm _ _ hq]⟩
    rw [if_neg h2, if_neg h2]
    cases hr : (l.map (valT get)).find? (fun r => decide (r.1 ≠ 0)) with
    | some r =>
      have h3 : r.1 ≠ 0 := by have := List.find?_some hr; simpa using this
      have hmem := List.mem_of_find?_eq_some hr
      obtain ⟨t, ht, rfl⟩ := List.mem_map.1 hmem
      have h4 := (ih t ht).1 h3
      cases hr' : (l.map (valT get')).find? (fun r => decide (r.1 ≠ 0)) with
      | some r' => 
        have h5 : r'.1 ≠ 0 := by have := List.find?_some hr'; simpa using this
        exact ⟨fun _ => h5, fun h => absurd h h3⟩
      | none =>
        have h5 := List.find?_eq_none.1 hr' _ (List.mem_map.2 ⟨t, ht, rfl⟩)
        exact absurd h4 (by simpa using h5)
    | none =>
      have h3 : ∀ t ∈ l, (valT get t).1 = 0 := fun t ht => by have := List.find?_eq_none.1 hr _ (List.mem_map.2 ⟨t, ht, rfl⟩); simpa using this
      simp only
      by_cases hall : ((l.map (valT get)).all fun r => r.2.isSome) = true
      · have hsame : l.map (valT get') = l.map (valT get) := by
          refine List.map_congr_left (fun t ht => ?_)
          have h4 := List.all_eq_true.1 hall _ (List.mem_map.2 ⟨t, ht, rfl⟩)
          obtain ⟨q, hq⟩ := Option.isSome_iff_exists.1 h4
          rw [(ih t ht).2 (h3 t ht) q hq]
          exact Prod.ext (h3 t ht).symm hq.symm
        rw [hsame, hr]
        simp only
        rw [if_pos hall]
        exact ⟨fun h => h, fun h q hq => Prod.ext h hq⟩
      · rw [if_neg hall]
        exact ⟨fun h => absurd rfl h, fun _ q hq => by cases hq⟩
/-! More is told, of no key and day anew. -/
end Go.Proofs.YtkjabiabeemfhaaGreatDoor
end
section
/- denote: flows up to a day, less than nought, and by more facts (plain) -/
namespace Go.Proofs.YtkjabiabeemfhaaGreatDoor
open Go.RowKit Go.Sort

/-- Up to an earlier day. -/
theorem firstD_less {cho : Int → Int → Option Int} {key a b b' : Int} (hb : b' ≤ b) : (∃ q, firstD cho key a b' = some q ∧ firstD cho key a b = some q) ∨ (firstD cho key a b' = none ∧ (firstD cho key a b = none ∨ ∃ q, firstD cho key a b = some q ∧ b' < q)) := by
  unfold firstD
  cases hf : (List.range 73049).find? (fun i : Nat => decide (a ≤ (i : Int) ∧ (i : Int) ≤ b' ∧ cho key i = some 1)) with
  | some i =>
    have h1 := List.find?_some hf
    simp only [decide_eq_true_eq] at h1
    refine .inl ⟨i, rfl, ?_⟩
    cases hg : (List.range 73049).find? (fun i : Nat => decide (a ≤ (i : Int) ∧ (i : Int) ≤ b ∧ cho key i = some 1)) with
    | none =>
      have := List.find?_eq_none.1 hg i (List.mem_of_find?_eq_some hf)
      simp only [decide_eq_true_eq] at this
      exact absurd ⟨h1.1, by omega, h1.2.2⟩ this
    | some j =>
      have h2 := List.find?_some hg
      simp only [decide_eq_true_eq] at h2
      have hji : j = i ∨ j < i := find_sorted' List.pairwise_lt_range hg i (List.mem_of_find?_eq_some hf) (by simp only [decide_eq_true_eq]; exact ⟨h1.1, by omega, h1.2.2⟩) |>.imp Eq.symm id
      have hij : i = j ∨ i < j := by
        rcases hji with e | e
        · exact .inl e.symm
        · exact find_sorted' List.pairwise_lt_range hf j (List.mem_of_find?_eq_some hg) (by simp only [decide_eq_true_eq]; exact ⟨h2.1, by omega, h2.2.2⟩) |>.imp Eq.symm id
      have : i = j := by omega
      rw [this]; rfl
  | none =>
    refine .inr ⟨rfl, ?_⟩
    cases hg : (List.range 73049).find? (fun i : Nat => decide (a ≤ (i : Int) ∧ (i : Int) ≤ b ∧ cho key i = some 1)) with
    | none => exact .inl rfl
    | some j =>
      have h2 := List.find?_some hg
      simp only [decide_eq_true_eq] at h2
      refine .inr ⟨j, rfl, ?_⟩
      have := List.find?_eq_none.1 hf j (List.mem_of_find?_eq_some hg)
      simp only [decide_eq_true_eq] at this
      apply Classical.byContradiction
      intro hc
      exact this ⟨h2.1, by omega, h2.2.2⟩
end Go.Proofs.YtkjabiabeemfhaaGreatDoor
end
section
/- step: what is held on, and how it goes on (plain) -/
namespace Go.Proofs.YtkjabiabeemfhaaGreatDoor
open Go.RowKit Go.Sort

/-- More is known; of the first days of an Any nothing more up to a day. -/
structure EnvLeD (ts : List Nd) (day : Int) (env env' : Env) : Prop where
  get : ∀ day k v, env.get day k = some v → env'.get day k = some v
  cho : ∀ k d p, env.cho k d = some p → env'.cho k d = some p
  any : ∀ x ∈ ts, x.op = 17 → ∀ d, d ≤ day → env'.cho x.a d = some 1 → env.cho x.a d = some 1
theorem EnvLeD.refl (ts : List Nd) (day : Int) (env : Env) : EnvLeD ts day env env := ⟨fun _ _ _ h => h, fun _ _ _ h => h, fun _ _ _ _ _ h => h⟩
theorem firstD_leD {cho cho' : Int → Int → Option Int} {key a b tod : Int} (h1 : ∀ d p, cho key d = some p → cho' key d = some p) (h2 : ∀ d, d ≤ tod → cho' key d = some 1 → cho key d = some 1) : firstD cho' key a (min b tod) = firstD cho key a (min b tod) := by
  unfold firstD
  congr 2
  funext i
  exact decide_eq_decide.2 ⟨fun ⟨x, y, z⟩ => ⟨x, y, h2 _ (by omega) z⟩, fun ⟨x, y, z⟩ => ⟨x, y, h1 _ _ z⟩⟩
theorem one_go {ts : List Nd} {T : Tm} {env env' : Env} {tod tod' : Int} (hG : Good ts T) (hok : ∀ x ∈ ts, x.ok) (hle : tod ≤ tod') (hL : EnvLeD ts tod env env') {h : Hd} (hh : HdOk ts h) (h0 : (oneH env tod h).1 = 0) :
    (keptH env tod h = [h] ∧ (oneH env tod h).2.1 = [] ∧ (oneH env tod h).2.2.1 = []) ∨ (keptH env tod h = [] ∧ oneH env' tod' h = oneH env tod h ∧ (oneH env tod h).2.2.2 = [] ∧ keptH env' tod' h = []) := by
  obtain ⟨⟨x, l⟩, pl, day, n, d⟩ := h
  obtain ⟨hT, hs, hm, hd0, hd1, hv⟩ := hh
  simp only at hT hs hm hd0 hd1 hv
  obtain ⟨r1, -, -, r4⟩ := hT.root
  by_cases hlt : tod < day
  · refine .inl ⟨?_, ?_, ?_⟩
    · rw [keptH_node, if_pos hlt]
    · rw [oneH_node, if_pos hlt]
    · rw [oneH_node, if_pos hlt]
  have hlt' : ¬ tod' < day := by omega
  rw [oneH_node, if_neg hlt] at h0
  rw [keptH_node, keptH_node, oneH_node, oneH_node, if_neg hlt, if_neg hlt', if_neg hlt, if_neg hlt']
  unfold stepT at h0 ⊢
  by_cases h10 : x.op = 10
  · simp [h10]
  rw [if_neg h10] at h0
  rw [if_neg h10, if_neg h10]
  by_cases h11 : x.op = 11
  · simp [h11]
  rw [if_neg h11] at h0
  rw [if_neg h11, if_neg h11]
  by_cases h12 : x.op = 12
  · simp [h12]
  rw [if_neg h12] at h0
  rw [if_neg h12, if_neg h12]
  have hnum : ∀ {i : Nat} (hi : i < l.length), numT env day l i = valT (env.get day) l[i] ∧ numT env' day l i = valT (env'.get day) l[i] ∧ askI env day l i = asksT env day l[i] := fun hi => by
    unfold numT askI; rw [List.getElem?_eq_getElem hi]; exact ⟨rfl, rfl, rfl⟩
  by_cases h13 : x.op = 13
  · rw [if_pos h13] at h0
    simp only [if_pos h13]
    have hl : l.length = 2 := by rw [r4, h13]; decide
    obtain ⟨e1, e2, e3⟩ := hnum (i := 0) (by omega)
    unfold scaleT at h0 ⊢
    rw [e1] at h0 ⊢
    rw [e2, e3]
    by_cases hz : (valT (env.get day) l[0]).1 = 0
    · simp only [hz, ne_eq, not_true_eq_false, if_false] at h0 ⊢
      cases hv2 : (valT (env.get day) l[0]).2 with
      | none => exact .inl ⟨by simp, by simp, by simp⟩
      | some v =>
        have := (valT_mono (hL.get day) l[0]).2 hz v hv2
        rw [this]
        refine .inr ⟨by simp, by simp, ?_, by simp⟩
        simp only
        split <;> rfl
    · simp [hz] at h0
  rw [if_neg h13] at h0
  simp only [if_neg h13]
  by_cases h14 : x.op = 14
  · simp [h14]
  rw [if_neg h14] at h0
  rw [if_neg h14, if_neg h14]
  by_cases h15 : x.op = 15
  · rw [if_pos h15] at h0
    simp only [if_pos h15]
    have hl : l.length = 4 := by rw [r4, h15]; decide
    obtain ⟨e1, e2, e3⟩ := hnum (i := 0) (by omega)
    obtain ⟨f1, f2, f3⟩ := hnum (i := 1) (by omega)
    unfold condT at h0 ⊢
    rw [e1, f1] at h0 ⊢
    rw [e2, e3, f2, f3]
    by_cases hz : (valT (env.get day) l[0]).1 = 0
    · simp only [hz, ne_eq, not_true_eq_false, if_false] at h0 ⊢
      by_cases hy : (valT (env.get day) l[1]).1 = 0
      · simp only [hy, ne_eq, not_true_eq_false, if_false] at h0 ⊢
        cases hv2 : (valT (env.get day) l[0]).2 with
        | none => exact .inl ⟨by simp, by simp, by simp⟩
        | some v =>
          cases hu2 : (valT (env.get day) l[1]).2 with
          | none => exact .inl ⟨by simp, by simp, by simp⟩
          | some u =>
            rw [(valT_mono (hL.get day) l[0]).2 hz v hv2, (valT_mono (hL.get day) l[1]).2 hy u hu2]
            exact .inr ⟨by simp, by simp, by simp, by simp⟩
      · simp [hy] at h0
    · simp [hz] at h0
  rw [if_neg h15] at h0
  simp only [if_neg h15]
  by_cases h16 : x.op = 16
  · simp only [if_pos h16]
    cases hc : env.cho x.a day with
    | none => exact .inl ⟨by simp, by simp, by simp⟩
    | some p => rw [hL.cho _ _ _ hc]; exact .inr ⟨by simp, by simp, by simp, by simp⟩
  simp only [if_neg h16]
  by_cases h17 : x.op = 17
  · simp only [if_pos h17]
    have hf := firstD_leD (key := x.a) (a := day) (b := x.b) (tod := tod) (hL.cho x.a) (hL.any x (List.mem_of_getElem? r1) h17)
    obtain ⟨g, hc⟩ : ∃ g, firstD env.cho x.a day (min x.b tod) = g := ⟨_, rfl⟩
    rw [hc]
    rw [hc] at hf
    cases g with
    | some q =>
      rcases firstD_less (cho := env'.cho) (key := x.a) (a := day) (b := min x.b tod') (b' := min x.b tod) (by omega) with ⟨q', a1, a2⟩ | ⟨a1, -⟩
      · rw [hf] at a1
        cases a1
        rw [a2]
        exact .inr ⟨by simp, by simp, by simp, by simp⟩
      · rw [hf] at a1; cases a1
    | none =>
      by_cases hb : day ≤ x.b
      · exact .inl ⟨by simp [hb], by simp, by simp⟩
      · obtain ⟨g', hc'⟩ : ∃ g, firstD env'.cho x.a day (min x.b tod') = g := ⟨_, rfl⟩
        rw [hc']
        cases g' with
        | none => exact .inr ⟨by simp [hb], by simp, by simp, by simp [hb]⟩
        | some q => have := firstD_range hc'; omega
  simp only [if_neg h17]
  exact .inr ⟨by simp, by simp, by simp, by simp⟩
/-! All that stays held -/
/-! It goes on -/
/-! A run -/
end Go.Proofs.YtkjabiabeemfhaaGreatDoor
end
section
/- step: what a run comes to (plain) -/
namespace Go.Proofs.YtkjabiabeemfhaaGreatDoor
open Go.RowKit Go.Sort

theorem goR_fail {env : Env} {s : RunS} {tod : Int} (h : (goR env s tod).1 ≠ 0) : (goR env s tod).2 = ([], s) := by
  by_cases h0 : tod < s.day ∨ 73048 < tod
  · rw [goR_early h0]
  · by_cases h1 : (runQ env tod (sizesH s.L) s.L).1 = 0
    · rw [goR_done h0 h1] at h; exact absurd rfl h
    · rw [goR_over h0 h1]
end Go.Proofs.YtkjabiabeemfhaaGreatDoor
end
section
/- facts that are told more only (plain) -/
namespace Go.Proofs.YtkjabiabeemfhaaGreatDoor
open Go.RowKit Go.Sort

theorem fcOk_all (l : List Td) (hok : ∀ x ∈ l, x.ok) : ∀ (s : FxL × ChL) (n : Nat), FcOk s n → FcOk (l.foldl tellS s) (n + l.length) := by
  induction l with
  | nil => exact fun _ _ h => h
  | cons x r ih =>
    intro s n h
    have := ih (fun y hy => hok y (List.mem_cons_of_mem _ hy)) (tellS s x) (n + 1) (h.tell (hok x List.mem_cons_self))
    rwa [show n + (x :: r).length = n + 1 + r.length by simp; omega]
theorem tells_made (l : List Td) : ∀ s : FxL × ChL, l.foldl tellS s = (l.foldl tellFx s.1, l.foldl tellCh s.2) := by
  induction l with
  | nil => exact fun _ => rfl
  | cons x r ih => exact fun s => ih _
theorem fcOk_made (l : List Td) (hok : ∀ x ∈ l, x.ok) : FcOk (madeFx l, madeCh l) l.length := by
  have := fcOk_all l hok ([], []) 0 fcOk_nil
  rw [tells_made, Nat.zero_add] at this
  exact this
section
variable {s : FxL × ChL} {n : Nat} {x : Td}
end
/-! More, but none that is there, and no choice of a key of an Any -/
end Go.Proofs.YtkjabiabeemfhaaGreatDoor
end
section
/- denote: the chapter's example -/
namespace Go.Proofs.YtkjabiabeemfhaaGreatDoor
open Go.RowKit
set_option maxRecDepth 100000
open Go.Sort

set_option maxHeartbeats 1600000 in
theorem lfew_any (ts : List Nd) (l : List Td) (v u : Value) (day tod : Int) (w : World) (hN : IsNodes w v ts) (hT : IsTolds w u l) :
    Calls Tryz.prog 16 #[.agg #[v, .int .i64 day, .int .i64 tod, u]] w fun e w' => e = .returned (.bool (decide (ts.length ≤ 100) && decide (l.length ≤ 60))) ∧ Later w w' := by
  obtain ⟨p, cp, rfl⟩ := hN.form
  obtain ⟨q, cq, rfl⟩ := hT.form
  generalize ts.length = N at *
  generalize l.length = M at *
  clear hN hT
  by_cases h1 : N ≤ 100
  · rw [decide_eq_true h1, Bool.true_and]
    have h1' : (N : Int) ≤ 100 := by omega
    by_cases h2 : M ≤ 60
    · rw [decide_eq_true h2]
      have h2' : (M : Int) ≤ 60 := by omega
      go_enter Tryz.func16, Tryz.ntmps16
      go_wp2
      go_ret
      exact ⟨rfl, by repeat (first | with_reducible exact Later.refl _ | with_reducible assumption | with_reducible refine Later.ofdrew ?_ | with_reducible refine Later.ofdrewN ?_ | with_reducible refine Later.setCell ?_ ?_ _ | with_reducible refine Later.alloc ?_ _ | with_reducible refine Later.drewN ?_ _ | with_reducible refine Later.drew ?_ | (with_reducible refine Later.trans ?_ (by assumption)) | (simp only [World.size_setCell, World.size_alloc, World.heap_drewN]; omega) | (simp; done) | (simp; omega))⟩
    · rw [decide_eq_false h2]
      have h2' : ¬ (M : Int) ≤ 60 := by omega
      go_enter Tryz.func16, Tryz.ntmps16
      go_wp2
      go_ret
      exact ⟨rfl, by repeat (first | with_reducible exact Later.refl _ | with_reducible assumption | with_reducible refine Later.ofdrew ?_ | with_reducible refine Later.ofdrewN ?_ | with_reducible refine Later.setCell ?_ ?_ _ | with_reducible refine Later.alloc ?_ _ | with_reducible refine Later.drewN ?_ _ | with_reducible refine Later.drew ?_ | (with_reducible refine Later.trans ?_ (by assumption)) | (simp only [World.size_setCell, World.size_alloc, World.heap_drewN]; omega) | (simp; done) | (simp; omega))⟩
  · rw [decide_eq_false h1, Bool.false_and]
    have h1' : ¬ (N : Int) ≤ 100 := by omega
    go_enter Tryz.func16, Tryz.ntmps16
    go_wp2
    go_ret
    exact ⟨rfl, by repeat (first | with_reducible exact Later.refl _ | with_reducible assumption | with_reducible refine Later.ofdrew ?_ | with_reducible refine Later.ofdrewN ?_ | with_reducible refine Later.setCell ?_ ?_ _ | with_reducible refine Later.alloc ?_ _ | with_reducible refine Later.drewN ?_ _ | with_reducible refine Later.drew ?_ | (with_reducible refine Later.trans ?_ (by assumption)) | (simp only [World.size_setCell, World.size_alloc, World.heap_drewN]; omega) | (simp; done) | (simp; omega))⟩
end Go.Proofs.YtkjabiabeemfhaaGreatDoor
end
section
/- A region that draws its order, once more: a test for nil is taken among the readers (printed by gen_regionn.py) -/
namespace Go.Proofs.YtkjabiabeemfhaaGreatDoor
open Go
namespace N
section
variable {P : Program} {ops : Array Oper} {Q : Exit → Act → World → Prop} {md : Region.Mode}
/-- An operation that is none of a call, a send, a defer ..: what it yields is a value, or nothing. -/
def readerKind (o : Oper) : Bool :=
  match o.op with
  | .nilCheck _ | .move _ | .assign _ | .pick .. | .build .. | .load .. | .binOp .. | .unOp .. | .convert .. | .slice .. | .fieldAddr .. | .field .. | .indexAddr .. | .index .. | .lookup .. | .extract .. | .makeInterface .. | .makeFunc .. => true
  | _ => false

theorem ok_then {α β : Type} {r : Result α} {f : α → World → Result β} {n : β} {w' : World} (h : r.andThen f = .ok n w') : ∃ a w1, r = .ok a w1 ∧ f a w1 = .ok n w' := by
  cases r with
  | ok a w1 => exact ⟨a, w1, rfl, h⟩
  | halt x w1 => cases h
theorem reader_value {o : Oper} (ho : readerKind o = true) {ρ : Operand → Value} {w w' : World} {n : Next} (h : (execOp ρ o).run P w = .ok n w') : ∃ v, n = .value v := by
  by_cases h0 : Go.Proofs.YtkjabiabeemfhaaGreatDoor.readerKind o = true
  · exact Go.Proofs.YtkjabiabeemfhaaGreatDoor.reader_value h0 h
  · unfold readerKind at ho
    unfold Go.Proofs.YtkjabiabeemfhaaGreatDoor.readerKind at h0
    unfold execOp at h
    generalize o.op = op at *
    cases op <;> simp only [Bool.false_eq_true, not_true_eq_false, not_false_eq_true] at ho h0
    simp only at h
    split at h
    · simp [go_sem, runtimePanic] at h
    · simp [go_sem, runtimePanic] at h
    · simp [go_sem, runtimePanic] at h
    · split at h
      · simp [go_sem, runtimePanic] at h
      · simp only [Sem.run_bind] at h
        obtain ⟨p1, w1, -, h⟩ := ok_then h
        obtain ⟨p2, w2, -, h⟩ := ok_then h
        split at h
        · simp only [Sem.run_bind] at h
          obtain ⟨p3, w3, h3, -⟩ := ok_then h
          cases h3
        · simp at h
          exact ⟨_, h.1.symm⟩
      · simp at h
        exact ⟨_, h.1.symm⟩
    · simp at h
      exact ⟨_, h.1.symm⟩

/-- What a reader yields in every world of a class: a value, and the world is as it was. -/
theorem reader_quiet {o : Oper} (ho : readerKind o = true) {a : Act} {C : World → Prop} {w : World} {v : Value} (h : o.quietAt P a C w v) : (execOp a.eval o).run P w = .ok (.value v) w := by
  unfold Oper.quietAt at h
  generalize hr : (execOp a.eval o).run P w = r at h
  cases r with
  | ok n w' =>
    obtain ⟨u, rfl⟩ := reader_value ho hr
    simp only [Oper.quietUpon] at h
    rw [h.1, h.2]
  | halt x w' => simp only [Oper.quietUpon] at h

/-- The Bool over the steps: of a row of readers. -/
def okRow (md : Region.Mode) (ops : Array Oper) (t : Nat) : List Nat → Array Bool → Bool
  | [], _ => true
  | i :: l, listed =>
    ((Region.ready md ops listed).contains i && Region.free md ops listed i && decide (i < ops.size) && (match ops[i]? with | some o => readerKind o | none => false) &&
      (match ops[t]? with | some ot => ot.after.any (fun e => Region.binds md e && e.on == i) | none => true) && !listed.getD t false) && okRow md ops t l (listed.setIfInBounds i true)

/-- Readers behind the sealed operation: no other operation may come up. -/
def okTail (md : Region.Mode) (ops : Array Oper) : List Nat → Array Bool → Bool
  | [], listed => Region.ready md ops listed == []
  | i :: l, listed => Region.ready md ops listed == [i] && (match ops[i]? with | some o => readerKind o | none => false) && okTail md ops l (listed.setIfInBounds i true)

def okPlan (md : Region.Mode) (ops : Array Oper) (t : Nat) : Plan → Array Bool → Bool
  | .done last, listed => okTail md ops last listed || (okRow md ops t last listed && Region.ready md ops (setAll last listed) == [])
  | .one l i ri, listed => okRow md ops t l listed && (Region.ready md ops (setAll l listed) == [i]) && okEff t l i listed && okPlan md ops t ri (setAll (l ++ [i]) listed)
  | .two l i ri j rj, listed => okRow md ops t l listed && (Region.ready md ops (setAll l listed) == [i, j]) && okEff t l i listed && okPlan md ops t ri (setAll (l ++ [i]) listed) &&
      okEff t l j listed && okPlan md ops t rj (setAll (l ++ [j]) listed)
  | .three l i ri j rj k rk, listed => okRow md ops t l listed && (Region.ready md ops (setAll l listed) == [i, j, k]) && okEff t l i listed && okPlan md ops t ri (setAll (l ++ [i]) listed) &&
      okEff t l j listed && okPlan md ops t rj (setAll (l ++ [j]) listed) && okEff t l k listed && okPlan md ops t rk (setAll (l ++ [k]) listed)

theorem quiet_yields {o : Oper} (ho : readerKind o = true) {a : Act} {w : World} {K : Act → Prop} (hw : Region.wanted o (yielded ops a.tmps) = true) (h : o.quiet P a (Aft w) K) :
    ∃ v, YieldsIf P ops (Later w) o v a ∧ K (a.put o.dst v) := by
  obtain ⟨v, h1, h2⟩ := h
  exact ⟨v, .inl ⟨hw, fun w' hw' => reader_quiet ho (h1 w' (aft_iff.2 hw'))⟩, h2⟩

theorem wpQuiet_head {o : Oper} (ho : readerKind o = true) {a : Act} {w : World} {K : Act → Prop} {l : List Oper} (h : wpQuiet P ops (Aft w) K (o :: l) a) :
    ∃ v, YieldsIf P ops (Later w) o v a ∧ wpQuiet P ops (Aft w) K l (a.put o.dst v) := by
  by_cases hw : Region.wanted o (yielded ops a.tmps) = true
  · simp only [wpQuiet, hw, if_true] at h
    exact quiet_yields ho hw h
  · simp only [wpQuiet, hw] at h
    exact ⟨undef, .inr ⟨by simpa using hw, rfl⟩, h⟩

theorem run_row {t : Nat} {w : World} {K : Act → Prop} {f : Nat} (hs : Region.noSelect ops = true) (hQ : ∀ c a d v w, Q (.panic c) (Act.put a d v) w → Q (.panic c) a w) :
    ∀ (l : List Nat) (listed : Array Bool) (a : Act), okRow md ops t l listed = true → wpQuiet P ops (Aft w) K (pick ops l) a →
      (∀ a', K a' → wpAnyT P md ops Q (Later w) t f (setAll l listed) a' w) → wpAnyT P md ops Q (Later w) t (l.length + f) listed a w
  | [], listed, a, _, h, hk => by simpa [setAll] using hk a h
  | i :: l, listed, a, hb, h, hk => by
    simp only [okRow, Bool.and_eq_true, decide_eq_true_eq] at hb
    obtain ⟨⟨⟨⟨⟨⟨hr, hf⟩, hlt⟩, hk1⟩, hw1⟩, ht⟩, hb'⟩ := hb
    obtain ⟨o, ho⟩ : ∃ o, ops[i]? = some o := ⟨_, Array.getElem?_eq_getElem hlt⟩
    simp only [ho] at hk1
    have hp : pick ops (i :: l) = o :: pick ops l := by simp [pick, ho]
    rw [hp] at h
    obtain ⟨v, hy, h'⟩ := wpQuiet_head hk1 h
    have ih := run_row hs hQ l (listed.setIfInBounds i true) _ hb' h' (by simpa [setAll] using hk)
    have := wpAnyT_first (C := Later w) (t := t) (fuel := l.length + f) ho (fun ot hot => by
        simp only [hot] at hw1
        obtain ⟨e, he, hb⟩ := Array.any_eq_true'.1 hw1
        simp only [Bool.and_eq_true, beq_iff_eq] at hb
        exact ⟨e, he, hb.1, hb.2⟩) (Region.noSelect_spec hs) (fun c a w => hQ c a _ v w) listed a w (Region.free_spec ho hf) (by simpa using hr) (by simpa using ht) hy (Later.refl w) ih
    simpa [Nat.add_right_comm] using this

theorem run_tail {w : World} {K : Act → Prop} {C : World → Prop} {t : Nat} (hC : C w) :
    ∀ (l : List Nat) (listed : Array Bool) (a : Act), okTail md ops l listed = true → wpQuiet P ops (Aft w) K (pick ops l) a → (∀ a', K a' → Q .normal a' w) → wpAnyT P md ops Q C t l.length listed a w
  | [], listed, a, hb, h, hk => ⟨by simpa [okTail] using hb, hk a h⟩
  | i :: l, listed, a, hb, h, hk => by
    simp only [okTail, Bool.and_eq_true, beq_iff_eq] at hb
    obtain ⟨⟨hr, hk1⟩, hb'⟩ := hb
    obtain ⟨_, o, ho, _⟩ := mem_ready.1 (show i ∈ Region.ready md ops listed by rw [hr]; simp)
    simp only [ho] at hk1
    have hp : pick ops (i :: l) = o :: pick ops l := by simp [pick, ho]
    rw [hp] at h
    obtain ⟨v, hy, h'⟩ := wpQuiet_head hk1 h
    have ih := run_tail (t := t) hC l (listed.setIfInBounds i true) _ hb' h' hk
    show wpAnyT P md ops Q C t (l.length + 1) listed a w
    unfold wpAnyT
    refine ⟨fun h0 => (by rw [h0] at hr; cases hr), fun j hj => ?_⟩
    rw [hr] at hj
    obtain rfl : j = i := by simpa using hj
    exact hy.wpOp ho (Later.refl w) ⟨.inr hC, ih⟩

theorem run_plan {t : Nat} (hs : Region.noSelect ops = true) (hQ : ∀ c a d v w, Q (.panic c) (Act.put a d v) w → Q (.panic c) a w) :
    ∀ (p : Plan) (n : Nat) (listed : Array Bool) (a : Act) (w : World), p.has n = true → okPlan md ops t p listed = true → wpPlan P ops t Q p a w → wpAnyT P md ops Q (Later w) t n listed a w
  | .done last, n, listed, a, w, hn, hb, h => by
    simp only [okPlan, Bool.or_eq_true, Bool.and_eq_true, beq_iff_eq] at hb
    simp only [Plan.has, beq_iff_eq] at hn
    simp only [wpPlan] at h
    subst hn
    rcases hb with hb | ⟨hb, he⟩
    · exact run_tail (C := Later w) (t := t) (Later.refl w) last listed a hb h (fun a' h => h)
    · exact run_row (f := 0) hs hQ last listed a hb h (fun a' h => ⟨he, h⟩)
  | .one l i ri, n, listed, a, w, hn, hb, h => by
    simp only [okPlan, Bool.and_eq_true, beq_iff_eq] at hb
    simp only [Plan.has, Bool.and_eq_true, decide_eq_true_eq] at hn
    obtain ⟨⟨⟨hrow, hr⟩, hp⟩, hi⟩ := hb
    obtain ⟨hn1, hn2⟩ := hn
    simp only [wpPlan] at h
    have := run_row (f := n - (l.length + 1) + 1) hs hQ l listed a hrow h (fun a' ha' => by
      unfold wpAnyT
      refine ⟨fun h0 => (by rw [h0] at hr; cases hr), fun j hj => ?_⟩
      have hj0 := hj
      rw [hr] at hj
      obtain rfl : j = i := by simpa using hj
      exact run_one hj0 ha' (eff_next hp (fun a'' w'' h' => run_plan hs hQ ri _ _ a'' w'' hn2 hi h')))
    rwa [show l.length + (n - (l.length + 1) + 1) = n by omega] at this
  | .two l i ri j rj, n, listed, a, w, hn, hb, h => by
    simp only [okPlan, Bool.and_eq_true, beq_iff_eq] at hb
    simp only [Plan.has, Bool.and_eq_true, decide_eq_true_eq] at hn
    obtain ⟨⟨⟨⟨⟨hrow, hr⟩, hp⟩, hi⟩, hp2⟩, hi2⟩ := hb
    obtain ⟨⟨hn1, hn2⟩, hn3⟩ := hn
    simp only [wpPlan] at h
    have := run_row (f := n - (l.length + 1) + 1) hs hQ l listed a hrow h (fun a' ha' => by
      unfold wpAnyT
      refine ⟨fun h0 => (by rw [h0] at hr; cases hr), fun k hk => ?_⟩
      have hk0 := hk
      rw [hr] at hk
      simp only [List.mem_cons, List.not_mem_nil, or_false] at hk
      rcases hk with rfl | rfl
      · exact run_one hk0 ha'.1 (eff_next hp (fun a'' w'' h' => run_plan hs hQ ri _ _ a'' w'' hn2 hi h'))
      · exact run_one hk0 ha'.2 (eff_next hp2 (fun a'' w'' h' => run_plan hs hQ rj _ _ a'' w'' hn3 hi2 h')))
    rwa [show l.length + (n - (l.length + 1) + 1) = n by omega] at this
  | .three l i ri j rj m rm, n, listed, a, w, hn, hb, h => by
    simp only [okPlan, Bool.and_eq_true, beq_iff_eq] at hb
    simp only [Plan.has, Bool.and_eq_true, decide_eq_true_eq] at hn
    obtain ⟨⟨⟨⟨⟨⟨⟨hrow, hr⟩, hp⟩, hi⟩, hp2⟩, hi2⟩, hp3⟩, hi3⟩ := hb
    obtain ⟨⟨⟨hn1, hn2⟩, hn3⟩, hn4⟩ := hn
    simp only [wpPlan] at h
    have := run_row (f := n - (l.length + 1) + 1) hs hQ l listed a hrow h (fun a' ha' => by
      unfold wpAnyT
      refine ⟨fun h0 => (by rw [h0] at hr; cases hr), fun k hk => ?_⟩
      have hk0 := hk
      rw [hr] at hk
      simp only [List.mem_cons, List.not_mem_nil, or_false] at hk
      rcases hk with rfl | rfl | rfl
      · exact run_one hk0 ha'.1 (eff_next hp (fun a'' w'' h' => run_plan hs hQ ri _ _ a'' w'' hn2 hi h'))
      · exact run_one hk0 ha'.2.1 (eff_next hp2 (fun a'' w'' h' => run_plan hs hQ rj _ _ a'' w'' hn3 hi2 h'))
      · exact run_one hk0 ha'.2.2 (eff_next hp3 (fun a'' w'' h' => run_plan hs hQ rm _ _ a'' w'' hn4 hi3 h')))
    rwa [show l.length + (n - (l.length + 1) + 1) = n by omega] at this

/-- **A region that asks the tape, by a plan of ours.** -/
theorem wp_region_plan {id : Nat} {a : Act} {w : World} (t : Nat) (p : Plan) (hm : P.follows .mixedOrders = true)
    (hB : (Region.noSelect ops && p.has ops.size && okPlan .any ops t p (Array.replicate ops.size false)) = true)
    (hQ : ∀ c a d v w, Q (.panic c) (Act.put a d v) w → Q (.panic c) a w) (h : wpPlan P ops t Q p a w.drew) : (Code.region id ops true).wp P Q a w := by
  simp only [Bool.and_eq_true] at hB
  obtain ⟨⟨hs, hn⟩, hb⟩ := hB
  exact wp_region_any hm (wpAny_of_T (C := Later w.drew) (t := t) _ _ _ _ (run_plan hs hQ p _ _ a _ hn hb h))


/-! The moves -/
end
end N
end Go.Proofs.YtkjabiabeemfhaaGreatDoor
end
