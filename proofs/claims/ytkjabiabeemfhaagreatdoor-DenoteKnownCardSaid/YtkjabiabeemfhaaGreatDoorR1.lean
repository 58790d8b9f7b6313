/- rows stay where a map changes -/
import Derived.Test.YtkjabiabeemfhaaGreatDoorQ10
import Derived.Test.YtkjabiabeemfhaaGreatDoorQ9
import Derived.Test.YtkjabiabeemfhaaGreatDoorQ4
import Derived.Test.YtkjabiabeemfhaaGreatDoorQ3
import Derived.Test.YtkjabiabeemfhaaGreatDoorQ2
import Derived.Test.YtkjabiabeemfhaaGreatDoorRows
import Derived.Test.YtkjabiabeemfhaaGreatDoorQ1
import Derived.Shelf.Small.Bits
import Derived.Shelf.Small.Wraps
import Derived.Shelf.Strconv.Itoa0
import Derived.Shelf.Bits.Mul64
import Derived.Ground.Names2Prog
import Derived.Shelf.Slices.Clone
import Derived.Shelf.Slices.SearchI
import Derived.Ground.SlgnProg
import Derived.Shelf.SlicesE.Clone
import Derived.Shelf.SlLaysF0
import Derived.Ground.SlsfProg
import Derived.Test.YtkjabiabeemfhaaGreatDoorProg
import Derived.WalkKit
import Derived.Lib.BitFns
import Derived.Lib.ItoaNum
import Derived.WalkSpells
import Derived.WalkSmall
import Derived.WalkLawsBesides
import Derived.BigQuiet
import Derived.Deep.RegionHeld3
import Derived.Deep.DeepCutAuto
import Derived.Deep.CutBlock
import Derived.Lib.Hide
import Derived.Deep.Quiet
import Derived.Below
import Derived.OrdersHeld
import Derived.Shelf.Spec.BitsCarry
import Derived.Laws.AppendOwnNone
import Derived.OwnWalk
import Derived.Great.BuildSlice
import Derived.Test.YtkjabiabeemfhaaGreatDoorQ8
import Derived.Test.YtkjabiabeemfhaaGreatDoorQ6
import Derived.Test.YtkjabiabeemfhaaGreatDoorQ5
import Derived.Test.YtkjabiabeemfhaaGreatDoorQ7
import Derived.Test.YtkjabiabeemfhaaGreatDoorQ15
import Derived.Test.YtkjabiabeemfhaaGreatDoorQ14
import Derived.Test.YtkjabiabeemfhaaGreatDoorQ13
import Derived.Test.YtkjabiabeemfhaaGreatDoorQ12
import Derived.DeepKeys4
import Derived.Maps.Own
import Derived.Test.YtkjabiabeemfhaaGreatDoorQ11
import Derived.RangeFuncNested
import Derived.RangeFuncBound
import Derived.RangeFuncCalls
import Derived.RangeFuncLeaves
import Derived.Shelf.Abstract
import Derived.Shelf.RegionOpen
import Derived.OwnWalkIn
import Derived.TacticsInMore
import Derived.LoopNIn
import Derived.LoopIn
import Derived.Deep.LoopGhost
import Derived.WalkMore
import Derived.Lib.Strings
import Derived.Test.YtkjabiabeemfhaaGreatDoorQ16
import Derived.Test.YtkjabiabeemfhaaGreatDoorQ31
import Derived.Test.YtkjabiabeemfhaaGreatDoorQ19
import Derived.Test.YtkjabiabeemfhaaGreatDoorQ17
import Derived.ArgAppend
import Derived.Test.YtkjabiabeemfhaaGreatDoorQ18
import Derived.Shelf.SlSortCmp.Insertion
import Derived.Laws.IdiomCopy
import Derived.Deep.Upon
import Derived.Shelf.GgSortFunc.InsertionK
import Derived.Test.YtkjabiabeemfhaaGreatDoorQ34
import Derived.Test.YtkjabiabeemfhaaGreatDoorQ33
set_option linter.all false
set_option linter.all false
section
/- terms as trees, and the places of their nodes in a row -/
namespace Go.Proofs.YtkjabiabeemfhaaGreatDoor
open Go.RowKit
set_option maxRecDepth 100000

namespace Tm
theorem flats_eq (l : List Tm) : flat.flats l = l.flatMap flat := by
  induction l with
  | nil => rfl
  | cons t r ih => simp [flat.flats, ih]
end Tm

end Go.Proofs.YtkjabiabeemfhaaGreatDoor
end
section
/- what is known stays: the plain laws -/
namespace Go.Proofs.YtkjabiabeemfhaaGreatDoor
open Go.RowKit
set_option maxRecDepth 100000

theorem valT_mono {get get' : Int → Option Q2} (hm : ∀ k v, get k = some v → get' k = some v) : ∀ (T : Tm), ((valT get T).1 ≠ 0 → (valT get' T).1 ≠ 0) ∧ ((valT get T).1 = 0 → ∀ q, (valT get T).2 = some q → valT get' T = (0, some q)) := by
  intro T
  induction T using Tm.ind with
  | h x l ih =>
    rw [valT_node, valT_node]
    unfold nodeV
    by_cases h1 : x.op = 1
    · rw [if_pos h1, if_pos h1]; exact ⟨fun h => absurd rfl h, fun _ q hq => by cases hq; rfl⟩
    rw [if_neg h1, if_neg h1]
    by_cases h2 : x.op = 2
    · rw [if_pos h2, if_pos h2]; exact ⟨fun h => absurd rfl h, fun _ q hq => by rw [hm _ _ hq]⟩
    rw [if_neg h2, if_neg h2]
    cases hr : (l.map (valT get)).find? (fun r => decide (r.1 ≠ 0)) with
    | some r =>
      have h3 : r.1 ≠ 0 := by have := List.find?_some hr; simpa using this
      have hmem := List.mem_of_find?_eq_some hr
      obtain ⟨t, ht, rfl⟩ := List.mem_map.1 hmem
      have h4 := (ih t ht).1 h3
      cases hr' : (l.map (valT get')).find? (fun r => decide (r.1 ≠ 0)) with
      | some r' => 
        have h5 : r'.1 ≠ 0 := by have := List.find?_some hr'; simpa using this
        exact ⟨fun _ => h5, fun h => absurd h h3⟩
      | none =>
        have h5 := List.find?_eq_none.1 hr' _ (List.mem_map.2 ⟨t, ht, rfl⟩)
        exact absurd h4 (by simpa using h5)
    | none =>
      have h3 : ∀ t ∈ l, (valT get t).1 = 0 := fun t ht => by have := List.find?_eq_none.1 hr _ (List.mem_map.2 ⟨t, ht, rfl⟩); simpa using this
      simp only
      by_cases hall : ((l.map (valT get)).all fun r => r.2.isSome) = true
      · have hsame : l.map (valT get') = l.map (valT get) := by
          refine List.map_congr_left (fun t ht => ?_)
          have h4 := List.all_eq_true.1 hall _ (List.mem_map.2 ⟨t, ht, rfl⟩)
          obtain ⟨q, hq⟩ := Option.isSome_iff_exists.1 h4
          rw [(ih t ht).2 (h3 t ht) q hq]
          exact Prod.ext (h3 t ht).symm hq.symm
        rw [hsame, hr]
        simp only
        rw [if_pos hall]
        exact ⟨fun h => h, fun h q hq => Prod.ext h hq⟩
      · rw [if_neg hall]
        exact ⟨fun h => absurd rfl h, fun _ q hq => by cases hq⟩
/-! More is told, of no key and day anew. -/
end Go.Proofs.YtkjabiabeemfhaaGreatDoor
end
section
/- the keys that a number asks for: the plain laws -/
namespace Go.Proofs.YtkjabiabeemfhaaGreatDoor
open Go.RowKit
set_option maxRecDepth 100000

theorem keyB_mem {l : List Nd} {x : Nd} (hx : x ∈ l) (h2 : x.op = 2) (ha : 0 ≤ x.a) (hb : x.a < 64) : x.a ∈ keysI 2 2 l := by
  rw [keys_mem]
  refine ⟨ha, hb, List.any_eq_true.2 ⟨x, hx, decide_eq_true ⟨.inl h2, by omega⟩⟩⟩
theorem applyV_some {op : Int} {l : List Q2} (h : l.length = 1 ∨ l.length = 2) (h0 : (applyV op l).1 = 0) : (applyV op l).2.isSome = true := by
  have hf : ∀ N D, (fitQ N D).1 = 0 → (fitQ N D).2.isSome = true := by
    intro N D h
    unfold fitQ at h ⊢
    simp only at h ⊢
    rw [if_pos h]; rfl
  match l, h with
  | [a], _ => rfl
  | [a, b], _ =>
    unfold applyV at h0 ⊢
    simp only at h0 ⊢
    split at h0
    · rename_i h1; simp only [if_pos h1]; exact hf _ _ h0
    rename_i h1
    split at h0
    · rename_i h2; simp only [if_neg h1, if_pos h2]; exact hf _ _ h0
    rename_i h2
    split at h0
    · rename_i h3; simp only [if_neg h1, if_neg h2, if_pos h3]; exact hf _ _ h0
    rename_i h3
    simp only [if_neg h1, if_neg h2, if_neg h3]
    split <;> rfl
/-- It is known if its keys are. -/
theorem valT_known {get : Int → Option Q2} : ∀ {T : Tm}, NumT T → (∀ k, k ∈ keysI 2 2 T.flat → (get k).isSome = true) → (valT get T).1 = 0 → (valT get T).2.isSome = true := by
  intro T
  induction T using Tm.ind with
  | h x l ih =>
    intro hT hk h0
    obtain ⟨o1, o2, hl, hf, hx, hks⟩ := hT
    rw [valT_node] at h0 ⊢
    by_cases h1 : x.op = 1
    · unfold nodeV; rw [if_pos h1]; rfl
    by_cases h2 : x.op = 2
    · unfold nodeV; rw [if_neg h1, if_pos h2]
      obtain ⟨r1, r2⟩ := key_range hf h2
      exact hk x.a (keyB_mem (by unfold Tm.flat; exact List.mem_cons_self) h2 r1 r2)
    cases hfd : (l.map (valT get)).find? (fun r => decide (r.1 ≠ 0)) with
    | some r =>
      rw [nodeV_err h1 h2 hfd] at h0
      have h3 := List.find?_some hfd
      simp only [decide_eq_true_eq] at h3
      exact absurd h0 h3
    | none =>
      have hz : ∀ t ∈ l, (valT get t).1 = 0 := fun t ht => by have := List.find?_eq_none.1 hfd _ (List.mem_map.2 ⟨t, ht, rfl⟩); simpa using this
      have hall : ((l.map (valT get)).all fun r => r.2.isSome) = true := by
        rw [List.all_eq_true]
        intro r hr
        obtain ⟨t, ht, rfl⟩ := List.mem_map.1 hr
        refine ih t ht ((NumTs_iff l).1 hks t ht) (fun k hk' => hk k ?_) (hz t ht)
        rw [keys_mem] at hk' ⊢
        refine ⟨hk'.1, hk'.2.1, ?_⟩
        obtain ⟨y, hy, h3⟩ := List.any_eq_true.1 hk'.2.2
        refine List.any_eq_true.2 ⟨y, ?_, h3⟩
        unfold Tm.flat
        rw [Tm.flats_eq]
        exact List.mem_cons_of_mem _ (List.mem_flatMap.2 ⟨t, ht, hy⟩)
      have hz' : ∀ r ∈ l.map (valT get), r.1 = 0 := by
        intro r hr
        obtain ⟨t, ht, rfl⟩ := List.mem_map.1 hr
        exact hz t ht
      rw [nodeV_some h1 h2 hz' hall] at h0 ⊢
      refine applyV_some ?_ h0
      simp only [List.length_map]
      rw [hl]
      have : x.op = 3 ∨ x.op = 4 ∨ x.op = 5 ∨ x.op = 6 ∨ x.op = 7 ∨ x.op = 8 := by omega
      rcases this with h | h | h | h | h | h <;> rw [h] <;> decide

/-! The facts of keys at a day alone. -/
end Go.Proofs.YtkjabiabeemfhaaGreatDoor
end
section
/- denote: by more facts (plain) -/
namespace Go.Proofs.YtkjabiabeemfhaaGreatDoor
open Go.RowKit Go.Sort

/-- More is known; of the keys of an Any nothing more. -/
structure EnvLe (ts : List Nd) (env env' : Env) : Prop where
  get : ∀ day k v, env.get day k = some v → env'.get day k = some v
  cho : ∀ k d p, env.cho k d = some p → env'.cho k d = some p
  any : ∀ x ∈ ts, x.op = 17 → ∀ d, env'.cho x.a d = env.cho x.a d
theorem asks_ne {env : Env} {day : Int} {s : Tm} (hn : NumT s) (h1 : (valT (env.get day) s).1 = 0) (h2 : (valT (env.get day) s).2 = none) : asksT env day s ≠ [] := by
  intro h
  have hk : ∀ k, k ∈ keysI 2 2 s.flat → (env.get day k).isSome = true := by
    intro k hk
    unfold asksT at h
    rw [List.map_eq_nil_iff, List.filter_eq_nil_iff] at h
    have := h k hk
    cases hg : env.get day k with
    | none => rw [hg] at this; exact absurd rfl this
    | some v => rfl
  have := valT_known hn hk h1
  rw [h2] at this
  cases this
theorem one_more {ts : List Nd} {T : Tm} {env env' : Env} {tod : Int} (hG : Good ts T) (hok : ∀ x ∈ ts, x.ok) (hL : EnvLe ts env env') {h : Hd} (hh : HdOk ts h) (h0 : (oneH env tod h).1 = 0) :
    oneH env' tod h = oneH env tod h ∨ ((oneH env tod h).2.1 = [] ∧ (oneH env tod h).2.2.1 = [] ∧ (oneH env tod h).2.2.2 ≠ []) := by
  obtain ⟨⟨x, l⟩, pl, day, n, d⟩ := h
  obtain ⟨hT, hs, hm, hd0, hd1, hv⟩ := hh
  simp only at hT hs hm hd0 hd1 hv
  obtain ⟨r1, -, -, r4⟩ := hT.root
  unfold oneH at h0 ⊢
  simp only at h0 ⊢
  split
  · exact .inl rfl
  rename_i hlt
  rw [if_neg hlt] at h0
  replace h0 : (stepT env tod x l pl day n d).1 = 0 := h0
  show stepT env' tod x l pl day n d = stepT env tod x l pl day n d ∨ ((stepT env tod x l pl day n d).2.1 = [] ∧ (stepT env tod x l pl day n d).2.2.1 = [] ∧ (stepT env tod x l pl day n d).2.2.2 ≠ [])
  unfold stepT at h0 ⊢
  by_cases h10 : x.op = 10
  · rw [if_pos h10, if_pos h10]; exact .inl rfl
  rw [if_neg h10] at h0 ⊢
  rw [if_neg h10]
  by_cases h11 : x.op = 11
  · rw [if_pos h11, if_pos h11]; exact .inl rfl
  rw [if_neg h11] at h0 ⊢
  rw [if_neg h11]
  by_cases h12 : x.op = 12
  · rw [if_pos h12, if_pos h12]; exact .inl rfl
  rw [if_neg h12] at h0 ⊢
  rw [if_neg h12]
  have hnum : ∀ {i : Nat} (hi : i < l.length), numT env day l i = valT (env.get day) l[i] ∧ numT env' day l i = valT (env'.get day) l[i] ∧ askI env day l i = asksT env day l[i] := fun hi => by
    unfold numT askI; rw [List.getElem?_eq_getElem hi]; exact ⟨rfl, rfl, rfl⟩
  by_cases h13 : x.op = 13
  · rw [if_pos h13] at h0 ⊢
    rw [if_pos h13]
    have hl : l.length = 2 := by rw [r4, h13]; decide
    obtain ⟨k1, k2, k3⟩ := kid_num hG hok hT hs (i := 0) (by omega) (by rw [h13]; decide)
    obtain ⟨e1, e2, e3⟩ := hnum (i := 0) (by omega)
    unfold scaleT at h0 ⊢
    rw [e1] at h0 ⊢
    rw [e2, e3]
    by_cases hz : (valT (env.get day) l[0]).1 = 0
    · simp only [hz, ne_eq, not_true_eq_false, if_false] at h0 ⊢
      cases hv2 : (valT (env.get day) l[0]).2 with
      | none => exact .inr ⟨rfl, rfl, asks_ne k2 hz hv2⟩
      | some v =>
        have := (valT_mono (hL.get day) l[0]).2 hz v hv2
        rw [this]
        exact .inl rfl
    · simp [hz] at h0
  rw [if_neg h13] at h0 ⊢
  rw [if_neg h13]
  by_cases h14 : x.op = 14
  · rw [if_pos h14, if_pos h14]; exact .inl rfl
  rw [if_neg h14] at h0 ⊢
  rw [if_neg h14]
  by_cases h15 : x.op = 15
  · rw [if_pos h15] at h0 ⊢
    rw [if_pos h15]
    have hl : l.length = 4 := by rw [r4, h15]; decide
    obtain ⟨k1, k2, k3⟩ := kid_num hG hok hT hs (i := 0) (by omega) (by rw [h15]; decide)
    obtain ⟨m1, m2, m3⟩ := kid_num hG hok hT hs (i := 1) (by omega) (by rw [h15]; decide)
    obtain ⟨e1, e2, e3⟩ := hnum (i := 0) (by omega)
    obtain ⟨f1, f2, f3⟩ := hnum (i := 1) (by omega)
    unfold condT at h0 ⊢
    rw [e1, f1] at h0 ⊢
    rw [e2, e3, f2, f3]
    by_cases hz : (valT (env.get day) l[0]).1 = 0
    · simp only [hz, ne_eq, not_true_eq_false, if_false] at h0 ⊢
      by_cases hy : (valT (env.get day) l[1]).1 = 0
      · simp only [hy, ne_eq, not_true_eq_false, if_false] at h0 ⊢
        cases hv2 : (valT (env.get day) l[0]).2 with
        | none => exact .inr ⟨rfl, rfl, fun e => asks_ne k2 hz hv2 (List.append_eq_nil_iff.1 e).1⟩
        | some v =>
          cases hu2 : (valT (env.get day) l[1]).2 with
          | none => exact .inr ⟨rfl, rfl, fun e => asks_ne m2 hy hu2 (List.append_eq_nil_iff.1 e).2⟩
          | some u =>
            rw [(valT_mono (hL.get day) l[0]).2 hz v hv2, (valT_mono (hL.get day) l[1]).2 hy u hu2]
            exact .inl rfl
      · simp [hy] at h0
    · simp [hz] at h0
  rw [if_neg h15] at h0 ⊢
  rw [if_neg h15]
  by_cases h16 : x.op = 16
  · rw [if_pos h16, if_pos h16]
    cases hc : env.cho x.a day with
    | none => exact .inr ⟨rfl, rfl, by simp⟩
    | some p => rw [hL.cho _ _ _ hc]; exact .inl rfl
  rw [if_neg h16, if_neg h16]
  by_cases h17 : x.op = 17
  · rw [if_pos h17, if_pos h17]
    have : firstD env'.cho x.a day (min x.b tod) = firstD env.cho x.a day (min x.b tod) := by
      unfold firstD
      congr 2
      funext i
      rw [hL.any x (List.mem_of_getElem? r1) h17]
    rw [this]; exact .inl rfl
  rw [if_neg h17, if_neg h17]
  exact .inl rfl
theorem flat_perm {γ : Type} {f g : γ → List Fl} : ∀ {l : List γ}, (∀ x ∈ l, ∃ X, (g x).Perm (f x ++ X)) → ∃ X, (l.flatMap g).Perm (l.flatMap f ++ X)
  | [], _ => ⟨[], .refl _⟩
  | a :: l, h => by
    obtain ⟨X, hX⟩ := h a List.mem_cons_self
    obtain ⟨Y, hY⟩ := flat_perm (l := l) (fun x hx => h x (List.mem_cons_of_mem _ hx))
    refine ⟨X ++ Y, ?_⟩
    rw [List.flatMap_cons, List.flatMap_cons]
    refine (hX.append hY).trans ?_
    rw [List.append_assoc, List.append_assoc]
    refine List.Perm.append_left _ ?_
    rw [← List.append_assoc, ← List.append_assoc]
    exact List.perm_append_comm.append_right _
theorem den_more {ts : List Nd} {T : Tm} {env env' : Env} {tod : Int} (hG : Good ts T) (hok : ∀ x ∈ ts, x.ok) (hE : EnvOk env) (hL : EnvLe ts env env') : ∀ h : Hd, HdOk ts h → (den env tod h).1 = 0 →
    ((den env' tod h).1 = 0 → ∃ X, (den env' tod h).2.1.Perm ((den env tod h).2.1 ++ X)) ∧ ((den env tod h).2.2 = [] → (den env' tod h).1 = 0 ∧ (den env' tod h).2.1 = (den env tod h).2.1) := by
  refine hd_ind (fun h ih hh h0 => ?_)
  obtain ⟨h1, h2⟩ := den_fst.1 h0
  rcases one_more (tod := tod) hG hok hL hh h1 with he | ⟨e1, e2, e3⟩
  · have hkid : ∀ g ∈ (oneH env tod h).2.1, _ := fun g hg => ih g (mem_lt hg) (one_ok hG hok hE hh g hg) (h2 g hg)
    refine ⟨fun hz => ?_, fun hw => ?_⟩
    · obtain ⟨z1, z2⟩ := den_fst.1 hz
      rw [den_ok hz, den_ok h0, he]
      simp only
      obtain ⟨X, hX⟩ := flat_perm (f := fun g => (den env tod g).2.1) (g := fun g => (den env' tod g).2.1) (l := (oneH env tod h).2.1) (fun g hg => (hkid g hg).1 (z2 g (by rw [he]; exact hg)))
      exact ⟨X, by rw [List.append_assoc]; exact List.Perm.append_left _ hX⟩
    · rw [den_ok h0] at hw
      simp only [List.append_eq_nil_iff, List.flatMap_eq_nil_iff] at hw
      have hz : (den env' tod h).1 = 0 := den_fst.2 ⟨by rw [he]; exact h1, fun g hg => by rw [he] at hg; exact ((hkid g hg).2 (hw.2 g hg)).1⟩
      refine ⟨hz, ?_⟩
      rw [den_ok hz, den_ok h0, he]
      simp only
      congr 1
      rw [List.flatMap_def, List.flatMap_def]
      congr 1
      exact List.map_congr_left (fun g hg => ((hkid g hg).2 (hw.2 g hg)).2)
  · refine ⟨fun hz => ⟨(den env' tod h).2.1, ?_⟩, fun hw => ?_⟩
    · rw [den_ok h0]
      simp only [e1, e2, List.flatMap_nil, List.append_nil, List.nil_append]
      exact .refl _
    · rw [den_ok h0] at hw
      simp only [List.append_eq_nil_iff] at hw
      exact absurd hw.1 e3
/-- A list in order that is part of another one is found by going through it once. -/
def goes [DecidableEq Fl] : List Fl → List Fl → List Fl
  | [], _ => []
  | a, [] => a
  | a :: r, b :: s => if b = a then goes r s else goes (a :: r) s
theorem goes_all : ∀ {a b : List Fl}, a.Sublist b → goes a b = []
  | [], _, _ => by simp [goes]
  | a :: r, [], h => by cases h
  | a :: r, b :: s, h => by
    unfold goes
    by_cases e : b = a
    · rw [if_pos e]
      refine goes_all ?_
      cases h with
      | cons _ h => exact (List.sublist_cons_self _ _).trans h
      | cons_cons _ h => exact h
    · rw [if_neg e]
      refine goes_all ?_
      cases h with
      | cons _ h => exact h
      | cons_cons _ h => exact absurd rfl e
theorem sort_sub (l X : List Fl) : (sortL ordF l).Sublist (sortL ordF (l ++ X)) := by
  have e : sortL ordF (l ++ X) = sortL ordF (sortL ordF l ++ X) := sort_same swoF totF ((sortL_perm ordF l).symm.append_right X)
  rw [e]
  refine List.sublist_mergeSort (le := fun x y => !(ltOf ordF) y x) (fun a b c h1 h2 => ?_) (fun a b => ?_) ((sortL_sorted swoF totF l).imp (fun h => by simpa using h)) (List.sublist_append_left _ _)
  · simp at *; exact swoF.ntrans c b a h2 h1
  · cases h1 : ltOf ordF b a with
    | false => rfl
    | true =>
      cases h2 : ltOf ordF a b with
      | false => rfl
      | true => have := swoF.trans a b a h2 h1; rw [swoF.irrefl] at this; cases this
end Go.Proofs.YtkjabiabeemfhaaGreatDoor
end
section
/- facts that are told more only (plain) -/
namespace Go.Proofs.YtkjabiabeemfhaaGreatDoor
open Go.RowKit Go.Sort

theorem FcOk.env {s : FxL × ChL} {n : Nat} (h : FcOk s n) : EnvOk (envT s.1 s.2) := envT_ok h.fo h.co
section
variable {s : FxL × ChL} {n : Nat} {x : Td}
theorem tell_get (h : FcOk s n) (hno : x.c = false → getA s.1 (x.k, x.d) = none) : ∀ day k v, getF s.1 day k = some v → getF (tellFx s.1 x) day k = some v := by
  intro day k v hv
  unfold getF at hv ⊢
  unfold tellFx
  split
  · exact hv
  · rename_i hc
    unfold fixL
    split
    · rw [putA_get _ _ _ _ h.fn, if_neg ?_]
      · exact hv
      · intro e
        have := hno (by simpa using hc)
        rw [← e, hv] at this
        cases this
    · exact hv
theorem tell_other (h : FcOk s n) (k d : Int) : getC (tellCh s.2 x) k d = getC s.2 k d ∨ (x.c = true ∧ k = x.k ∧ d = x.d ∧ getC (tellCh s.2 x) k d = some x.p) := by
  unfold getC tellCh
  split
  · rename_i hc
    unfold chooseL
    split
    · rw [putA_get _ _ _ _ h.cn]
      split
      · rename_i e
        cases e
        exact .inr ⟨hc, rfl, rfl, rfl⟩
      · exact .inl rfl
    · exact .inl rfl
  · exact .inl rfl
theorem tell_cho (h : FcOk s n) (hno : x.c = true → getA s.2 (x.k, x.d) = none) : ∀ k d p, getC s.2 k d = some p → getC (tellCh s.2 x) k d = some p := by
  intro k d p hp
  rcases tell_other (x := x) h k d with e | ⟨hc, rfl, rfl, -⟩
  · rw [e]; exact hp
  · have := hno hc
    unfold getC at hp
    rw [hp] at this
    cases this
end
/-! More, but none that is there, and no choice of a key of an Any -/
def keyAny (ts : List Nd) (k : Int) : Bool := ts.any (fun x => x.op == 17 && x.a == k)
theorem keyAny_not {ts : List Nd} {k : Int} (h : keyAny ts k = false) : ∀ x ∈ ts, x.op = 17 → x.a ≠ k := by
  intro x hx h17 e
  unfold keyAny at h
  rw [List.any_eq_false] at h
  exact h x hx (by simp [h17, e])
def isK (ts : List Nd) (s : FxL × ChL) (x : Td) : Bool := if x.c then (getA s.2 (x.k, x.d)).isSome || keyAny ts x.k else (getA s.1 (x.k, x.d)).isSome
def knownM (ts : List Nd) (s : FxL × ChL) (x : Td) : FxL × ChL := if isK ts s x then s else tellS s x
theorem EnvLe.refl (ts : List Nd) (env : Env) : EnvLe ts env env := ⟨fun _ _ _ h => h, fun _ _ _ h => h, fun _ _ _ _ => rfl⟩
theorem EnvLe.trans {ts : List Nd} {e e' e'' : Env} (h : EnvLe ts e e') (k : EnvLe ts e' e'') : EnvLe ts e e'' :=
  ⟨fun a b c d => k.get a b c (h.get a b c d), fun a b c d => k.cho a b c (h.cho a b c d), fun x hx h17 d => (k.any x hx h17 d).trans (h.any x hx h17 d)⟩
theorem not_some {α : Type} {o : Option α} (h : o.isSome = false) : o = none := by cases o with | none => rfl | some v => cases h
theorem known_step {ts : List Nd} {s : FxL × ChL} {n : Nat} {x : Td} (h : FcOk s n) (hx : x.ok) : FcOk (knownM ts s x) (n + 1) ∧ EnvLe ts (envT s.1 s.2) (envT (knownM ts s x).1 (knownM ts s x).2) := by
  unfold knownM
  cases hk : isK ts s x with
  | true => exact ⟨⟨h.fn, h.fo, h.cn, h.co, Nat.le_succ_of_le h.cl⟩, EnvLe.refl _ _⟩
  | false =>
    simp only [Bool.false_eq_true, if_false]
    unfold isK at hk
    refine ⟨h.tell hx, ⟨tell_get h (fun hc => ?_), tell_cho h (fun hc => ?_), fun y hy h17 d => ?_⟩⟩
    · rw [hc] at hk; exact not_some (by simpa using hk)
    · rw [hc] at hk; simp only [if_true, Bool.or_eq_false_iff] at hk; exact not_some hk.1
    · rcases tell_other (x := x) h y.a d with e | ⟨hc, e, -, -⟩
      · exact e
      · rw [hc] at hk
        simp only [if_true, Bool.or_eq_false_iff] at hk
        exact absurd e (keyAny_not hk.2 y hy h17)
theorem known_all {ts : List Nd} (l : List Td) (hok : ∀ x ∈ l, x.ok) : ∀ (s : FxL × ChL) (n : Nat), FcOk s n → FcOk (l.foldl (knownM ts) s) (n + l.length) ∧ EnvLe ts (envT s.1 s.2) (envT (l.foldl (knownM ts) s).1 (l.foldl (knownM ts) s).2) := by
  induction l with
  | nil => exact fun _ _ h => ⟨h, EnvLe.refl _ _⟩
  | cons x r ih =>
    intro s n h
    obtain ⟨h1, h2⟩ := known_step (ts := ts) h (hok x List.mem_cons_self)
    obtain ⟨h3, h4⟩ := ih (fun y hy => hok y (List.mem_cons_of_mem _ hy)) _ _ h1
    refine ⟨?_, h2.trans h4⟩
    rwa [show n + (x :: r).length = n + 1 + r.length by simp; omega]
theorem waitL_nil {l : List Wt} (h : waitL l = []) : l = [] := by
  cases l with
  | nil => rfl
  | cons x r => have := (waitL_mem (x :: r) x).2 List.mem_cons_self; rw [h] at this; cases this
theorem known_plain {ts : List Nd} {env env' : Env} {day tod : Int} (hok : ∀ x ∈ ts, x.ok) (hE : EnvOk env) (hE' : EnvOk env') (hL : EnvLe ts env env') (h0 : (outT env ts day tod).1 = 0) :
    (waitsT env ts day tod = [] → (outT env' ts day tod).1 = 0 ∧ flowsT env' ts day tod = flowsT env ts day tod) ∧ ((outT env' ts day tod).1 = 0 ∨ (outT env' ts day tod).1 = 11) ∧ ((outT env' ts day tod).1 = 0 → goes (flowsT env ts day tod) (flowsT env' ts day tod) = []) := by
  by_cases hc : ctE ts = 0
  · by_cases hr : day < 0 ∨ 73048 < day ∨ tod < -1 ∨ 73048 < tod
    · rw [out_day hc hr] at h0; cases h0
    · obtain ⟨T, hG, hm⟩ := ct_good hc
      have hh := hd_first hG hm (day := day) (by omega) (by omega)
      unfold flowsT waitsT
      rw [out_den hc hr hG.tree] at h0 ⊢
      rw [out_den hc hr hG.tree]
      obtain ⟨a, b⟩ := den_more hG hok hE hL ⟨T, 0, day, 1, 1⟩ hh h0
      refine ⟨fun hw => ?_, den_code hG hok hE' _ hh, fun hz => ?_⟩
      · obtain ⟨c, d⟩ := b (waitL_nil hw)
        exact ⟨c, by rw [d]⟩
      · obtain ⟨X, hX⟩ := a hz
        refine goes_all ?_
        rw [sort_same swoF totF hX]
        exact sort_sub _ _
  · rw [out_wrong hc] at h0; exact absurd h0 hc
end Go.Proofs.YtkjabiabeemfhaaGreatDoor
end
section
/- rows stay where a map changes -/
namespace Go.Proofs.YtkjabiabeemfhaaGreatDoor
open Go.RowKit
set_option maxRecDepth 100000

/-- No row of cells lies in a map's block. -/
theorem row_grown {α : Type} {sz : Nat} {f : α → Nat → Value} {w w' : World} {v : Value} {xs : List α} {m : Nat} (h : IsRow sz f w v xs) (hg : w.grownBy w' (some m)) (hm : ∃ o : Obj, w.heap[m]? = some o ∧ o.isCells = false) : IsRow sz f w' v xs := by
  obtain ⟨ob, h1, h2⟩ := hm
  rcases h with h | ⟨b, o, cap, e1, e2, e3, e4, e5⟩
  · exact .inl h
  · refine .inr ⟨b, o, cap, e1, Nat.lt_of_lt_of_le e2 hg.size, e3, e4, fun i hi j hj => ?_⟩
    have hc := e5 i hi j hj
    have hbm : b ≠ m := by
      intro e
      subst e
      unfold World.cell? at hc
      rw [h1] at hc
      cases ob <;> simp_all [Obj.isCells]
    rw [World.cell?_of_block (w := w) (hg.block b e2 (fun e => hbm (Option.some.inj e)))]
    exact hc
theorem FactsAt.map1 {w : World} {p m1 m2 : Nat} {fx : List ((Int × Int) × (Int × Int))} {ch : List ((Int × Int) × Int)} (h : FactsAt w p m1 m2 fx ch) {mm : Nat} (hm : mm = m1 ∨ mm = m2) : ∃ o : Obj, w.heap[mm]? = some o ∧ o.isCells = false := by
  rcases hm with rfl | rfl
  · exact MapL.obj h.x1 _ rfl
  · exact MapL.obj h.x2 _ rfl
end Go.Proofs.YtkjabiabeemfhaaGreatDoor
end
