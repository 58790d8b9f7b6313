/- references of term: Below, Depth -/
import Derived.Test.YtkjabiabeemfhaaGreatDoorQ9
import Derived.Test.YtkjabiabeemfhaaGreatDoorQ4
import Derived.Test.YtkjabiabeemfhaaGreatDoorQ2
import Derived.Test.YtkjabiabeemfhaaGreatDoorQ3
import Derived.Deep.DeepCutAuto
import Derived.Deep.LoopGhost
import Derived.Test.YtkjabiabeemfhaaGreatDoorQ8
set_option linter.all false
set_option linter.all false
section
/- terms as trees, and the places of their nodes in a row -/
namespace Go.Proofs.YtkjabiabeemfhaaGreatDoor
open Go.RowKit
set_option maxRecDepth 100000

/-- A term: a node, and the terms below it. -/
inductive Tm where
  | node : Nd → List Tm → Tm
namespace Tm
def root : Tm → Nd | node x _ => x
def kids : Tm → List Tm | node _ l => l
theorem ind {p : Tm → Prop} (h : ∀ x l, (∀ t ∈ l, p t) → p (node x l)) (t : Tm) : p t := by
  have key : ∀ n (t : Tm), SizeOf.sizeOf t ≤ n → p t := by
    intro n
    induction n with
    | zero => intro t ht; cases t; simp at ht
    | succ n ih =>
      intro t ht
      cases t with
      | node x l =>
        refine h x l (fun s hs => ih s ?_)
        have := List.sizeOf_lt_of_mem hs
        simp at ht
        omega
  exact key _ t (Nat.le_refl _)
/-- Its nodes, each ahead of those below it. -/
def flat : Tm → List Nd
  | node x l => x :: flats l
where flats : List Tm → List Nd
  | [] => []
  | t :: r => flat t ++ flats r
def size : Tm → Nat
  | node _ l => 1 + sizes l
where sizes : List Tm → Nat
  | [] => 0
  | t :: r => size t + sizes r
def depth : Tm → Nat
  | node _ l => depths l + 1
where depths : List Tm → Nat
  | [] => 0
  | t :: r => max (depth t) (depths r)
/-- Each op is one, and has as many terms below it as it tells. -/
def ok : Tm → Prop
  | node x l => makesI x.op ≠ 0 ∧ l.length = manyN x.op ∧ oks l
where oks : List Tm → Prop
  | [] => True
  | t :: r => ok t ∧ oks r
theorem size_flat (t : Tm) : t.flat.length = t.size := by
  induction t using Tm.ind with
  | h x l ih =>
    unfold flat size
    have : ∀ (r : List Tm), (∀ t ∈ r, t.flat.length = t.size) → (flat.flats r).length = size.sizes r := by
      intro r
      induction r with
      | nil => intro _; rfl
      | cons t r ihr => intro h; simp [flat.flats, size.sizes, h t (by simp), ihr (fun s hs => h s (by simp [hs]))]
    rw [List.length_cons, this l ih]; omega
theorem depth_size (t : Tm) : t.depth ≤ t.size := by
  induction t using Tm.ind with
  | h x l ih =>
    unfold depth size
    have : ∀ (r : List Tm), (∀ t ∈ r, t.depth ≤ t.size) → depth.depths r ≤ size.sizes r := by
      intro r
      induction r with
      | nil => intro _; exact Nat.le_refl _
      | cons t r ihr => intro h; have h1 := h t (by simp); have h2 := ihr (fun s hs => h s (by simp [hs])); simp only [depth.depths, size.sizes]; omega
    have := this l ih
    omega
theorem size_pos (t : Tm) : 1 ≤ t.size := by cases t; unfold size; omega
end Tm

/-- At a place of a row of nodes a term stands. -/
def TmAt (ts : List Nd) (k : Nat) (t : Tm) : Prop := t.ok ∧ t.flat <+: ts.drop k
/-- Terms stand one behind the other. -/
def TmsAt (ts : List Nd) (k : Nat) (l : List Tm) : Prop := Tm.ok.oks l ∧ Tm.flat.flats l <+: ts.drop k
theorem TmAt.le {ts : List Nd} {k : Nat} {t : Tm} (h : TmAt ts k t) : k + t.size ≤ ts.length := by
  have h1 := h.2.length_le
  have h2 := t.size_pos
  rw [Tm.size_flat, List.length_drop] at h1
  omega
theorem drop_prefix_add {α : Type} {ts a b : List α} {k : Nat} (h : (a ++ b) <+: ts.drop k) : a <+: ts.drop k ∧ b <+: ts.drop (k + a.length) := by
  obtain ⟨c, hc⟩ := h
  refine ⟨⟨b ++ c, by rw [← hc, List.append_assoc]⟩, ⟨c, ?_⟩⟩
  rw [← List.drop_drop, ← hc, List.append_assoc, List.drop_left']
  rfl
theorem TmsAt.cons {ts : List Nd} {k : Nat} {t : Tm} {l : List Tm} (h : TmsAt ts k (t :: l)) : TmAt ts k t ∧ TmsAt ts (k + t.size) l := by
  obtain ⟨⟨h1, h2⟩, h3⟩ := h
  have := drop_prefix_add (a := t.flat) h3
  rw [Tm.size_flat] at this
  exact ⟨⟨h1, this.1⟩, h2, this.2⟩
theorem TmAt.root {ts : List Nd} {k : Nat} {x : Nd} {l : List Tm} (h : TmAt ts k (.node x l)) : ts[k]? = some x ∧ TmsAt ts (k + 1) l ∧ makesI x.op ≠ 0 ∧ l.length = manyN x.op := by
  obtain ⟨⟨h1, h2, h3⟩, h4⟩ := h
  have h5 := drop_prefix_add (a := [x]) (b := Tm.flat.flats l) h4
  refine ⟨?_, ⟨h3, h5.2⟩, h1, h2⟩
  obtain ⟨c, hc⟩ := h5.1
  have : (ts.drop k)[0]? = some x := by rw [← hc]; rfl
  simpa using this
theorem TmAt.end_ {ts : List Nd} : ∀ {t : Tm} {k : Nat}, TmAt ts k t → endN ts k = some (k + t.size) := by
  intro t
  induction t using Tm.ind with
  | h x l ih =>
    intro k h
    obtain ⟨h1, h2, h3, h4⟩ := h.root
    rw [endN_eq, h1]
    simp only
    rw [if_neg h3, ← h4]
    have key : ∀ (r : List Tm) (j : Nat), (∀ t ∈ r, ∀ {k : Nat}, TmAt ts k t → endN ts k = some (k + t.size)) → TmsAt ts j r → kidsEnd (endN ts) r.length j = some (j + Tm.size.sizes r) := by
      intro r
      induction r with
      | nil => intro j _ _; rfl
      | cons t r ihr =>
        intro j hr hj
        obtain ⟨h5, h6⟩ := hj.cons
        show (match endN ts j with | none => none | some k' => kidsEnd (endN ts) r.length k') = _
        rw [hr t (by simp) h5]
        simp only
        rw [ihr _ (fun s hs => hr s (by simp [hs])) h6]
        simp [Tm.size.sizes]; omega
    rw [key l (k + 1) ih h2]
    unfold Tm.size
    simp; omega
/-- Where a term begins, there is one. -/
theorem tm_of_end {ts : List Nd} : ∀ {n k r : Nat}, ts.length - k ≤ n → endN ts k = some r → ∃ t, TmAt ts k t ∧ r = k + t.size := by
  intro n
  induction n with
  | zero => intro k r hn h; rw [endN_none (by omega)] at h; cases h
  | succ n ih =>
    intro k r hn h
    rw [endN_eq] at h
    by_cases hk : k < ts.length
    · rw [List.getElem?_eq_getElem hk] at h
      simp only at h
      split at h
      · cases h
      · rename_i hm
        have key : ∀ (m j r : Nat), k + 1 ≤ j → kidsEnd (endN ts) m j = some r → ∃ l, l.length = m ∧ TmsAt ts j l ∧ r = j + Tm.size.sizes l := by
          intro m
          induction m with
          | zero =>
            intro j r _ h
            simp only [kidsEnd, Option.some.injEq] at h
            exact ⟨[], rfl, ⟨trivial, List.nil_prefix⟩, by simp [Tm.size.sizes, h]⟩
          | succ m ihm =>
            intro j r hj h
            simp only [kidsEnd] at h
            cases hf : endN ts j with
            | none => rw [hf] at h; cases h
            | some j' =>
              rw [hf] at h
              have h1 := endN_gt hf
              obtain ⟨t, ht, rfl⟩ := ih (k := j) (by omega) hf
              obtain ⟨l, hl, hl2, rfl⟩ := ihm _ r (by omega) h
              refine ⟨t :: l, by simp [hl], ⟨⟨ht.1, hl2.1⟩, ?_⟩, by simp [Tm.size.sizes]; omega⟩
              obtain ⟨c, hc⟩ := ht.2
              obtain ⟨d, hd⟩ := hl2.2
              refine ⟨d, ?_⟩
              show (t.flat ++ Tm.flat.flats l) ++ d = ts.drop j
              rw [List.append_assoc, hd, ← List.drop_drop, ← hc, ← Tm.size_flat, List.drop_left']
              rfl
        obtain ⟨l, hl, hl2, rfl⟩ := key _ _ _ (Nat.le_refl _) h
        refine ⟨.node ts[k] l, ⟨⟨hm, hl, hl2.1⟩, ?_⟩, by unfold Tm.size; omega⟩
        obtain ⟨d, hd⟩ := hl2.2
        refine ⟨d, ?_⟩
        show ts[k] :: (Tm.flat.flats l ++ d) = ts.drop k
        rw [hd, List.getElem_cons_drop]
    · rw [List.getElem?_eq_none (by omega)] at h; cases h
/-- Every place inside a term is one of its terms. -/
theorem tm_at_all {ts : List Nd} : ∀ {t : Tm} {k j : Nat}, TmAt ts k t → k ≤ j → j < k + t.size → ∃ s, TmAt ts j s ∧ j + s.size ≤ k + t.size := by
  intro t
  induction t using Tm.ind with
  | h x l ih =>
    intro k j h h1 h2
    by_cases hj : j = k
    · subst hj; exact ⟨_, h, Nat.le_refl _⟩
    · obtain ⟨_, h4, _, _⟩ := h.root
      have key : ∀ (r : List Tm) (i : Nat), (∀ t ∈ r, ∀ {k j : Nat}, TmAt ts k t → k ≤ j → j < k + t.size → ∃ s, TmAt ts j s ∧ j + s.size ≤ k + t.size) → TmsAt ts i r → i ≤ j → j < i + Tm.size.sizes r → ∃ s, TmAt ts j s ∧ j + s.size ≤ i + Tm.size.sizes r := by
        intro r
        induction r with
        | nil => intro i _ _ h5 h6; simp [Tm.size.sizes] at h6; omega
        | cons t r ihr =>
          intro i hr hi h5 h6
          obtain ⟨h7, h8⟩ := hi.cons
          simp only [Tm.size.sizes] at h6 ⊢
          by_cases hlt : j < i + t.size
          · obtain ⟨s, hs1, hs2⟩ := hr t (by simp) h7 h5 hlt
            exact ⟨s, hs1, by omega⟩
          · obtain ⟨s, hs1, hs2⟩ := ihr _ (fun s hs => hr s (by simp [hs])) h8 (by omega) (by omega)
            exact ⟨s, hs1, by omega⟩
      have h5 : (Tm.node x l).size = 1 + Tm.size.sizes l := rfl
      rw [h5] at h2 ⊢
      obtain ⟨s, hs1, hs2⟩ := key l (k + 1) ih h4 (by omega) (by omega)
      exact ⟨s, hs1, by omega⟩
theorem TmAt.self (t : Tm) (h : t.ok) : TmAt t.flat 0 t := ⟨h, by rw [List.drop_zero]; exact List.prefix_refl _⟩
/-- One row of nodes is one term. -/
theorem TmAt.unique {ts : List Nd} : ∀ {t : Tm} {k : Nat} {s : Tm}, TmAt ts k t → TmAt ts k s → t = s := by
  intro t
  induction t using Tm.ind with
  | h x l ih =>
    intro k s h1 h2
    cases s with
    | node y m =>
      obtain ⟨a1, a2, a3, a4⟩ := h1.root
      obtain ⟨b1, b2, b3, b4⟩ := h2.root
      rw [a1] at b1
      cases b1
      have key : ∀ (r q : List Tm) (j : Nat), (∀ t ∈ r, ∀ {k : Nat} {s : Tm}, TmAt ts k t → TmAt ts k s → t = s) → r.length = q.length → TmsAt ts j r → TmsAt ts j q → r = q := by
        intro r
        induction r with
        | nil => intro q j _ hl _ _; cases q with | nil => rfl | cons => simp at hl
        | cons t r ihr =>
          intro q j hr hl h3 h4
          cases q with
          | nil => simp at hl
          | cons s q =>
            obtain ⟨c1, c2⟩ := h3.cons
            obtain ⟨d1, d2⟩ := h4.cons
            obtain rfl := hr t (by simp) c1 d1
            rw [ihr q _ (fun s hs => hr s (by simp [hs])) (by simpa using hl) c2 d2]
      rw [key l m (k + 1) ih (by omega) a2 b2]
end Go.Proofs.YtkjabiabeemfhaaGreatDoor
end
section
/- term.kids: the iterator over the terms below a node -/
namespace Go.Proofs.YtkjabiabeemfhaaGreatDoor
open Go.RowKit
set_option maxRecDepth 100000
attribute [local go_sem] Oper.semAt_some field_makes field_many field_below

/-- Where the j-th term below stands. -/
def placeN (k : Nat) (l : List Tm) (j : Nat) : Nat := k + 1 + Tm.size.sizes (l.take j)
theorem placeN_succ {k : Nat} {l : List Tm} {j : Nat} (h : j < l.length) : placeN k l (j + 1) = placeN k l j + (l[j]).size := by
  have key : ∀ (l : List Tm) (j : Nat) (h : j < l.length), Tm.size.sizes (l.take (j + 1)) = Tm.size.sizes (l.take j) + (l[j]).size := by
    intro l
    induction l with
    | nil => intro j h; simp at h
    | cons t r ih =>
      intro j h
      cases j with
      | zero => simp [Tm.size.sizes]
      | succ j => simp only [List.take_succ_cons, Tm.size.sizes, List.getElem_cons_succ]; rw [ih j (by simpa using h)]; omega
  unfold placeN; rw [key l j h]; omega
theorem placeN_at {ts : List Nd} {k : Nat} {x : Nd} {l : List Tm} (h : TmAt ts k (.node x l)) {j : Nat} (hj : j < l.length) : TmAt ts (placeN k l j) l[j] := by
  obtain ⟨_, h2, _, _⟩ := h.root
  have key : ∀ (l : List Tm) (i j : Nat) (hj : j < l.length), TmsAt ts i l → TmAt ts (i + Tm.size.sizes (l.take j)) l[j] := by
    intro l
    induction l with
    | nil => intro i j hj; simp at hj
    | cons t r ih =>
      intro i j hj h
      obtain ⟨h3, h4⟩ := h.cons
      cases j with
      | zero => simpa [Tm.size.sizes] using h3
      | succ j =>
        have := ih (i + t.size) j (by simpa using hj) h4
        simp only [List.take_succ_cons, Tm.size.sizes, List.getElem_cons_succ]
        rwa [Nat.add_assoc] at this
  exact key l (k + 1) j hj h2

set_option maxHeartbeats 400000 in
theorem kids_make (p : Option Addr) (L cp : Nat) (k : Int) (w : World) :
    Calls Tryz.prog 120 #[.slice p L cp, .int .i64 k] w fun e w' => e = .returned (.func (.func 166) #[] #[.pointer (some ⟨w.heap.size + 1, 0, none⟩), .pointer (some ⟨w.heap.size, 0, none⟩)]) ∧
      w' = (w.alloc (.cells #[.slice p L cp] 22)).alloc (.cells #[.int .i64 k] 3) := by
  have hmf : ∀ (fn : Fn) (first cap : Array Value) (w : World), (Instr.makeFunc fn first cap).run Tryz.prog w = .ok (.func fn first cap) w := fun _ _ _ _ => rfl
  go_enter Tryz.func120, Tryz.ntmps120
  go_wp2
  go_ret
  exact ⟨rfl, rfl⟩

set_option maxHeartbeats 2000000 in
theorem kids_run (ts : List Nd) (hlen : ts.length ≤ 100000) (k : Nat) (x : Nd) (l : List Tm) (hT : TmAt ts k (.node x l)) (n Bt Ba n₀ ll : Nat) (v : Value) (w₁ : World) (h1 : w₁.heap.size = n₀)
    (hS : Shapes w₁) (hN : IsNodes w₁ v ts) (J Jx : List (Fin l.length) → World → Prop) (W : World) (hJ : AbidesFrom W.heap.size J)
    (hY : ∀ pre (x : Fin l.length) W, J pre W → pre.length < l.length → YieldAt Fence.wide (n - 1) Tryz.prog ll #[.int .i64 (x.1 : Int), .int .i64 (placeN k l x.1 : Int)] W fun e W' =>
      (e = .returned (.bool true) ∧ J (pre ++ [x]) W' ∧ Kb n₀ [Bt] W W') ∨ (e = .returned (.bool false) ∧ Jx (pre ++ [x]) W'))
    (hL : Below n₀ w₁ W) (ht : W.cell? ⟨Bt, 0, none⟩ = some v) (ha : W.cell? ⟨Ba, 0, none⟩ = some (.int .i64 k)) (h0 : J [] W) :
    CallsIn Fence.wide n Tryz.prog 166 #[.func (.yield ll) #[] #[], .pointer (some ⟨Ba, 0, none⟩), .pointer (some ⟨Bt, 0, none⟩)] W fun e W' => (∃ v, e = .returned v) ∧
      ((∃ ys, ys = List.finRange l.length ∧ J ys W') ∨ (∃ pre : List (Fin l.length), True ∧ Jx pre W')) := by
  subst h1
  obtain ⟨hr1, hr2, hr3, hr4⟩ := hT.root
  have hk : k < ts.length := by have := hT.le; have := (Tm.node x l).size_pos; omega
  obtain ⟨b, o, cp, hv, hb, hcap, g0, -⟩ := hN.full hk
  subst hv
  have hx0 : (ts[k]).op = x.op := by rw [List.getElem?_eq_getElem hk] at hr1; cases hr1; rfl
  rw [hx0] at g0
  have gW := ((hL.cell (p := ⟨b, o + k * 5, none⟩) hb).trans g0)
  have HSL := Lib.hid (fun W' (h : Later w₁ W') => hS.later h)
  have HNL := Lib.hid (fun W' (h : Later w₁ W') => hN.later h)
  have HOF := Lib.hid (fun W hW => of_shape x.op W hW)
  have HEN := Lib.hid (fun j W h1 h2 h3 => end_any ts hlen _ j (.slice (some ⟨b, o, none⟩) ts.length cp) W (Nat.le_refl _) h1 h2 h3)
  have hml := many_le x.op
  have HP := Lib.hid (fun j (hj : j < l.length) => placeN_at hT hj)
  unfold shpV at HOF
  rw [← hr4] at HOF hml
  have HJ := Lib.hid hJ
  have HY := Lib.hid hY
  clear hT hr1 hr2 hr3 hr4 hx0 g0 hS hN hJ hY
  have HL := Lib.hid (HSL.out W hL)
  refine callsIn_of_wp Tryz.func166 rfl trivial ?_ rfl
  simp only [Tryz.ntmps166, List.size_toArray, List.length_cons, List.length_nil, Nat.reduceAdd, Nat.reduceSub, Array.replicate_succ, Array.replicate_zero, List.push_toArray, List.append_toArray, List.nil_append, List.cons_append]
  gi_wp2_with (refine ⟨trivial, fun hh => (by cases hh), ?_⟩; gi_at_call 122; go_must (refine (callsIn_wide.2 (HOF.out _ HL.out)).mono ?_; rintro e w1 ⟨rfl, hb1⟩))
  have hL1 := Lib.hid (below_later hL (Below.size hL) hb1)
  have ht1 := ((bcell hb1).1 _ _ (World.block_lt_of_cell? _ _ ht)).trans ht
  have hJ1 := abides_later HJ.out h0 hb1
  have HP2 := Lib.hid (fun j (hj : j < l.length) => placeN_succ (k := k) hj)
  clear hb1 h0 ht ha gW hL HL HOF
  gi_loopw [4, 15] (fun s4 s15 wr => ∃ j : Nat, j ≤ l.length ∧ s15 = .int .i64 j ∧ s4 = .int .i64 (placeN k l j) ∧ J ((List.finRange l.length).take j) wr ∧ wr.cell? ⟨Bt, 0, none⟩ = some (.slice (some ⟨b, o, none⟩) ts.length cp) ∧ Hid (Later w₁ wr)) (fun _ s15 _ => l.length - (intOf s15).toNat)
  case atStart => exact ⟨0, Nat.zero_le _, rfl, by unfold placeN; simp [Tm.size.sizes], by simpa using hJ1, ht1, hL1⟩
  case round =>
    obtain ⟨j, hj, rfl, rfl, hJs, htr, hLr⟩ := hrel
    by_cases hlt : j < l.length
    · obtain ⟨fn, tmps, assign, body, hy, hR⟩ := HY.out _ ⟨j, hlt⟩ wr hJs (by rw [List.length_take, List.length_finRange]; omega)
      have htk : (List.finRange l.length).take j ++ [⟨j, hlt⟩] = (List.finRange l.length).take (j + 1) := by
        rw [List.take_succ_eq_append_getElem (by simpa using hlt)]; simp
      have HPJ := HP.out j hlt
      have hle := HPJ.le
      have HC := Lib.hid (fun W h2 h3 => HEN.out (placeN k l j) W (by omega) h2 h3)
      rw [HPJ.end_] at HC
      simp only [optI] at HC
      rw [← HP2.out j hlt] at HC
      rw [htk] at hR
      obtain ⟨pj, hpj⟩ : ∃ pj, placeN k l j = pj := ⟨_, rfl⟩
      obtain ⟨pj1, hpj1⟩ : ∃ pj, placeN k l (j + 1) = pj := ⟨_, rfl⟩
      have HPJ1 := Lib.hid hpj1
      dsimp only at hy hR
      rw [hpj] at hy HC ⊢
      rw [hpj1] at HC
      clear HPJ hle htk hpj hpj1 hJs
      gi_wp2
      refine ⟨fun hh => (by cases hh), hR.mono ?_⟩
      rintro e W3 (⟨rfl, hJ3, hk3⟩ | ⟨rfl, hJx3⟩)
      · have ht3 := (hk3.2 Bt (by simp) 0).trans htr
        have hL3 : Later w₁ W3 := Below.trans hLr.out hk3.1
        have HS3 := Lib.hid (HSL.out W3 hL3)
        have HN3 := Lib.hid (HNL.out W3 hL3)
        have hsz := Below.size hk3.1
        have HL3 := Lib.hid hL3
        clear hR hk3 hy htr hLr hL3
        gi_wp2_with (refine ⟨trivial, fun hh => (by cases hh), ?_⟩; gi_at_call 78; go_must (refine (callsIn_wide.2 (HC.out _ HS3.out HN3.out)).mono ?_; rintro e w3 ⟨rfl, hb3⟩))
        go_roundw
        case rel => exact ⟨j + 1, by omega, by simp, by rw [HPJ1.out], abides_later HJ.out hJ3 hb3, ((bcell hb3).1 _ _ (World.block_lt_of_cell? _ _ ht3)).trans ht3, Lib.hid (below_later HL3.out (Below.size HL3.out) hb3)⟩
        case measure => simp [intOf]; omega
      · gi_wp2
        refine bodyPost_ret (results_none rfl _ _ _) rfl ?_
        exact ⟨⟨_, rfl⟩, .inr ⟨_, trivial, hJx3⟩⟩
    · obtain rfl : j = l.length := by omega
      gi_wp2
      go_end0
      exact ⟨⟨_, rfl⟩, .inl (by rwa [List.take_of_length_le (by simp)] at hJs)⟩

theorem kids_stops (ts : List Nd) (hlen : ts.length ≤ 100000) (k : Nat) (x : Nd) (l : List Tm) (hT : TmAt ts k (.node x l)) (n Bt Ba : Nat) (v : Value) (w₁ w0 : World)
    (hS : Shapes w₁) (hN : IsNodes w₁ v ts) (hL : Later w₁ w0) (ht : w0.cell? ⟨Bt, 0, none⟩ = some v) (ha : w0.cell? ⟨Ba, 0, none⟩ = some (.int .i64 k)) :
    SeqStopsK Fence.wide n Tryz.prog 166 #[.pointer (some ⟨Ba, 0, none⟩), .pointer (some ⟨Bt, 0, none⟩)] (fun x : Fin l.length => #[Value.int .i64 (x.1 : Int), Value.int .i64 (placeN k l x.1 : Int)]) (Kb w₁.heap.size [Bt])
      (fun ys => ys = List.finRange l.length) (fun _ => True) l.length w0 := fun ll J Jx W hW hJ _ hY h0 =>
  kids_run ts hlen k x l hT n Bt Ba _ ll v w₁ rfl hS hN J Jx W hJ hY (hL.trans hW)
    ((hW.cell (World.block_lt_of_cell? _ _ ht)).trans ht) ((hW.cell (World.block_lt_of_cell? _ _ ha)).trans ha) h0
end Go.Proofs.YtkjabiabeemfhaaGreatDoor
end
section
/- term.deep: the depth of a term -/
namespace Go.Proofs.YtkjabiabeemfhaaGreatDoor
open Go.RowKit
set_option maxRecDepth 100000
attribute [local go_sem] Oper.semAt_some

def dm (l : List Tm) (pre : List (Fin l.length)) : Nat := pre.foldl (fun d i => max d (l[i]).depth) 0
theorem dm_snoc (l : List Tm) (pre : List (Fin l.length)) (i : Fin l.length) : dm l (pre ++ [i]) = max (dm l pre) (l[i]).depth := by simp [dm]
theorem dm_all (x : Nd) (l : List Tm) : dm l (List.finRange l.length) + 1 = (Tm.node x l).depth := by
  have h1 : ∀ (l : List Tm), Tm.depth.depths l = l.foldr (fun t d => max t.depth d) 0 := by
    intro l
    induction l with
    | nil => rfl
    | cons t r ih => simp [Tm.depth.depths, ih]
  have h2 : dm l (List.finRange l.length) = ((List.finRange l.length).map (fun i => (l[i]).depth)).foldl max 0 := by rw [List.foldl_map]; rfl
  have h3 : (List.finRange l.length).map (fun i => (l[i]).depth) = l.map Tm.depth := by
    apply List.ext_getElem <;> simp
  have h4 : ∀ (r : List Nat) (a : Nat), r.foldl max a = max a (r.foldr max 0) := by
    intro r
    induction r with
    | nil => intro a; simp
    | cons b r ih => intro a; rw [List.foldl_cons, ih, List.foldr_cons]; omega
  have h5 : (Tm.node x l).depth = Tm.depth.depths l + 1 := rfl
  rw [h2, h3, h4, h5, h1, List.foldr_map]; omega

set_option maxHeartbeats 2000000 in
theorem deep_any (ts : List Nd) (hlen : ts.length ≤ 100000) : ∀ (T : Tm) (k : Nat) (v : Value) (w : World), TmAt ts k T → Shapes w → IsNodes w v ts →
    Calls Tryz.prog 123 #[v, .int .i64 k] w fun e w' => e = .returned (.int .i64 (T.depth : Int)) ∧ Later w w' := by
  intro T
  induction T using Tm.ind with
  | h x l ih =>
    intro k v w hT hS hN
    obtain ⟨p, cp, rfl⟩ := hN.form
    have HK := Lib.hid (fun W => kids_make p ts.length cp (k : Int) W)
    have hST := Lib.hid hS
    have hNT := Lib.hid hN
    have HT := Lib.hid hT
    have HIH := Lib.hid (fun (i : Fin l.length) (W : World) (hl : Later w W) => ih l[i] (List.getElem_mem _) (placeN k l i.1) (.slice p ts.length cp) W (placeN_at hT i.2) (hS.later hl) (hN.later hl))
    clear ih hS hN hT
    refine callsIn_wide.1 (callsIn_of_wp_marks (n := 9) Tryz.func123 rfl trivial ?_ rfl)
    simp only [Tryz.ntmps123, List.size_toArray, List.length_cons, List.length_nil, Nat.reduceAdd, Nat.reduceSub, Array.replicate_succ, Array.replicate_zero, List.push_toArray, List.append_toArray, List.nil_append, List.cons_append]
    gi_wp2_with ((first | (refine ⟨trivial, ?_⟩; gi_at_call 120) | (refine ⟨trivial, fun hh => (by cases hh), ?_⟩; gi_at_call 120)); go_must (refine (callsIn_wide.2 (HK.out _)).mono ?_; rintro e w1 ⟨rfl, rfl⟩))
    have hO := Lib.hid (Own.four (Later.refl ((((w.alloc (.cells #[.slice p ts.length cp] 22)).alloc (.cells #[.int .i64 0] 3)).alloc (.cells #[.slice p ts.length cp] 22)).alloc (.cells #[.int .i64 k] 3))))
    have hL := Lib.hid (((((Later.refl w).alloc (.cells #[.slice p ts.length cp] 22)).alloc (.cells #[.int .i64 0] 3)).alloc (.cells #[.slice p ts.length cp] 22)).alloc (.cells #[.int .i64 k] 3))
    obtain ⟨W0, hW0⟩ : ∃ W0, ((((w.alloc (.cells #[.slice p ts.length cp] 22)).alloc (.cells #[.int .i64 0] 3)).alloc (.cells #[.slice p ts.length cp] 22)).alloc (.cells #[.int .i64 k] 3)) = W0 := ⟨_, rfl⟩
    rw [hW0] at hO hL ⊢
    clear hW0
    obtain ⟨⟨z0, c0, -⟩, ⟨z1, c1, f1⟩, ⟨z2, c2, -⟩, ⟨z3, c3, -⟩, -⟩ := hO.out
    clear hO
    refine wpIn_rangeFunc_ownF rfl (by omega) (gf := 166) (lb := #[.pointer (some ⟨w.heap.size + 1 + 1 + 1, 0, none⟩), .pointer (some ⟨w.heap.size + 1 + 1, 0, none⟩)]) rfl trivial (enters_of Tryz.func166 (by kernel_rfl) rfl)
      (kids_stops ts hlen k x l HT.out 8 (w.heap.size + 1 + 1) (w.heap.size + 1 + 1 + 1) (.slice p ts.length cp) w W0 hST.out hNT.out hL.out (c2 0) (c3 0)) kb_t (kb_b (Below.size hL.out) (by simp; omega)) (Below.refl _ _) (fun _ => rfl)
      (fun pre W => (W.cell? ⟨w.heap.size + 1, 0, none⟩ = some (.int .i64 (dm l pre : Int)) ∧ W.frozen? ⟨w.heap.size + 1, 0, none⟩ = false ∧ W.cell? ⟨w.heap.size, 0, none⟩ = some (.slice p ts.length cp) ∧ W.cell? ⟨w.heap.size + 1 + 1, 0, none⟩ = some (.slice p ts.length cp)) ∧ Below w.heap.size w W)
      (fun _ _ _ => False)
      (OwnFrom.and (Own.from (fun s A B row hs hg hr => ⟨cell_kept hs.1 hg hr, (frozen_kept hs.1 hg hr).trans hs.2.1, cell_kept hs.2.2.1 hg hr, cell_kept hs.2.2.2 hg hr⟩) _) (ownFrom_below (Nat.le_refl _) (Below.size hL.out)))
      (fun _ _ _ _ _ hs _ _ => hs)
      ⟨⟨c1 0, f1 0 (by simp), c0 0, c2 0⟩, hL.out⟩
      (fun i => { tmps := #[.slice p ts.length cp, .int .i64 k, .pointer (some ⟨w.heap.size, 0, none⟩), undef, .int .i64 0, .pointer (some ⟨w.heap.size + 1, 0, none⟩), undef, .int .i64 (placeN k l i.1 : Int), .slice p ts.length cp, .int .i64 k, .func (.func 166) #[] #[.pointer (some ⟨w.heap.size + 1 + 1 + 1, 0, none⟩), .pointer (some ⟨w.heap.size + 1 + 1, 0, none⟩)], .int .i64 (i.1 : Int), .int .i64 (placeN k l i.1 : Int), undef, undef, undef, undef, undef, undef, undef], defers := [] }) ?assign ?body ?done ?stop
    case assign =>
      intro ll i W K hK
      gi_wp2
      exact hK
    case body =>
      rintro ll pre i W ⟨⟨hc, hf, ht, hu⟩, hB⟩ _
      have HI := Lib.hid (HIH.out i)
      clear HIH
      have hBl : Later w W := hB
      have hz1 := World.block_lt_of_cell? _ _ hc
      have hz0 := World.block_lt_of_cell? _ _ ht
      have hz2 := World.block_lt_of_cell? _ _ hu
      have hsz := Below.size hB
      have HS := Lib.hid (dm_snoc l pre i)
      clear hB c0 c1 c2 c3 f1 z0 z1 z2 z3 HT HK hST hNT
      gi_wp2
      refine wpIn_region_plan 5 (.one [0, 1, 2] 3 (.one [] 4 (.one [] 5 (.done [])))) (by kernel_rfl) (by kernel_rfl) (by rintro ⟨_, _, h⟩; exact h) (fun _ _ d _ _ h => by cases d <;> exact h) ?_
      repeat' (first
        | (refine plan_done (fun K hK => ?_); (first | (simp only [pick_cons, pick_nil, toList_some_append, List.getElem?_toArray, List.getElem?_cons_zero, List.getElem?_cons_succ]; repeat (go_big_quiet_step (fail))) | simp only [pick_nil]); refine wpQuiet_nil (hK _ ?_); clear hK K)
        | (refine plan_one (by rfl) (fun K hK => ?_); (first | (simp only [pick_cons, pick_nil, toList_some_append, List.getElem?_toArray, List.getElem?_cons_zero, List.getElem?_cons_succ]; repeat (go_big_quiet_step (fail))) | simp only [pick_nil]); refine wpQuiet_nil (hK _ ?_); clear hK K)
        | ((with_reducible refine at_list ?_); go_wp2_with ((go_at_call 123; go_must (refine (HI.out _ (by repeat (first | with_reducible exact Later.refl _ | with_reducible assumption | with_reducible refine Later.ofdrew ?_ | with_reducible refine Later.ofdrewN ?_ | with_reducible refine Later.setCell ?_ ?_ _ | with_reducible refine Later.alloc ?_ _ | with_reducible refine Later.drewN ?_ _ | with_reducible refine Later.drew ?_ | (with_reducible refine Later.trans ?_ (by assumption)) | (simp only [World.size_setCell, World.size_alloc, World.heap_drewN]; omega) | (simp; done) | (simp; omega)))).mono ?_; rintro e w2 ⟨rfl, hb2⟩; replace hb2 := Later.undrew hb2; have g2 := ((bcell hb2).1 _ _ hz1).trans hc; have f2 := ((bcell hb2).2 _ _ hz1).trans hf; have t2 := ((bcell hb2).1 _ _ hz0).trans ht; have u2 := ((bcell hb2).1 _ _ hz2).trans hu))); first | refine behind_store (t := 5) (by decide) ?_ | refine behind (by repeat (first | with_reducible exact Later.refl _ | with_reducible assumption | with_reducible refine Later.ofdrew ?_ | with_reducible refine Later.ofdrewN ?_ | with_reducible refine Later.alloc ?_ _ | with_reducible refine Later.drewN ?_ _ | with_reducible refine Later.drew ?_ | (with_reducible refine Later.trans ?_ (by assumption)))) ?_))
      have hm : (max (dm l pre : Int) (l[i].depth : Int)) = ((dm l (pre ++ [i]) : Nat) : Int) := by rw [HS.out]; omega
      refine ⟨(keepsOthers_later hb2).trans (KeepsOthers.setCell _ _ _), ⟨(Below.mono hb2 hsz).setCell (p := ⟨w.heap.size + 1, 0, none⟩) (by show w.heap.size ≤ w.heap.size + 1; omega) _, ?_⟩, ⟨?_, ?_, ?_, ?_⟩, (below_later hBl hsz hb2).setCell (p := ⟨w.heap.size + 1, 0, none⟩) (by show w.heap.size ≤ w.heap.size + 1; omega) _⟩
      · intro b hb j
        obtain rfl : b = w.heap.size + 1 + 1 := by simpa using hb
        exact (cell_other (by omega) _).trans ((bcell hb2).1 _ _ hz2)
      · rw [← hm]; exact World.cell?_setCell_same' _ _ _ (by rw [g2]; rfl)
      · rw [World.frozen?_setCell]; exact f2
      · exact (cell_other (by omega) _).trans t2
      · exact (cell_other (by omega) _).trans u2
    case done =>
      rintro D ys W hD rfl ⟨⟨hc, hf, ht, hu⟩, hB⟩ hK
      have hdl := dm_all x l
      have hdz := (Tm.node x l).depth_size
      have hle := HT.out.le
      obtain ⟨d, hd⟩ : ∃ d, dm l (List.finRange l.length) = d := ⟨_, rfl⟩
      rw [hd] at hc hdl
      have hdb : d ≤ 100000 := by omega
      have HD := Lib.hid hdl
      clear hdl hdz hle hd HT HIH HK hST hNT c0 c1 c2 c3 f1 z0 z1 z2 z3
      gi_wp2
      refine ⟨by simp, .inl ⟨_, _, rfl, run_takeDeferred hK, ?_⟩⟩
      exact ⟨_, results_tmp rfl _ _ _, by rw [← HD.out]; rfl, Below.trans hB (belowK_b (w := W0) (Below.size hL.out) W D _ _ hD hK rfl rfl)⟩
    case stop =>
      rintro D c pre W _ _ h _
      exact h.elim
end Go.Proofs.YtkjabiabeemfhaaGreatDoor
end
section
/- walks: chattelref01: Parts -/
namespace Go.Proofs.YtkjabiabeemfhaaGreatDoor
open Go.RowKit
set_option maxRecDepth 100000

theorem own_set_row {w : World} {b k : Nat} {xs : List Value} {x : Value} (h : Own w [(b, xs.toArray)]) (hk : k < xs.length) : Own (w.setCell ⟨b, k, none⟩ x) [(b, (xs.set k x).toArray)] :=
  Own.cons (by simpa using h.1.1) (fun i => by rw [set_own h.1.2.1 x (by simpa using hk) i]; simp) (fun i hi => set_frozen (n := xs.length) (fun i hi => h.1.2.2 i (by simpa using hi)) x i (by simpa using hi)) trivial
end Go.Proofs.YtkjabiabeemfhaaGreatDoor
end
section
/- references of term: Below, Depth -/
namespace Go.Proofs.YtkjabiabeemfhaaGreatDoor
open Go.RowKit
set_option maxRecDepth 100000

/-- The places below a node, up to one. -/
def placesI (k : Nat) (l : List Tm) (j : Nat) : List Int := (List.range j).map (fun i => (placeN k l i : Int))
theorem placesI_length (k : Nat) (l : List Tm) (j : Nat) : (placesI k l j).length = j := by simp [placesI]

end Go.Proofs.YtkjabiabeemfhaaGreatDoor
end
