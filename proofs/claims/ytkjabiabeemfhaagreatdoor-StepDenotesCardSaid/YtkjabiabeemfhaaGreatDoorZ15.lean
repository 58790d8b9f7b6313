/- orders of flows and waits: the closures that the sort calls -/
import Derived.Test.YtkjabiabeemfhaaGreatDoorZ14
import Derived.Test.YtkjabiabeemfhaaGreatDoorZ13
import Derived.Laws.IdiomCopy
import Derived.Deep.Upon
import Derived.Shelf.GgSortFunc.InsertionK
import Derived.Test.YtkjabiabeemfhaaGreatDoorZ1
import Derived.Shelf.SlSortCmp.Insertion
set_option linter.all false
set_option linter.all false
section
namespace Go.Proofs.YtkjabiabeemfhaaGreatDoor
open Go.RowKit
set_option maxRecDepth 100000
structure Fl where
 day : Int
 cur : Int
 amt : Int
 deriving DecidableEq
def flF (x : Fl) : Nat → Value
 | 0 => .int .i64 x.day
 | 1 => .int .i64 x.cur
 | _ => .int .i64 x.amt
def flCs (x : Fl) : List Value := [.int .i64 x.day, .int .i64 x.cur, .int .i64 x.amt]
theorem flCs_len (x : Fl) : (flCs x).length = 3 := rfl
theorem flCs_get (x : Fl) (j : Nat) (hj : j < 3) : (flCs x)[j]? = some (flF x j) := by
 rcases j with _ | _ | _ | j
 ·rfl
 ·rfl
 ·rfl
 ·omega
theorem flCs_one (x : Fl) : ∀ u ∈ flCs x, u.oneCell' = true := by
 intro u hu
 simp only [flCs, List.mem_cons, List.not_mem_nil, or_false] at hu
 rcases hu with rfl | rfl | rfl <;> rfl
abbrev IsFlows (w : World) (v : Value) (l : List Fl) : Prop := IsRow 3 flF w v l
theorem flowInfo : (Tryz.prog.info? 50).map (fun i => (i.zero, i.size, i.bytes)) = some (some (.agg #[.int .i64 0, .int .i64 0, .int .i64 0]), 3, 24) := by kernel_rfl
theorem sliceFlow : SliceOf Tryz.prog 30 50 3 24 := sliceOf_mk Tryz.underlying30 flowInfo rfl (by decide)
theorem sliceInt' : SliceOf Tryz.prog 94 3 1 8 := sliceOf_mk Tryz.underlying94 intInfo rfl (by decide)
theorem owns_flows {base : Nat} {w : World} {v : Value} {n : Nat} {L : List Fl} (h : w.ownsRow base 50 3 v n (L.flatMap flCs)) : IsFlows w v L ∧ n = L.length := B.owns_row flCs flCs_len flCs_get (by decide) h
theorem wpList_flow {base : Nat} {w : World} {v : Value} {L : List Fl} {ops : Array Oper} {rest : List Oper} {o : Oper} {a : Act} {Q : Exit → Act → World → Prop} {ta : TypeId} (y : Fl) (hM : w.ownsRow base 50 3 v L.length (L.flatMap flCs)) (hbase : base ≤ w.heap.size) (hgd : o.guard = none) (s x : Operand)
  (ho : o.op = .call { callee := .builtin .append, args := #[s, x], argTypes := #[30, 30] }) (hs : a.eval s = v) (c b : Nat) (hx : a.eval x = .slice (some ⟨b, 0, none⟩) 1 c) (hb : b = w.heap.size) (h64 : L.length ≤ 1000000)
  (h : ∀ v' w', w'.ownsRow base 50 3 v' (L ++ [y]).length ((L ++ [y]).flatMap flCs) → (w.alloc (.cells #[.int .i64 y.day, .int .i64 y.cur, .int .i64 y.amt] ta)).grownBy w' v.ownBlock → (v'.ownBlock = v.ownBlock ∨ ∀ k, v'.ownBlock = some k → w.heap.size ≤ k) → wpList Tryz.prog ops Q rest (a.put o.dst v') w') :
  wpList Tryz.prog ops Q (o :: rest) a (w.alloc (.cells #[.int .i64 y.day, .int .i64 y.cur, .int .i64 y.amt] ta)) := by
 refine B.wpList_push sliceFlow hM hbase hgd s x ho hs c b hx hb rfl (by simp [Value.oneCell']) (by omega) (by unfold maxLen; omega) (fun v' w' h1 h2 h3 => h v' w' ?_ h2 h3)
 rw [List.length_append, List.flatMap_append]
 exact h1
structure Wt where
 cho : Bool
 key : Int
 day : Int
 deriving DecidableEq
structure Hd where
 T : Tm
 pl : Nat
 day : Int
 n : Int
 d : Int
structure Env where
 get : Int → Int → Option Q2
 cho : Int → Int → Option Int
def firstD (cho : Int → Int → Option Int) (key a b : Int) : Option Int :=
 ((List.range 73049).find? (fun i : Nat => decide (a ≤ (i : Int) ∧ (i : Int) ≤ b ∧ cho key i = some 1))).map (fun i : Nat => (i : Int))
def asksT (env : Env) (day : Int) (s : Tm) : List Wt := ((keysI 2 2 s.flat).filter (fun k => (env.get day k).isNone)).map (fun k => ⟨false, k, day⟩)
def kidH (l : List Tm) (k i : Nat) (day n d : Int) : List Hd := match l[i]? with | some t => [⟨t, placeN k l i, day, n, d⟩] | none => []
abbrev Rs := Int × List Fl × List Wt
abbrev St := Int × List Hd × List Fl × List Wt
def numT (env : Env) (day : Int) (l : List Tm) (i : Nat) : Int × Option Q2 := match l[i]? with | some t => valT (env.get day) t | none => (0, none)
def askI (env : Env) (day : Int) (l : List Tm) (i : Nat) : List Wt := match l[i]? with | some t => asksT env day t | none => []
def scaleT (env : Env) (l : List Tm) (k : Nat) (day n d : Int) : St :=
 if (numT env day l 0).1 ≠ 0 then ((numT env day l 0).1, [], [], []) else
  match (numT env day l 0).2 with
  | none => (0, [], [], askI env day l 0)
  | some v => if rE (n * v.1) (d * v.2) ≠ 0 then (rE (n * v.1) (d * v.2), [], [], []) else (0, kidH l k 1 day (rN (n * v.1) (d * v.2)) (rD (n * v.1) (d * v.2)), [], [])
def condT (env : Env) (l : List Tm) (k : Nat) (day n d : Int) : St :=
 if (numT env day l 0).1 ≠ 0 then ((numT env day l 0).1, [], [], []) else
 if (numT env day l 1).1 ≠ 0 then ((numT env day l 1).1, [], [], []) else
  match (numT env day l 0).2, (numT env day l 1).2 with
  | some v, some u => (0, kidH l k (if v.1 * u.2 < u.1 * v.2 then 2 else 3) day n d, [], [])
  | _, _ => (0, [], [], askI env day l 0 ++ askI env day l 1)
def stepT (env : Env) (tod : Int) (x : Nd) (l : List Tm) (k : Nat) (day n d : Int) : St :=
 if x.op = 10 then (0, [], (if roundI n d = 0 then [] else [⟨day, x.a, roundI n d⟩]), [])
 else if x.op = 11 then (0, kidH l k 0 day (-n) d, [], [])
 else if x.op = 12 then (0, kidH l k 0 day n d ++ kidH l k 1 day n d, [], [])
 else if x.op = 13 then scaleT env l k day n d
 else if x.op = 14 then (0, (if day ≤ x.a then kidH l k 0 x.a n d else []), [], [])
 else if x.op = 15 then condT env l k day n d
 else if x.op = 16 then (match env.cho x.a day with | some p => (0, kidH l k (p - 1).toNat day n d, [], []) | none => (0, [], [], [⟨true, x.a, day⟩]))
 else if x.op = 17 then (match firstD env.cho x.a day (min x.b tod) with | some q => (0, kidH l k 0 q n d, [], []) | none => (0, [], [], []))
 else (0, [], [], [])
def oneH (env : Env) (tod : Int) (h : Hd) : St := if tod < h.day then (0, [], [], []) else stepT env tod h.T.root h.T.kids h.pl h.day h.n h.d
def comb (a b : Rs) : Rs := if a.1 ≠ 0 then (a.1, [], []) else if b.1 ≠ 0 then (b.1, [], []) else (0, a.2.1 ++ b.2.1, a.2.2 ++ b.2.2)
def runQ (env : Env) (tod : Int) : Nat → List Hd → Rs
 | 0, _ => (0, [], [])
 | _ + 1, [] => (0, [], [])
 | n + 1, h :: r => if (oneH env tod h).1 ≠ 0 then ((oneH env tod h).1, [], []) else comb (0, (oneH env tod h).2.2.1, (oneH env tod h).2.2.2) (runQ env tod n (r ++ (oneH env tod h).2.1))
def combL (l : List Rs) : Rs := l.foldr comb (0, [], [])
def denF (env : Env) (tod : Int) : Nat → Hd → Rs
 | 0, _ => (0, [], [])
 | n + 1, h => if (oneH env tod h).1 ≠ 0 then ((oneH env tod h).1, [], []) else comb (0, (oneH env tod h).2.2.1, (oneH env tod h).2.2.2) (combL ((oneH env tod h).2.1.map (denF env tod n)))
def den (env : Env) (tod : Int) (h : Hd) : Rs := denF env tod h.T.size h
def sizesH (q : List Hd) : Nat := (q.map (fun h => h.T.size)).sum
theorem le_sum {x : Nat} : ∀ {l : List Nat}, x ∈ l → x ≤ l.sum
 | a :: r, h => by
  rcases List.mem_cons.1 h with rfl | h
  ·simp
  ·have := le_sum h
   simp; omega
theorem sizes_sum (l : List Tm) : Tm.size.sizes l = (l.map Tm.size).sum := by
 induction l with
 | nil => rfl
 | cons t r ih => simp [Tm.size.sizes, ih]
theorem size_root (T : Tm) : T.size = 1 + Tm.size.sizes T.kids := by cases T; rfl
theorem get_le {l : List Tm} {i : Nat} {t : Tm} (h : l[i]? = some t) : t.size ≤ Tm.size.sizes l := by
 rw [sizes_sum]
 exact le_sum (List.mem_map_of_mem (List.mem_of_getElem? h))
theorem kidH_le (l : List Tm) (k i : Nat) (day n d : Int) : sizesH (kidH l k i day n d) ≤ Tm.size.sizes l := by
 unfold kidH
 split
 ·rename_i t h; simp only [sizesH, List.map_cons, List.map_nil, List.sum_cons, List.sum_nil, Nat.add_zero]; exact get_le h
 ·exact Nat.zero_le _
theorem two_le (l : List Tm) (k : Nat) (day n d : Int) : sizesH (kidH l k 0 day n d ++ kidH l k 1 day n d) ≤ Tm.size.sizes l := by
 unfold kidH
 match l with
 | [] => exact Nat.zero_le _
 | [a] => simp [sizesH, Tm.size.sizes]
 | a :: b :: r => simp [sizesH, Tm.size.sizes]
theorem step_le (env : Env) (tod : Int) (x : Nd) (l : List Tm) (k : Nat) (day n d : Int) : sizesH (stepT env tod x l k day n d).2.1 ≤ Tm.size.sizes l := by
 have h0 : sizesH [] ≤ Tm.size.sizes l := Nat.zero_le _
 unfold stepT
 repeat' split
 all_goals first | exact h0 | exact kidH_le _ _ _ _ _ _ | exact two_le _ _ _ _ _ | skip
 ·unfold scaleT
  repeat' split
  all_goals first | exact h0 | exact kidH_le _ _ _ _ _ _
 ·unfold condT
  repeat' split
  all_goals first | exact h0 | exact kidH_le _ _ _ _ _ _
theorem one_lt (env : Env) (tod : Int) (h : Hd) : sizesH (oneH env tod h).2.1 < h.T.size := by
 unfold oneH
 split
 ·exact Nat.lt_of_lt_of_le (by decide : sizesH [] < 1) h.T.size_pos
 ·have := step_le env tod h.T.root h.T.kids h.pl h.day h.n h.d
  rw [size_root]; omega
theorem mem_le {q : List Hd} {h : Hd} (hm : h ∈ q) : h.T.size ≤ sizesH q := le_sum (List.mem_map_of_mem hm)
theorem denF_enough (env : Env) (tod : Int) : ∀ (n : Nat) (h : Hd), h.T.size ≤ n → denF env tod n h = den env tod h := by
 have key : ∀ (n m : Nat) (h : Hd), h.T.size ≤ n → h.T.size ≤ m → denF env tod n h = denF env tod m h := by
  intro n
  induction n with
  | zero => intro m h hn _; have := h.T.size_pos; omega
  | succ n ih =>
   intro m h hn hm
   cases m with
   | zero => have := h.T.size_pos; omega
   | succ m =>
    have hlt := one_lt env tod h
    have : (oneH env tod h).2.1.map (denF env tod n) = (oneH env tod h).2.1.map (denF env tod m) := List.map_congr_left (fun k hk => by
     have := mem_le hk
     exact ih m k (by omega) (by omega))
    simp only [denF, this]
 intro n h hn
 exact key n _ h hn (Nat.le_refl _)
theorem den_eq (env : Env) (tod : Int) (h : Hd) : den env tod h = if (oneH env tod h).1 ≠ 0 then ((oneH env tod h).1, [], []) else comb (0, (oneH env tod h).2.2.1, (oneH env tod h).2.2.2) (combL ((oneH env tod h).2.1.map (den env tod))) := by
 obtain ⟨n, hn⟩ : ∃ n, h.T.size = n + 1 := ⟨h.T.size - 1, by have := h.T.size_pos; omega⟩
 have hlt := one_lt env tod h
 have : (oneH env tod h).2.1.map (denF env tod n) = (oneH env tod h).2.1.map (den env tod) := List.map_congr_left (fun k hk => by
  have := mem_le hk
  exact denF_enough env tod n k (by omega))
 conv => lhs; unfold den; rw [hn]
 simp only [denF, this]
def Sim (a b : Rs) : Prop := (a.1 = 0 ↔ b.1 = 0) ∧ (a.1 = 0 → a.2.1.Perm b.2.1 ∧ a.2.2.Perm b.2.2)
theorem Sim.refl (a : Rs) : Sim a a := ⟨Iff.rfl, fun _ => ⟨.refl _, .refl _⟩⟩
theorem Sim.symm {a b : Rs} (h : Sim a b) : Sim b a := ⟨h.1.symm, fun hb => ⟨(h.2 (h.1.2 hb)).1.symm, (h.2 (h.1.2 hb)).2.symm⟩⟩
theorem Sim.trans {a b c : Rs} (h : Sim a b) (k : Sim b c) : Sim a c := ⟨h.1.trans k.1, fun ha => ⟨(h.2 ha).1.trans (k.2 (h.1.1 ha)).1, (h.2 ha).2.trans (k.2 (h.1.1 ha)).2⟩⟩
theorem comb_fst {a b : Rs} : (comb a b).1 = 0 ↔ a.1 = 0 ∧ b.1 = 0 := by
 unfold comb
 by_cases ha : a.1 = 0
 ·by_cases hb : b.1 = 0
  ·simp [ha, hb]
  ·simp [ha, hb]
 ·simp [ha]
theorem comb_ok {a b : Rs} (ha : a.1 = 0) (hb : b.1 = 0) : comb a b = (0, a.2.1 ++ b.2.1, a.2.2 ++ b.2.2) := by unfold comb; simp [ha, hb]
theorem Sim.comb {a b c d : Rs} (h : Sim a b) (k : Sim c d) : Sim (comb a c) (comb b d) := by
 refine ⟨by rw [comb_fst, comb_fst, h.1, k.1], fun h0 => ?_⟩
 obtain ⟨ha, hc⟩ := comb_fst.1 h0
 rw [comb_ok ha hc, comb_ok (h.1.1 ha) (k.1.1 hc)]
 exact ⟨(h.2 ha).1.append (k.2 hc).1, (h.2 ha).2.append (k.2 hc).2⟩
theorem comb_comm (a b : Rs) : Sim (comb a b) (comb b a) := by
 refine ⟨by rw [comb_fst, comb_fst, and_comm], fun h0 => ?_⟩
 obtain ⟨ha, hb⟩ := comb_fst.1 h0
 rw [comb_ok ha hb, comb_ok hb ha]
 exact ⟨List.perm_append_comm, List.perm_append_comm⟩
theorem comb_assoc (a b c : Rs) : Sim (comb (comb a b) c) (comb a (comb b c)) := by
 refine ⟨by rw [comb_fst, comb_fst, comb_fst, comb_fst, and_assoc], fun h0 => ?_⟩
 obtain ⟨h1, hc⟩ := comb_fst.1 h0
 obtain ⟨ha, hb⟩ := comb_fst.1 h1
 rw [comb_ok ha hb, comb_ok hb hc, comb_ok (a := (0, _, _)) rfl hc, comb_ok (b := (0, _, _)) ha rfl]
 exact ⟨by simp, by simp⟩
theorem comb_nil (a : Rs) : Sim (comb (0, [], []) a) a := by
 refine ⟨by rw [comb_fst]; simp, fun h0 => ?_⟩
 obtain ⟨_, ha⟩ := comb_fst.1 h0
 rw [comb_ok rfl ha]
 exact ⟨.refl _, .refl _⟩
theorem combL_cons (a : Rs) (l : List Rs) : combL (a :: l) = comb a (combL l) := rfl
theorem combL_app (l m : List Rs) : Sim (combL (l ++ m)) (comb (combL l) (combL m)) := by
 induction l with
 | nil => exact (comb_nil _).symm
 | cons a l ih =>
  rw [List.cons_append, combL_cons, combL_cons]
  exact ((Sim.refl a).comb ih).trans (comb_assoc _ _ _).symm
theorem run_den (env : Env) (tod : Int) : ∀ (n : Nat) (q : List Hd), sizesH q ≤ n → Sim (runQ env tod n q) (combL (q.map (den env tod))) := by
 intro n
 induction n with
 | zero =>
  intro q hq
  cases q with
  | nil => exact Sim.refl _
  | cons h r => have := h.T.size_pos; simp [sizesH] at hq; omega
 | succ n ih =>
  intro q hq
  cases q with
  | nil => exact Sim.refl _
  | cons h r =>
   have hlt := one_lt env tod h
   have hq' : sizesH (r ++ (oneH env tod h).2.1) ≤ n := by
    simp only [sizesH, List.map_append, List.sum_append, List.map_cons, List.sum_cons] at hq hlt ⊢
    omega
   have h1 := ih _ hq'
   rw [List.map_cons, combL_cons, den_eq]
   simp only [runQ]
   by_cases he : (oneH env tod h).1 = 0
   ·simp only [he, ne_eq, not_true_eq_false, if_false]
    refine ((Sim.refl _).comb h1).trans ?_
    rw [List.map_append]
    refine ((Sim.refl _).comb ((combL_app _ _).trans (comb_comm _ _))).trans ?_
    exact (comb_assoc _ _ _).symm
   ·simp only [he, ne_eq, not_false_eq_true, if_true]
    exact ⟨by rw [comb_fst]; simp [he], fun h0 => absurd h0 he⟩
namespace B
def Que (base sz : Nat) (w : World) (v : Value) (n : Nat) (xs : List Value) : Prop :=
 xs.length = n * sz ∧ ((v = .slice none 0 0 ∧ n = 0) ∨ ∃ g o cap, v = .slice (some ⟨g, o, none⟩) n cap ∧ base ≤ g ∧ g < w.heap.size ∧ n ≤ cap ∧ cap ≤ maxLen ∧
  (∀ j, j < n * sz → w.cell? ⟨g, o + j, none⟩ = xs[j]?) ∧ (∀ j, j < cap * sz → (w.cell? ⟨g, o + j, none⟩).isSome = true ∧ w.frozen? ⟨g, o + j, none⟩ = false))
section
variable {P : Program} {w w' : World} {e sz base : Nat} {v u : Value} {n : Nat} {xs : List Value}
theorem Que.nil (base sz : Nat) (w : World) : Que base sz w (.slice none 0 0) 0 [] := ⟨by simp, .inl ⟨rfl, rfl⟩⟩
theorem Que.form (h : Que base sz w v n xs) : ∃ p cap, v = .slice p n cap := by
 rcases h.2 with ⟨h1, h2⟩ | ⟨g, o, cap, h1, _⟩
 ·subst h2; exact ⟨_, _, h1⟩
 ·exact ⟨_, _, h1⟩
theorem Que.lo (h : Que base sz w v n xs) : ∀ k, v.ownBlock = some k → base ≤ k ∧ k < w.heap.size := by
 intro k hk
 rcases h.2 with ⟨h1, _⟩ | ⟨g, o, cap, h1, h2, h3, _⟩
 ·rw [h1] at hk; cases hk
 ·rw [h1] at hk; cases hk; exact ⟨h2, h3⟩
theorem Que.carry (h : Que base sz w v n xs) (hs : w.heap.size ≤ w'.heap.size) (hb : ∀ k, v.ownBlock = some k → w'.heap[k]? = w.heap[k]?) : Que base sz w' v n xs := by
 refine ⟨h.1, ?_⟩
 rcases h.2 with h1 | ⟨g, o, cap, h1, h2, h3, h4, h5, h6, h7⟩
 ·exact .inl h1
 ·have hg := hb g (by rw [h1]; rfl)
  refine .inr ⟨g, o, cap, h1, h2, Nat.lt_of_lt_of_le h3 hs, h4, h5, fun j hj => ?_, fun j hj => ?_⟩
  ·rw [World.cell?_of_block (w := w) (a := ⟨g, o + j, Option.none⟩) hg]; exact h6 j hj
  ·rw [World.cell?_of_block (w := w) (a := ⟨g, o + j, Option.none⟩) hg, World.frozen?_of_block (w := w) (a := ⟨g, o + j, Option.none⟩) hg]; exact h7 j hj
theorem Que.later (h : Que base sz w v n xs) (hb : Later w w') : Que base sz w' v n xs := h.carry hb.size (fun k hk => hb.block k (h.lo k hk).2)
theorem Que.beside {row : Option Nat} (h : Que base sz w v n xs) (hg : w.grownBy w' row) (hne : ∀ k, v.ownBlock = some k → row ≠ some k) : Que base sz w' v n xs :=
 h.carry hg.size (fun k hk => hg.block k (h.lo k hk).2 (fun e => hne k hk e.symm))
theorem Que.set (h : Que base sz w v n xs) {k i : Nat} (hne : v.ownBlock ≠ some k) (x : Value) : Que base sz (w.setCell ⟨k, i, none⟩ x) v n xs :=
 h.carry (by simp [World.setCell]) (fun b hb => Below.heap_setCell _ _ _ _ (fun e => hne (by rw [hb]; exact congrArg some e)))
theorem que_of_owns (h : w.ownsRow base e sz v n xs) : Que base sz w v n xs := by
 refine ⟨h.1, ?_⟩
 rcases h.2 with h1 | ⟨g, cap, cur, h1, h2, h3, h4, h5, h6, h7⟩
 ·exact .inl h1
 ·have hg : g < w.heap.size := (h.lt g (by rw [h1]; rfl)).2
  have hcell : ∀ j, w.cell? ⟨g, j, none⟩ = cur[j]? := fun j => by simp [World.cell?, h3]
  have hfz : ∀ j, w.frozen? ⟨g, j, none⟩ = false := fun j => by
   subst h1; exact World.ownsRow.frozenAt h j
  refine .inr ⟨g, 0, cap, h1, h2, hg, h4, h5, fun j hj => ?_, fun j hj => ?_⟩
  ·rw [Nat.zero_add, hcell, ← h7, List.getElem?_take, if_pos hj, Array.getElem?_toList]
  ·rw [Nat.zero_add, hcell]
   refine ⟨?_, hfz j⟩
   rw [Array.getElem?_eq_getElem (by omega)]; rfl
theorem Que.row {α : Type} {f : α → Nat → Value} {ys : List α} (cs : α → List Value) (hcs : ∀ x, (cs x).length = sz) (hf : ∀ x j, j < sz → (cs x)[j]? = some (f x j)) (hsz : 0 < sz) (h : Que base sz w v n (ys.flatMap cs)) : IsRow sz f w v ys ∧ n = ys.length := by
 have hn : n = ys.length := by have := h.1; rw [flat_len cs hcs] at this; exact (Nat.eq_of_mul_eq_mul_right hsz this).symm
 refine ⟨?_, hn⟩
 subst hn
 rcases h.2 with ⟨h1, h2⟩ | ⟨g, o, cap, h1, h2, h3, h4, h5, h6, h7⟩
 ·exact .inl ⟨⟨Option.none, by rw [h1]⟩, List.eq_nil_of_length_eq_zero h2⟩
 ·refine .inr ⟨g, o, cap, h1, h3, h4, h5, fun i hi j hj => ?_⟩
  have hlt : i * sz + j < ys.length * sz := by
   have : (i + 1) * sz ≤ ys.length * sz := Nat.mul_le_mul_right sz hi
   rw [Nat.succ_mul] at this; omega
  have := h6 (i * sz + j) hlt
  rw [← Nat.add_assoc] at this
  rw [this, flat_get cs hcs ys i hi j hj]
  exact hf _ _ hj
theorem Que.cut {p : Addr} {cap k : Nat} (h : Que base sz w (.slice (some p) n cap) n xs) (hk : k ≤ n) : Que base sz w (.slice (some (if cap - k = 0 then p else p.add (k * sz))) (n - k) (cap - k)) (n - k) (xs.drop (k * sz)) := by
 refine ⟨by rw [List.length_drop, h.1, Nat.sub_mul], ?_⟩
 rcases h.2 with ⟨h1, _⟩ | ⟨g, o, cap', h1, h2, h3, h4, h5, h6, h7⟩
 ·cases h1
 ·cases h1
  by_cases hc : cap - k = 0
  ·rw [if_pos hc]
   refine .inr ⟨g, o, cap - k, rfl, h2, h3, by omega, by omega, fun j hj => ?_, fun j hj => ?_⟩
   ·have : n - k = 0 := by omega
    rw [this] at hj; simp at hj
   ·rw [hc] at hj; simp at hj
  ·rw [if_neg hc, add_plain]
   refine .inr ⟨g, o + k * sz, cap - k, rfl, h2, h3, by omega, by omega, fun j hj => ?_, fun j hj => ?_⟩
   ·rw [Nat.sub_mul] at hj
    rw [Nat.add_assoc, h6 (k * sz + j) (by omega), List.getElem?_drop]
   ·rw [Nat.sub_mul] at hj
    rw [Nat.add_assoc]
    exact h7 (k * sz + j) (by omega)
theorem heap_setCells (b : Nat) : ∀ (vs : List Value) (o : Nat) (w : World) (k : Nat), k ≠ b → (w.setCells b o vs).heap[k]? = w.heap[k]?
 | [], _, _, _, _ => rfl
 | x :: r, o, w, k, h => by
  show ((w.setCell ⟨b, o, Option.none⟩ x).setCells b (o + 1) r).heap[k]? = _
  rw [heap_setCells b r (o + 1) _ k h]
  exact Below.heap_setCell _ _ _ _ h
theorem plain_setCells (b : Nat) : ∀ (vs : List Value) (o : Nat) (w : World), (w.setCells b o vs).os = w.os ∧ (w.setCells b o vs).tape = w.tape ∧ (w.setCells b o vs).output = w.output ∧ (w.setCells b o vs).heap.size = w.heap.size
 | [], _, _ => ⟨rfl, rfl, rfl, rfl⟩
 | x :: r, o, w => by
  obtain ⟨h1, h2, h3, h4⟩ := plain_setCells b r (o + 1) (w.setCell ⟨b, o, Option.none⟩ x)
  exact ⟨h1, h2, h3, by show ((w.setCell ⟨b, o, Option.none⟩ x).setCells b (o + 1) r).heap.size = _; rw [h4]; simp [World.setCell]⟩
theorem wpList_que {ops : Array Oper} {rest : List Oper} {o : Oper} {a : Act} {Q : Exit → Act → World → Prop} {t bytes : Nat} (T : SliceOf P t e sz bytes) (hM : Que base sz w v n xs) (hbase : base ≤ w.heap.size) (hgd : o.guard = none) (s x : Operand)
  (ho : o.op = .call { callee := .builtin .append, args := #[s, x], argTypes := #[t, t] }) (hs : a.eval s = v)
  (ad : Addr) (m c : Nat) (news : List Value) (hx : a.eval x = .slice (some ad) m c) (hl : news.length = m * sz) (hnews : ∀ j u, news[j]? = some u → w.cell? (ad.add j) = some u) (h1 : ∀ u ∈ news, u.oneCell' = true)
  (h63 : (n + m) * bytes ≤ 140737488355328) (h64 : n + m ≤ maxLen)
  (h : ∀ v' w', Que base sz w' v' (n + m) (xs ++ news) → w.grownBy w' v.ownBlock → (v'.ownBlock = v.ownBlock ∨ ∀ k, v'.ownBlock = some k → w.heap.size ≤ k) → wpList P ops Q rest (a.put o.dst v') w') : wpList P ops Q (o :: rest) a w := by
 rcases hM.2 with ⟨h2, h3⟩ | ⟨g, q, cap, h2, h3, h4, h5, h6, h7, h8⟩
 ·subst h2 h3
  have hxs : xs = [] := List.eq_nil_of_length_eq_zero (by simpa using hM.1)
  subst hxs
  exact wpList_app (base := base) T (World.ownsRow_nil _ _ _ _) hbase hgd s x ho hs ad m c news hx hl hnews h1 h63 h64 (fun v' w' h1 h2 h3 => h v' w' (que_of_owns h1) h2 h3)
 ·subst h2
  obtain ⟨i, z, t1, t2, t3, t4, t5, t6, t7⟩ := T
  have hlen := hM.1
  refine wpList_append_arg w hgd s x t ho e i z sz bytes t1 t2 t3 t4 t5 t6 t7 g q n cap xs hs hlen (fun j u hj => ?_) ad m c news hx hl hnews h1 (fun hr j hj => ?_) h64 h63 (fun hr => h _ _ ?_ ?_ (.inl rfl)) (fun hr v' w' h9 h10 => h v' w' ?_ ?_ (.inr fun k hk => (h9.lt k hk).1))
  ·have hjl : j < xs.length := (List.getElem?_eq_some_iff.1 hj).1
   rw [h7 j (by omega), hj]
  ·have : (n + m) * sz ≤ cap * sz := Nat.mul_le_mul_right sz hr
   rw [Nat.add_mul] at this
   have := h8 (n * sz + j) (by omega)
   rwa [← Nat.add_assoc] at this
  ·have hcap : (n + m) * sz ≤ cap * sz := Nat.mul_le_mul_right sz hr
   rw [Nat.add_mul] at hcap
   obtain ⟨p1, p2, p3, p4⟩ := plain_setCells g news (q + n * sz) w
   have hin : ∀ j, j < news.length → (w.cell? ⟨g, q + n * sz + j, Option.none⟩).isSome = true := fun j hj => by
    have := (h8 (n * sz + j) (by omega)).1
    rwa [← Nat.add_assoc] at this
   refine ⟨by rw [List.length_append, hlen, hl, Nat.add_mul], .inr ⟨g, q, cap, rfl, h3, by rw [p4]; exact h4, hr, h6, fun j hj => ?_, fun j hj => ⟨?_, ?_⟩⟩⟩
   ·rw [Nat.add_mul] at hj
    by_cases hjn : j < n * sz
    ·rw [World.cell?_setCells_out g news (q + n * sz) w ⟨g, q + j, Option.none⟩ (fun _ _ => .inl (by show q + j < _; omega)), h7 j hjn, List.getElem?_append_left (by omega)]
    ·have := World.cell?_setCells_in g news (q + n * sz) w hin (j - n * sz) (by omega)
     rw [show q + n * sz + (j - n * sz) = q + j by omega] at this
     rw [this, List.getElem?_append_right (by omega), hlen, List.getElem?_eq_getElem (by omega)]
   ·by_cases hjn : j < n * sz ∨ n * sz + news.length ≤ j
    ·rw [World.cell?_setCells_out g news (q + n * sz) w ⟨g, q + j, Option.none⟩ (fun _ _ => by
      rcases hjn with hjn | hjn
      ·exact .inl (by show q + j < _; omega)
      ·exact .inr (by show _ ≤ q + j; omega))]
     exact (h8 j hj).1
    ·have := World.cell?_setCells_in g news (q + n * sz) w hin (j - n * sz) (by omega)
     rw [show q + n * sz + (j - n * sz) = q + j by omega] at this
     rw [this]; rfl
   ·rw [World.frozen?_setCells]; exact (h8 j hj).2
  ·obtain ⟨p1, p2, p3, p4⟩ := plain_setCells g news (q + n * sz) w
   exact ⟨p1, p2, p3, by rw [p4]; exact Nat.le_refl _, fun k hk hne => heap_setCells g news _ w k (fun e => hne (by rw [e]; rfl))⟩
  ·obtain ⟨q1, q2⟩ := que_of_owns h9
   exact (show Que base sz w' v' (n + m) (xs ++ news) from ⟨q1, by
    rcases q2 with q2 | ⟨g', o', cap', r1, r2, r3, r4⟩
    ·exact .inl q2
    ·exact .inr ⟨g', o', cap', r1, Nat.le_trans hbase r2, r3, r4⟩⟩)
  ·exact ⟨h10.os, h10.tape, h10.output, h10.size, fun k hk _ => h10.block k hk (by simp)⟩
theorem wpList_quePush {ops : Array Oper} {rest : List Oper} {o : Oper} {a : Act} {Q : Exit → Act → World → Prop} {t bytes : Nat} {ta : TypeId} {news : Array Value} (T : SliceOf P t e sz bytes) (hM : Que base sz w v n xs) (hbase : base ≤ w.heap.size) (hgd : o.guard = none) (s x : Operand)
  (ho : o.op = .call { callee := .builtin .append, args := #[s, x], argTypes := #[t, t] }) (hs : a.eval s = v) (c b : Nat) (hx : a.eval x = .slice (some ⟨b, 0, none⟩) 1 c) (hb : b = w.heap.size) (hl : news.size = sz) (h1 : ∀ u ∈ news.toList, u.oneCell' = true)
  (h63 : (n + 1) * bytes ≤ 140737488355328) (h64 : n + 1 ≤ maxLen)
  (h : ∀ v' w', Que base sz w' v' (n + 1) (xs ++ news.toList) → (w.alloc (.cells news ta)).grownBy w' v.ownBlock → (v'.ownBlock = v.ownBlock ∨ ∀ k, v'.ownBlock = some k → w.heap.size ≤ k) → wpList P ops Q rest (a.put o.dst v') w') : wpList P ops Q (o :: rest) a (w.alloc (.cells news ta)) := by
 subst hb
 have hc := (own_get (own_alloc w news ta)).2.1
 refine wpList_que T (hM.later ((Later.refl _).alloc _)) (by simp; omega) hgd s x ho hs ⟨w.heap.size, 0, Option.none⟩ 1 c news.toList hx (by rw [Nat.one_mul, Array.length_toList, hl]) ?_ h1 h63 h64 (fun v' w' a b c => h v' w' a b (c.imp id (fun h k hk => by have := h k hk; simp at this; omega)))
 intro j u hj
 rw [add_plain, Nat.zero_add, hc j, ← Array.getElem?_toList, hj]
theorem Que.apart {v' : Value} (h : Apart v u) (hu : Que base sz w u n xs) (hf : v'.ownBlock = v.ownBlock ∨ ∀ k, v'.ownBlock = some k → w.heap.size ≤ k) : Apart v' u := by
 intro k hk e
 rcases hf with hf | hf
 ·exact h k (by rw [← hf]; exact hk) e
 ·have := hf k hk
  have := (hu.lo k e).2
  omega
end
end B
end Go.Proofs.YtkjabiabeemfhaaGreatDoor
end
section
namespace Go.Proofs.YtkjabiabeemfhaaGreatDoor
open Go.RowKit Go.Sort
namespace B
section
variable {α : Type} [Inhabited α] {k base : Nat} {w : World} {cs : α → List Value}
theorem cell_put (w : World) (g o : Nat) (F : Array Value) (p : Nat) (h : (w.cell? ⟨g, p, none⟩).isSome = true) :
  (putRow id w g o F).cell? ⟨g, p, none⟩ = if o ≤ p ∧ p < o + F.size then some F[p - o]! else w.cell? ⟨g, p, none⟩ := by
 unfold putRow mapBlock World.cell? at *
 simp only [Array.getElem?_modify, if_true] at *
 cases hh : w.heap[g]? with
 | none => rw [hh] at h; simp at h
 | some ob =>
  cases ob with
  | cells c e fr =>
   rw [hh] at h
   simp only [Option.map_some, onCells, putCells, Array.getElem?_mapIdx, Option.isSome_none, Bool.false_eq_true, if_false] at h ⊢
   obtain ⟨v, hv⟩ := Option.isSome_iff_exists.1 h
   rw [hv]
   simp only [Option.map_some, id]
   split <;> rfl
  | _ => rw [hh] at h; simp at h
theorem frozen_put (w : World) (g o : Nat) (F : Array Value) (a : Addr) : (putRow id w g o F).frozen? a = w.frozen? a := by
 unfold putRow mapBlock World.frozen?
 simp only [Array.getElem?_modify]
 by_cases hg : g = a.block
 ·subst hg
  simp only [if_true]
  cases hh : w.heap[a.block]? with
  | none => rfl
  | some ob =>
   cases ob with
   | cells c e fr => simp [onCells, putCells]
   | _ => rfl
 ·simp [hg]
theorem heap_put (w : World) (g o : Nat) (F : Array Value) (b : Nat) (h : b ≠ g) : (putRow id w g o F).heap[b]? = w.heap[b]? := by
 unfold putRow mapBlock
 simp only [Array.getElem?_modify]
 rw [if_neg (fun e => h e.symm)]
theorem flat_at {xs : List α} (hk : ∀ x, (cs x).length = k) (h0 : 0 < k) {j : Nat} (hj : j < xs.length * k) : (xs.flatMap cs)[j]? = some ((flatK cs k xs.toArray)[j]!) := by
 have hi : j / k < xs.length := by rw [Nat.div_lt_iff_lt_mul h0]; exact hj
 have hm := Nat.mod_lt j h0
 have e : j = j / k * k + j % k := by rw [Nat.mul_comm]; exact (Nat.div_add_mod j k).symm
 rw [get_flatK cs k xs.toArray j (by simpa using hj)]
 conv => lhs; rw [e]
 rw [flat_get cs hk xs (j / k) hi (j % k) hm]
 have h1 : xs.toArray[j / k]! = xs[j / k] := by rw [getElem!_pos _ _ (by simpa using hi)]; simp
 rw [h1, getElem!_pos _ _ (by rw [hk]; exact hm), List.getElem?_eq_getElem (by rw [hk]; exact hm)]
theorem holdsK_of_que {xs : List α} {g o n cap : Nat} (hk : ∀ x, (cs x).length = k) (h0 : 0 < k) (h : Que base k w (.slice (some ⟨g, o, none⟩) n cap) n (xs.flatMap cs)) : HoldsK cs k w g o xs.toArray ∧ n = xs.length ∧ g < w.heap.size := by
 have hn : n = xs.length := by have := h.1; rw [flat_len cs hk] at this; exact (Nat.eq_of_mul_eq_mul_right h0 this).symm
 subst hn
 rcases h.2 with ⟨h1, _⟩ | ⟨g', o', cap', h1, h2, h3, h4, h5, h6, h7⟩
 ·cases h1
 ·cases h1
  refine ⟨fun j hj => ?_, rfl, h3⟩
  rw [size_flatK, List.size_toArray] at hj
  have hc : xs.length * k ≤ cap * k := Nat.mul_le_mul_right k h4
  refine ⟨?_, (h7 j (by omega)).2⟩
  rw [h6 j hj, flat_at hk h0 hj]; rfl
theorem que_sorted {xs : List α} {d' : Array α} {g o n cap m : Nat} {os : Array Obj} (hk : ∀ x, (cs x).length = k) (h0 : 0 < k) (h : Que base k w (.slice (some ⟨g, o, none⟩) n cap) n (xs.flatMap cs)) (hs : d'.size = n) :
  Que base k (sortWorldK cs k w g o m d' os) (.slice (some ⟨g, o, none⟩) n cap) n (d'.toList.flatMap cs) ∧ S.LatB (fun b => b = g) w (sortWorldK cs k w g o m d' os) := by
 rcases h.2 with ⟨h1, _⟩ | ⟨g', o', cap', h1, h2, h3, h4, h5, h6, h7⟩
 ·cases h1
 ·cases h1
  have hc : n * k ≤ cap * k := Nat.mul_le_mul_right k h4
  have hsz : (putRowK cs k (Sort.ahead w m) g o d').heap.size = w.heap.size := by unfold putRowK putRow mapBlock; simp [Sort.ahead]
  have cellG : ∀ p, (sortWorldK cs k w g o m d' os).cell? ⟨g, p, none⟩ = (putRow id w g o (flatK cs k d')).cell? ⟨g, p, none⟩ := fun p => by
   unfold sortWorldK
   rw [cell?_grow _ _ _ (by rw [hsz]; exact h3)]
   rfl
  have frozG : ∀ p, (sortWorldK cs k w g o m d' os).frozen? ⟨g, p, none⟩ = w.frozen? ⟨g, p, none⟩ := fun p => by
   unfold sortWorldK
   rw [frozen?_grow _ _ _ (by rw [hsz]; exact h3)]
   exact frozen_put w g o _ _
  refine ⟨⟨by rw [flat_len cs hk, Array.length_toList, hs], .inr ⟨g, o, cap, rfl, h2, ?_, h4, h5, fun j hj => ?_, fun j hj => ?_⟩⟩, ?_⟩
  ·unfold sortWorldK; rw [size_grow, hsz]; omega
  ·rw [cellG, cell_put w g o _ _ (h7 j (by omega)).1, size_flatK, hs, if_pos ⟨by omega, by omega⟩, show o + j - o = j by omega]
   rw [flat_at hk h0 (by rw [Array.length_toList, hs]; exact hj)]
  ·rw [frozG, cellG, cell_put w g o _ _ (h7 j hj).1]
   refine ⟨?_, (h7 j hj).2⟩
   split
   ·rfl
   ·exact (h7 j hj).1
  ·unfold sortWorldK
   refine ⟨rfl, rfl, rfl, by rw [size_grow, hsz]; omega, fun b hb hne => ?_⟩
   rw [heap_grow_old _ _ (by rw [hsz]; exact hb)]
   exact heap_put w g o _ b hne
end
end B
end Go.Proofs.YtkjabiabeemfhaaGreatDoor
end
section
namespace Go.Proofs.YtkjabiabeemfhaaGreatDoor
open Go.RowKit Go.Sort
def firstNz : List Int → Int
 | [] => 0
 | x :: r => if x ≠ 0 then x else firstNz r
theorem firstNz_drop {l : List Int} {j : Nat} (h : ∀ i (hi : i < l.length), i < j → l[i] = 0) : firstNz l = firstNz (l.drop j) := by
 induction l generalizing j with
 | nil => simp
 | cons x r ih =>
  cases j with
  | zero => rfl
  | succ j =>
   have h0 : x = 0 := h 0 (by simp) (by omega)
   rw [List.drop_succ_cons, ← ih (fun i hi hj => by have := h (i + 1) (by simpa using hi) (by omega); simpa using this)]
   simp [firstNz, h0]
set_option maxHeartbeats 800000 in
theorem cmpOr_any (l : List Int) (hlen : l.length ≤ 100000) (v : Value) (w : World) (hN : IsInts w v l) : Calls Tryz.prog 52 #[v] w fun e w' => e = .returned (.int .i64 (firstNz l)) ∧ w' = w := by
 obtain ⟨p, cp, rfl⟩ := hN.form
 have HN := Lib.hid hN
 clear hN
 obtain ⟨L, hL⟩ : ∃ L, l.length = L := ⟨_, rfl⟩
 rw [hL] at HN hlen ⊢
 have HL := Lib.hid hL
 obtain ⟨R, hR⟩ : ∃ R, firstNz l = R := ⟨_, rfl⟩
 rw [hR]
 have HR := Lib.hid hR
 clear hL hR
 go_enter Tryz.func52, Tryz.ntmps52
 go_wp2
 go_loopw [8] (fun s8 wr => ∃ j : Nat, j ≤ L ∧ s8 = .int .i64 j ∧ Hid (∀ i (h : i < l.length), i < j → l[i] = 0) ∧ wr = w) (fun s8 _ => L - (intOf s8).toNat)
 case atStart => exact ⟨0, Nat.zero_le _, rfl, Lib.hid (fun i _ h => by omega), rfl⟩
 case round =>
  obtain ⟨j, hj, rfl, H0, rfl⟩ := hrel
  by_cases hlt : j < L
  ·have hltI : (j : Int) < L := by omega
   have hjl : j < l.length := by rw [HL.out]; exact hlt
   obtain ⟨b, o, cp', hv, hb, g⟩ := HN.out.full hjl
   rw [HL.out] at hv
   cases hv
   have HD : Hid (R = if l[j] ≠ 0 then l[j] else firstNz (l.drop (j + 1))) := Lib.hid (by
    rw [← HR.out, firstNz_drop H0.out, List.drop_eq_getElem_cons hjl]; rfl)
   have HS : Hid (l[j] = 0 → ∀ i (h : i < l.length), i < j + 1 → l[i] = 0) := Lib.hid (fun e i h h1 => by
    by_cases h2 : i = j
    ·subst h2; exact e
    ·exact H0.out i h (by omega))
   generalize l[j] = x at *
   clear H0 HN HR
   by_cases hx : x = 0
   ·subst hx
    have H1 := Lib.hid (HS.out rfl)
    clear HS HD
    go_wp2
    go_roundw
    case rel => exact ⟨j + 1, by omega, by go_num, H1, trivial⟩
    case measure => simp [intOf]; omega
   ·have hb1 : (x != 0) = true := by rw [bne_iff_ne]; exact hx
    have hb2 : (x == 0) = false := by rw [beq_eq_false_iff_ne]; exact hx
    have hRx : Hid (R = x) := Lib.hid (by rw [HD.out, if_pos hx])
    clear HS HD
    go_wp2
    go_ret
    exact ⟨ret_int hRx.out.symm, rfl⟩
  ·have hge : ¬ ((j : Int) < L) := by omega
   have hR0 : Hid (R = 0) := Lib.hid (by
    rw [← HR.out, firstNz_drop H0.out, List.drop_of_length_le (by rw [HL.out]; omega)]; rfl)
   clear H0 HN HR
   go_wp2
   go_ret
   exact ⟨ret_int hR0.out.symm, rfl⟩
theorem ints3 {w : World} {ta : TypeId} {k : Nat} (a b c : Int) (hk : k = w.heap.size) : IsInts (w.alloc (.cells #[.int .i64 a, .int .i64 b, .int .i64 c] ta)).drew (.slice (some ⟨k, 0, none⟩) 3 3) [a, b, c] := by
 subst hk
 obtain ⟨z, hc, -⟩ := own_get (own_alloc w #[.int .i64 a, .int .i64 b, .int .i64 c] ta)
 refine .inr ⟨w.heap.size, 0, 3, rfl, z, Nat.le_refl _, by unfold maxLen; omega, fun j hj => ?_⟩
 have hj3 : j < 3 := hj
 show (w.alloc _).cell? _ = _
 rw [Nat.zero_add, hc j]
 rcases j with _ | _ | _ | j
 ·rfl
 ·rfl
 ·rfl
 ·omega
def ordF (x y : Fl) : Int := firstNz [Lib.compareInt x.day y.day, Lib.compareInt x.cur y.cur, Lib.compareInt x.amt y.amt]
set_option maxHeartbeats 1600000 in
theorem dorder_any (x y : Fl) (W : World) : Calls Tryz.prog 49 #[.agg (flCs x).toArray, .agg (flCs y).toArray] W fun e w' => e = .returned (.int .i64 (ordF x y)) ∧ ∃ q os', w' = grow (W.drewN q) os' := by
 obtain ⟨R, hR⟩ : ∃ R, ordF x y = R := ⟨_, rfl⟩
 rw [hR]
 unfold ordF at hR
 have HR := Lib.hid hR
 clear hR
 obtain ⟨a, ha⟩ : ∃ a, Lib.compareInt x.day y.day = a := ⟨_, rfl⟩
 obtain ⟨b, hb⟩ : ∃ b, Lib.compareInt x.cur y.cur = b := ⟨_, rfl⟩
 obtain ⟨c, hc⟩ : ∃ c, Lib.compareInt x.amt y.amt = c := ⟨_, rfl⟩
 rw [ha, hb, hc] at HR
 have H1 := Lib.hid (fun W => ha ▸ Tryz.cmp_Compare_int x.day y.day W)
 have H2 := Lib.hid (fun W => hb ▸ Tryz.cmp_Compare_int x.cur y.cur W)
 have H3 := Lib.hid (fun W => hc ▸ Tryz.cmp_Compare_int x.amt y.amt W)
 have HO := Lib.hid (fun (v : Value) W (h : IsInts W v [a, b, c]) => cmpOr_any [a, b, c] (by simp) v W h)
 rw [HR.out] at HO
 obtain ⟨x1, x2, x3⟩ := x
 obtain ⟨y1, y2, y3⟩ := y
 show Calls Tryz.prog 49 #[.agg #[.int .i64 x1, .int .i64 x2, .int .i64 x3], .agg #[.int .i64 y1, .int .i64 y2, .int .i64 y3]] W _
 simp only at H1 H2 H3
 clear ha hb hc HR
 have tok1 : True := trivial
 have tok2 : True := trivial
 go_enter Tryz.func49, Tryz.ntmps49
 go_upto_region 1 with (fail)
 refine wp_region_plan 18 (.one [0, 1, 2, 3, 5, 6, 7, 8, 10, 11, 12, 13] 4 (.one [] 9 (.one [] 14 (.one [] 15 (.one [] 16 (.done [17])))))) (by kernel_rfl) (by kernel_rfl) (fun _ _ d _ _ h => by cases d <;> exact h) ?_
 repeat' (first
  | ((first | refine plan_done (fun K hK => ?_) | refine plan_one (by rfl) (fun K hK => ?_)); (first | (simp only [zq9]; repeat (go_big_quiet_step (fail))) | simp only [pick_nil]); refine wpQuiet_nil (hK _ ?_); clear hK K)
  | ((with_reducible refine at_list ?_); go_wp2_with (first | (go_at_call 53; first | ((with_reducible refine (H1.out _).mono ?_); rintro e w3 ⟨rfl, rfl⟩) | ((with_reducible refine (H2.out _).mono ?_); rintro e w3 ⟨rfl, rfl⟩) | ((with_reducible refine (H3.out _).mono ?_); rintro e w3 ⟨rfl, rfl⟩)) | (go_at_call 52; go_must (refine (HO.out _ _ (ints3 a b c (by simp))).mono ?_; rintro e w9 ⟨rfl, rfl⟩))); first | refine behind_store (t := 18) (by decide) ?_ | refine behind (by with_reducible repeat (first | exact zq1 _ | assumption | refine zq2 ?_ | refine zq5 ?_ _ | refine zq6 ?_ _ | refine zq7 ?_ | refine zq8 ?_ (by assumption))) ?_))
 go_wp2
 go_ret
 exact ⟨rfl, 1, _, by rw [alloc_eq_grow, alloc_eq_grow, alloc_eq_grow, grow_grow, grow_grow]; rfl⟩
def wtCs (x : Wt) : List Value := [.bool x.cho, .int .i64 x.key, .int .i64 x.day]
def bI (b : Bool) : Int := if b then 1 else 0
def ordW (x y : Wt) : Int := firstNz [Lib.compareInt x.day y.day, Lib.compareInt (bI x.cho) (bI y.cho), Lib.compareInt x.key y.key]
set_option maxHeartbeats 400000 in
theorem flag_any (b : Bool) (w : World) : Calls Tryz.prog 54 #[.bool b] w fun e w' => e = .returned (.int .i64 (bI b)) ∧ w' = w := by
 cases b
 all_goals
  go_enter Tryz.func54, Tryz.ntmps54
  go_wp2
  go_ret
  exact ⟨rfl, rfl⟩
set_option maxHeartbeats 1600000 in
theorem worder_any (x y : Wt) (W : World) : Calls Tryz.prog 51 #[.agg (wtCs x).toArray, .agg (wtCs y).toArray] W fun e w' => e = .returned (.int .i64 (ordW x y)) ∧ ∃ q os', w' = grow (W.drewN q) os' := by
 obtain ⟨R, hR⟩ : ∃ R, ordW x y = R := ⟨_, rfl⟩
 rw [hR]
 unfold ordW at hR
 have HR := Lib.hid hR
 clear hR
 obtain ⟨p, hp⟩ : ∃ p, bI x.cho = p := ⟨_, rfl⟩
 obtain ⟨q, hq⟩ : ∃ p, bI y.cho = p := ⟨_, rfl⟩
 rw [hp, hq] at HR
 obtain ⟨a, ha⟩ : ∃ a, Lib.compareInt x.day y.day = a := ⟨_, rfl⟩
 obtain ⟨b, hb⟩ : ∃ b, Lib.compareInt p q = b := ⟨_, rfl⟩
 obtain ⟨c, hc⟩ : ∃ c, Lib.compareInt x.key y.key = c := ⟨_, rfl⟩
 rw [ha, hb, hc] at HR
 have H1 := Lib.hid (fun W => ha ▸ Tryz.cmp_Compare_int x.day y.day W)
 have H2 := Lib.hid (fun W => hb ▸ Tryz.cmp_Compare_int p q W)
 have H3 := Lib.hid (fun W => hc ▸ Tryz.cmp_Compare_int x.key y.key W)
 have H4 := Lib.hid (fun W => hp ▸ flag_any x.cho W)
 have H5 := Lib.hid (fun W => hq ▸ flag_any y.cho W)
 have HO := Lib.hid (fun (v : Value) W (h : IsInts W v [a, b, c]) => cmpOr_any [a, b, c] (by simp) v W h)
 rw [HR.out] at HO
 obtain ⟨x1, x2, x3⟩ := x
 obtain ⟨y1, y2, y3⟩ := y
 show Calls Tryz.prog 51 #[.agg #[.bool x1, .int .i64 x2, .int .i64 x3], .agg #[.bool y1, .int .i64 y2, .int .i64 y3]] W _
 simp only at H1 H2 H3 H4 H5
 clear ha hb hc HR hp hq
 go_enter Tryz.func51, Tryz.ntmps51
 go_upto_region 1 with (fail)
 refine wp_region_plan 20 (.one [0, 1, 2, 3, 5, 6, 8, 9, 12, 13, 14, 15] 4 (.one [] 7 (.one [] 10 (.one [] 11 (.one [] 16 (.one [] 17 (.one [] 18 (.done [19])))))))) (by kernel_rfl) (by kernel_rfl) (fun _ _ d _ _ h => by cases d <;> exact h) ?_
 repeat' (first
  | ((first | refine plan_done (fun K hK => ?_) | refine plan_one (by rfl) (fun K hK => ?_)); (first | (simp only [zq9]; repeat (go_big_quiet_step (fail))) | simp only [pick_nil]); refine wpQuiet_nil (hK _ ?_); clear hK K)
  | ((with_reducible refine at_list ?_); go_wp2_with (first | (go_at_call 53; first | ((with_reducible refine (H1.out _).mono ?_); rintro e w3 ⟨rfl, rfl⟩) | ((with_reducible refine (H2.out _).mono ?_); rintro e w3 ⟨rfl, rfl⟩) | ((with_reducible refine (H3.out _).mono ?_); rintro e w3 ⟨rfl, rfl⟩)) | (go_at_call 54; first | ((with_reducible refine (H4.out _).mono ?_); rintro e w3 ⟨rfl, rfl⟩) | ((with_reducible refine (H5.out _).mono ?_); rintro e w3 ⟨rfl, rfl⟩)) | (go_at_call 52; go_must (refine (HO.out _ _ (ints3 a b c (by simp))).mono ?_; rintro e w9 ⟨rfl, rfl⟩))); first | refine behind_store (t := 20) (by decide) ?_ | refine behind (by with_reducible repeat (first | exact zq1 _ | assumption | refine zq2 ?_ | refine zq5 ?_ _ | refine zq6 ?_ _ | refine zq7 ?_ | refine zq8 ?_ (by assumption))) ?_))
 all_goals
  go_wp2
  go_ret
  exact ⟨rfl, 1, _, by rw [alloc_eq_grow, alloc_eq_grow, alloc_eq_grow, grow_grow, grow_grow]; rfl⟩
end Go.Proofs.YtkjabiabeemfhaaGreatDoor
end
