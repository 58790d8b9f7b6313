/- flows and waits: the sorts -/
import Derived.Test.YtkjabiabeemfhaaGreatDoorZ20
import Derived.Test.YtkjabiabeemfhaaGreatDoorZ17
import Derived.Test.YtkjabiabeemfhaaGreatDoorZ16
import Derived.Test.YtkjabiabeemfhaaGreatDoorZ9
import Derived.Test.YtkjabiabeemfhaaGreatDoorZ8
import Derived.Test.YtkjabiabeemfhaaGreatDoorZ15
import Derived.RangeFuncBox
import Derived.RangeFuncNested
import Derived.OwnWalkIn
import Derived.Test.YtkjabiabeemfhaaGreatDoorZ11
import Derived.Test.YtkjabiabeemfhaaGreatDoorZ19
import Derived.Shelf.SlSortCmp.NoneTotal
import Derived.Shelf.SlSortCmp.WholeK
set_option linter.all false
set_option linter.all false
section
namespace Go.Proofs.YtkjabiabeemfhaaGreatDoor
open Go.RowKit Go.Sort
theorem keptH_cases (env : Env) (tod : Int) (h : Hd) : keptH env tod h = [] ∨ keptH env tod h = [h] := by
 unfold keptH
 repeat' split
 all_goals first | exact .inl rfl | exact .inr rfl
theorem kept_kid {env : Env} {tod : Int} {h : Hd} (hk : keptH env tod h = [h]) : (oneH env tod h).2.1 = [] ∧ (oneH env tod h).2.2.1 = [] ∧ (oneH env tod h).1 = 0 := by
 obtain ⟨⟨x, l⟩, pl, day, n, d⟩ := h
 rw [keptH_node] at hk
 rw [oneH_node]
 by_cases hlt : tod < day
 ·rw [if_pos hlt]; exact ⟨rfl, rfl, rfl⟩
 rw [if_neg hlt] at hk ⊢
 by_cases h13 : x.op = 13
 ·rw [if_pos h13] at hk
  split at hk
  ·rename_i hc
   have e : stepT env tod x l pl day n d = scaleT env l pl day n d := by simp [stepT, h13]
   rw [e]
   unfold scaleT
   rw [if_neg (by rw [hc.1]; simp)]
   cases hv : (numT env day l 0).2 with
   | none => exact ⟨rfl, rfl, rfl⟩
   | some v => have := hc.2; rw [hv] at this; cases this
  ·cases hk
 rw [if_neg h13] at hk
 by_cases h15 : x.op = 15
 ·rw [if_pos h15] at hk
  split at hk
  ·rename_i hc
   have e : stepT env tod x l pl day n d = condT env l pl day n d := by simp [stepT, h15]
   rw [e]
   unfold condT
   rw [if_neg (by rw [hc.1]; simp), if_neg (by rw [hc.2.1]; simp)]
   have h3 := hc.2.2
   cases hv : (numT env day l 0).2 with
   | none => exact ⟨rfl, rfl, rfl⟩
   | some v =>
    cases hu : (numT env day l 1).2 with
    | none => exact ⟨rfl, rfl, rfl⟩
    | some u => rw [hv, hu] at h3; cases h3
  ·cases hk
 rw [if_neg h15] at hk
 by_cases h16 : x.op = 16
 ·rw [if_pos h16] at hk
  split at hk
  ·rename_i hc
   cases hv : env.cho x.a day with
   | none => simp [stepT, h16, hv]
   | some v => rw [hv] at hc; cases hc
  ·cases hk
 rw [if_neg h16] at hk
 by_cases h17 : x.op = 17
 ·rw [if_pos h17] at hk
  split at hk
  ·rename_i hc
   cases hv : firstD env.cho x.a day (min x.b tod) with
   | none => simp [stepT, h17, hv]
   | some v => rw [hv] at hc; cases hc.1
  ·cases hk
 rw [if_neg h17] at hk
 cases hk
theorem kept_size (env : Env) (tod : Int) (h : Hd) : sizesH (keptH env tod h) + sizesH (oneH env tod h).2.1 ≤ h.T.size := by
 have hlt := one_lt env tod h
 rcases keptH_cases env tod h with e | e
 ·rw [e]
  simp only [sizesH, List.map_nil, List.sum_nil] at hlt ⊢
  omega
 ·rw [e, (kept_kid e).1]
  simp [sizesH]
theorem sizesH_app (a b : List Hd) : sizesH (a ++ b) = sizesH a + sizesH b := by simp [sizesH]
theorem sizesH_len : ∀ l : List Hd, l.length ≤ sizesH l
 | [] => Nat.le_refl _
 | a :: l => by
  have := a.T.size_pos
  have := sizesH_len l
  simp only [sizesH, List.map_cons, List.sum_cons, List.length_cons] at this ⊢
  omega
theorem keptQ_size (env : Env) (tod : Int) : ∀ (n : Nat) (q : List Hd), sizesH (keptQ env tod n q) ≤ sizesH q := by
 intro n
 induction n with
 | zero => intro q; exact Nat.zero_le _
 | succ n ih =>
  intro q
  cases q with
  | nil => exact Nat.le_refl _
  | cons h r =>
   have h1 := ih (r ++ (oneH env tod h).2.1)
   have h2 := kept_size env tod h
   show sizesH (keptH env tod h ++ keptQ env tod n (r ++ (oneH env tod h).2.1)) ≤ sizesH (h :: r)
   rw [sizesH_app] at h1 ⊢
   have : sizesH (h :: r) = h.T.size + sizesH r := by simp [sizesH]
   omega
def LeftG (env : Env) (tod : Int) (R : Rs) (KT : List Hd) (F : List Fl) (W : List Wt) (K q : List Hd) : Prop := ∃ n, sizesH q ≤ n ∧ comb (0, F, W) (runQ env tod n q) = R ∧ K ++ keptQ env tod n q = KT
theorem leftg_nil {env : Env} {tod : Int} {R : Rs} {KT : List Hd} {F : List Fl} {W : List Wt} {K : List Hd} (h : LeftG env tod R KT F W K []) : R = (0, F, W) ∧ KT = K := by
 obtain ⟨n, h1, h2, h3⟩ := h
 refine ⟨left_nil ⟨n, h1, h2⟩, ?_⟩
 rw [← h3]
 cases n <;> simp [keptQ]
theorem leftg_err {env : Env} {tod : Int} {R : Rs} {KT : List Hd} {F : List Fl} {W : List Wt} {K : List Hd} {h : Hd} {r : List Hd} (hl : LeftG env tod R KT F W K (h :: r)) (h1 : (oneH env tod h).1 ≠ 0) : R = ((oneH env tod h).1, [], []) := by
 obtain ⟨n, a, b, -⟩ := hl
 exact left_err ⟨n, a, b⟩ h1
theorem leftg_step {env : Env} {tod : Int} {R : Rs} {KT : List Hd} {F : List Fl} {W : List Wt} {K : List Hd} {h : Hd} {r : List Hd} (hl : LeftG env tod R KT F W K (h :: r)) (h1 : (oneH env tod h).1 = 0) :
  LeftG env tod R KT (F ++ (oneH env tod h).2.2.1) (W ++ (oneH env tod h).2.2.2) (K ++ keptH env tod h) (r ++ (oneH env tod h).2.1) := by
 obtain ⟨n, hn, hl, hk⟩ := hl
 cases n with
 | zero => have := h.T.size_pos; simp [sizesH] at hn; omega
 | succ n =>
  have hlt := one_lt env tod h
  refine ⟨n, ?_, ?_, ?_⟩
  ·simp only [sizesH, List.map_append, List.sum_append, List.map_cons, List.sum_cons] at hn hlt ⊢
   omega
  ·rw [← hl]
   simp only [runQ, h1, ne_eq, not_true_eq_false, if_false]
   generalize runQ env tod n (r ++ (oneH env tod h).2.1) = y
   unfold comb
   by_cases hy : y.1 = 0 <;> simp [hy]
  ·rw [← hk, List.append_assoc]
   rfl
theorem run_fail (env : Env) (tod : Int) : ∀ n q, (runQ env tod n q).1 ≠ 0 → (runQ env tod n q).2 = ([], []) := by
 intro n
 induction n with
 | zero => intro q h; exact absurd rfl h
 | succ n ih =>
  intro q h
  cases q with
  | nil => exact absurd rfl h
  | cons g r =>
   simp only [runQ] at h ⊢
   by_cases h1 : (oneH env tod g).1 = 0
   ·simp only [h1, ne_eq, not_true_eq_false, if_false] at h ⊢
    unfold comb at h ⊢
    simp only [ne_eq, not_true_eq_false, if_false] at h ⊢
    split
    ·rfl
    ·rename_i h2; simp [h2] at h
   ·simp only [h1, ne_eq, not_false_eq_true, if_true]
theorem leftg_first (env : Env) (tod : Int) (q : List Hd) : LeftG env tod (runQ env tod (sizesH q) q) (keptQ env tod (sizesH q) q) [] [] [] q := by
 refine ⟨sizesH q, Nat.le_refl _, ?_, rfl⟩
 have hf := run_fail env tod (sizesH q) q
 generalize runQ env tod (sizesH q) q = y at *
 unfold comb
 by_cases hy : y.1 = 0
 ·obtain ⟨a, b, c⟩ := y
  simp only at hy
  subst hy
  simp
 ·have := hf hy
  obtain ⟨a, b⟩ := y
  simp only at hy this
  subst this
  simp [hy]
theorem goR_size {env : Env} {s : RunS} (tod : Int) (h : sizesH s.L ≤ 64) : sizesH (goR env s tod).2.2.L ≤ 64 := by
 by_cases h0 : tod < s.day ∨ 73048 < tod
 ·rw [goR_early h0]; exact h
 ·by_cases h1 : (runQ env tod (sizesH s.L) s.L).1 = 0
  ·rw [goR_done h0 h1]; exact Nat.le_trans (keptQ_size env tod _ _) h
  ·rw [goR_over h0 h1]; exact h
end Go.Proofs.YtkjabiabeemfhaaGreatDoor
end
section
namespace Go.Proofs.YtkjabiabeemfhaaGreatDoor
open Go.RowKit
set_option maxRecDepth 100000
def PutRest (lo : Nat) (w : World) (b : Nat) (tv : Value) (tod : Int) (fp rv fv wv : Value) (H : List Hd) (F : List Fl) (W : List Wt) (h : Hd) (w' : World) : Prop :=
 ∃ rv', StudyAt lo w' b tv tod fp rv' fv wv (H ++ [h]) F W ∧ S.LatB (fun k => k = b ∨ rv.ownBlock = some k) w w' ∧ (rv'.ownBlock = rv.ownBlock ∨ ∀ k, rv'.ownBlock = some k → w.heap.size ≤ k)
def PutEnd (lo : Nat) (w : World) (b : Nat) (tv : Value) (tod : Int) (fp rv fv wv : Value) (H : List Hd) (F : List Fl) (W : List Wt) (h : Hd) (e : Ending) (w' : World) : Prop :=
 e = .returned (.tuple #[]) ∧ PutRest lo w b tv tod fp rv fv wv H F W h w'
theorem PutRest.back {lo : Nat} {w w1 : World} {b : Nat} {tv : Value} {tod : Int} {fp rv fv wv : Value} {H : List Hd} {F : List Fl} {W : List Wt} {h : Hd} {w' : World} (hl : Later w w1) (hp : PutRest lo w1 b tv tod fp rv fv wv H F W h w') : PutRest lo w b tv tod fp rv fv wv H F W h w' := by
 obtain ⟨rv', h2, h3, h4⟩ := hp
 exact ⟨rv', h2, (S.LatB.of hl).trans h3, h4.imp id (fun f k hk => Nat.le_trans hl.size (f k hk))⟩
theorem sput_later {lo : Nat} {w : World} {b : Nat} {tv : Value} {tod : Int} {fp rv fv wv : Value} {H : List Hd} {F : List Fl} {W : List Wt} (hlo : lo ≤ w.heap.size) (hlen : H.length ≤ 1000000) (hst : StudyAt lo w b tv tod fp rv fv wv H F W) (h : Hd) (pl : Int) (hpl : (h.pl : Int) = pl) (W1 : World) (hl : Later w W1) :
  Calls Tryz.prog 92 #[.pointer (some ⟨b, 0, none⟩), .int .i64 pl, .int .i64 h.day, .agg #[.int .i64 h.n, .int .i64 h.d]] W1 (PutEnd lo W1 b tv tod fp rv fv wv H F W h) := by
 subst hpl
 exact sput_any lo W1 b tv tod fp rv fv wv H F W h (Nat.le_trans hlo hl.size) hlen (hst.later hl)
set_option maxHeartbeats 1600000 in
theorem sone1_any {lo : Nat} {w : World} {b : Nat} {tv : Value} {tod : Int} {fp rv fv wv : Value} {H : List Hd} {F : List Fl} {W : List Wt} (hlo : lo ≤ w.heap.size) (hlen : H.length ≤ 1000000) (hst : StudyAt lo w b tv tod fp rv fv wv H F W) (h : Hd) (A B D : Nat) (pls : List Int) (i : Nat) (hi : i < pls.length) (hp : (h.pl : Int) = pls[i]) (dv : Value) (cA : w.cell? ⟨A, 0, none⟩ = some (.pointer (some ⟨b, 0, none⟩))) (cD : w.cell? ⟨D, 0, none⟩ = some dv) (hI : IsInts w dv pls)
  (k1 : w.cell? ⟨B, 1, none⟩ = some (.int .i64 h.day)) (k2 : w.cell? ⟨B, 2, none⟩ = some (.int .i64 h.n)) (k3 : w.cell? ⟨B, 3, none⟩ = some (.int .i64 h.d)) :
  Calls Tryz.prog 132 #[.int .i64 (i : Int), .pointer (some ⟨A, 0, none⟩), .pointer (some ⟨D, 0, none⟩), .pointer (some ⟨B, 0, none⟩)] w (PutEnd lo w b tv tod fp rv fv wv H F W h) := by
 obtain ⟨db, do', dc, rfl, hdb, g⟩ := hI.full hi
 obtain ⟨N, hN⟩ : ∃ N, pls.length = N := ⟨_, rfl⟩
 rw [hN] at hi cD
 obtain ⟨P, hP⟩ : ∃ P, PutRest lo w b tv tod fp rv fv wv H F W h = P := ⟨_, rfl⟩
 have HPUT := Lib.hid (fun W1 (hl : Later w W1) => (sput_later hlo hlen hst h pls[i] hp W1 hl).mono (fun e w' he => show e = .returned (.tuple #[]) ∧ P w' from ⟨he.1, by rw [← hP]; exact he.2.back hl⟩))
 refine Calls.mono (R := fun e w' => e = .returned (.tuple #[]) ∧ P w') ?_ (fun e w' he => ⟨he.1, by rw [hP]; exact he.2⟩)
 obtain ⟨T, pl, day, n, d⟩ := h
 simp only at k1 k2 k3 HPUT
 obtain ⟨q, hq⟩ : ∃ q, pls[i] = q := ⟨_, rfl⟩
 rw [hq] at g HPUT
 have hiI : (i : Int) < N := by omega
 clear hst hI hP hp hq hlen hlo
 go_enter Tryz.func132, Tryz.ntmps132
 refine V.wp_region_plan 9 (.one [0, 1, 2, 3, 4, 5, 6, 7, 8] 9 (.done [])) (by kernel_rfl) (by kernel_rfl) (fun _ _ d _ _ h => by cases d <;> exact h) ?_
 repeat' (first
  | ((first | refine plan_done (fun K hK => ?_) | refine plan_one (by rfl) (fun K hK => ?_)); (first | (simp only [zq9]; repeat (go_big_quiet_step (fail))) | simp only [pick_nil]); refine wpQuiet_nil (hK _ ?_); clear hK K)
  | ((with_reducible refine at_list ?_); go_wp2_with ((go_at_call 92; go_must (refine (HPUT.out _ (by repeat (first | with_reducible (first | exact zq1 _ | assumption | refine zq2 ?_ | refine zq4 ?_ ?_ _ | refine zq5 ?_ _ | refine zq6 ?_ _ | refine zq7 ?_ | refine zq8 ?_ (by assumption)) | (simp only [zq10]; omega) | (simp; done) | (simp; omega)))).mono ?_; rintro e w9 ⟨rfl, hP9⟩))); first | refine behind_store (t := 9) (by decide) ?_ | refine behind (by with_reducible repeat (first | exact zq1 _ | assumption | refine zq2 ?_ | refine zq5 ?_ _ | refine zq6 ?_ _ | refine zq7 ?_ | refine zq8 ?_ (by assumption))) ?_))
 go_wp2
 go_end0
 exact ⟨rfl, hP9⟩
attribute [local go_sem] Oper.semAt_some
theorem wpListIn_push {F : Fence} {m : Nat} {P : Program} {w : World} {base : Nat} {e sz : Nat} {v : Value} {n : Nat} {xs : List Value} {ops : Array Oper} {rest : List Oper} {o : Oper} {a : Act} {Q : Exit → Act → World → Prop} {t bytes : Nat} {ta : TypeId} {news : Array Value}
  (T : SliceOf P t e sz bytes) (hM : w.ownsRow base e sz v n xs) (hbase : base ≤ w.heap.size) (hgd : o.guard = none) (s x : Operand)
  (ho : o.op = .call { callee := .builtin .append, args := #[s, x], argTypes := #[t, t] }) (hs : a.eval s = v) (c b : Nat) (hx : a.eval x = .slice (some ⟨b, 0, none⟩) 1 c) (hb : b = w.heap.size) (hl : news.size = sz) (h1 : ∀ u ∈ news.toList, u.oneCell' = true)
  (h63 : (n + 1) * bytes ≤ 140737488355328) (h64 : n + 1 ≤ maxLen)
  (h : ∀ v' w', w'.ownsRow base e sz v' (n + 1) (xs ++ news.toList) → (w.alloc (.cells news ta)).grownBy w' v.ownBlock → wpListIn F m P ops Q rest (a.put o.dst v') w') : wpListIn F m P ops Q (o :: rest) a (w.alloc (.cells news ta)) := by
 subst hb
 obtain ⟨i, z, t1, t2, t3, t4, t5, t6, t7⟩ := T
 have hc := (own_get (own_alloc w news ta)).2.1
 refine wpListIn_append_own _ hgd s x t ho base e i z sz bytes t1 t2 t3 t4 t5 t6 t7 v n xs hs (hM.alloc _) ⟨w.heap.size, 0, none⟩ 1 c news.toList hx (by rw [Nat.one_mul, Array.length_toList, hl]) ?_ h1 h64 h63 (by simp; omega) (fun v' w' a b _ => h v' w' a b)
 intro j u hj
 rw [add_plain, Nat.zero_add, hc j, ← Array.getElem?_toList, hj]
def placesF (k : Nat) (l : List Tm) (pre : List (Fin l.length)) : List Value := pre.map (fun x => Value.int .i64 (placeN k l x.1 : Int))
theorem placesF_all (k : Nat) (l : List Tm) : placesF k l (List.finRange l.length) = (placesI k l l.length).map (Value.int .i64) := by
 unfold placesF placesI
 rw [List.map_map]
 apply List.ext_getElem
 ·simp
 ·intro i h1 h2; simp
def BelowI (k : Nat) (l : List Tm) (n B Bt : Nat) (u : Value) (w : World) (pre : List (Fin l.length)) (W : World) : Prop :=
 (∃ v, Boxed W B 94 v ∧ W.ownsRow n 3 1 v pre.length (placesF k l pre) ∧ pre.length ≤ l.length) ∧ Boxed W Bt 22 u ∧ Below n w W
theorem belowI_own (k : Nat) (l : List Tm) {n B Bt : Nat} (u : Value) {w : World} {C : Nat} (hn : n ≤ w.heap.size) (hC : n ≤ C) : OwnFrom C (BelowI k l n B Bt u w) :=
 OwnFrom.and (Own.from (holdsRow_own n B 94 3 1 (fun pre : List (Fin l.length) => pre.length) (placesF k l) (fun pre _ => pre.length ≤ l.length)) C)
  (OwnFrom.and (Own.from (boxed_own Bt 22 (fun _ : List (Fin l.length) => u)) C) (ownFrom_below hn hC))
set_option maxHeartbeats 2000000 in
theorem tbelow_any (ts : List Nd) (hlen : ts.length ≤ 100000) (k : Nat) (x : Nd) (l : List Tm) (v : Value) (w : World) (hT : TmAt ts k (.node x l)) (hS : Shapes w) (hN : IsNodes w v ts) :
  Calls Tryz.prog 125 #[v, .int .i64 k] w fun e w' => ∃ v', e = .returned (.tuple #[v', .int .i64 0]) ∧ w'.ownsRow w.heap.size 3 1 v' l.length ((placesI k l l.length).map (Value.int .i64)) ∧ Later w w' := by
 obtain ⟨p, cp, rfl⟩ := hN.form
 have HK := Lib.hid (fun W => kids_make p ts.length cp (k : Int) W)
 have HZ := Lib.hid (tsize_any ts k (.node x l) _ w hlen hT hS hN)
 have hST := Lib.hid hS
 have hNT := Lib.hid hN
 have HT := Lib.hid hT
 obtain ⟨hr1, hr2, hr3, hr4⟩ := hT.root
 have hml := many_le x.op
 rw [← hr4] at hml
 clear hS hN hT hr1 hr2 hr3 hr4
 obtain ⟨Z, hZ⟩ : ∃ Z, ((Tm.node x l).size : Int) = Z := ⟨_, rfl⟩
 rw [hZ] at HZ
 clear hZ
 refine callsIn_wide.1 (callsIn_of_wp_marks (n := 9) Tryz.func125 rfl trivial ?_ rfl)
 simp only [Tryz.ntmps125, List.size_toArray, List.length_cons, List.length_nil, Nat.reduceAdd, Nat.reduceSub, Array.replicate_succ, Array.replicate_zero, List.push_toArray, List.append_toArray, List.nil_append, List.cons_append]
 gi_wp2_with (first | ((first | (refine ⟨trivial, ?_⟩; gi_at_call 167) | (refine ⟨trivial, fun hh => (by cases hh), ?_⟩; gi_at_call 167)); go_must (refine (callsIn_wide.2 HZ.out).mono ?_; rintro e w1 ⟨rfl, hb1⟩)) | ((first | (refine ⟨trivial, ?_⟩; gi_at_call 120) | (refine ⟨trivial, fun hh => (by cases hh), ?_⟩; gi_at_call 120)); go_must (refine (callsIn_wide.2 (HK.out _)).mono ?_; rintro e w2 ⟨rfl, rfl⟩)))
 have hO := Own.three (Later.refl (((w1.alloc (.cells #[.slice none 0 0] 94)).alloc (.cells #[.slice p ts.length cp] 22)).alloc (.cells #[.int .i64 k] 3)))
 have hbx : Boxed (((w1.alloc (.cells #[.slice none 0 0] 94)).alloc (.cells #[.slice p ts.length cp] 22)).alloc (.cells #[.int .i64 k] 3)) w1.heap.size 94 (.slice none 0 0) := ((Boxed.new w1 94 (.slice none 0 0)).alloc _).alloc _
 have hbt : Boxed (((w1.alloc (.cells #[.slice none 0 0] 94)).alloc (.cells #[.slice p ts.length cp] 22)).alloc (.cells #[.int .i64 k] 3)) (w1.heap.size + 1) 22 (.slice p ts.length cp) := by have := (Boxed.new (w1.alloc (.cells #[.slice none 0 0] 94)) 22 (.slice p ts.length cp)).alloc (.cells #[.int .i64 k] 3); rwa [World.size_alloc] at this
 have hLL : Later w (((w1.alloc (.cells #[.slice none 0 0] 94)).alloc (.cells #[.slice p ts.length cp] 22)).alloc (.cells #[.int .i64 k] 3)) := ((hb1.alloc _).alloc _).alloc _
 obtain ⟨W0, hW0⟩ : ∃ W0, (((w1.alloc (.cells #[.slice none 0 0] 94)).alloc (.cells #[.slice p ts.length cp] 22)).alloc (.cells #[.int .i64 k] 3)) = W0 := ⟨_, rfl⟩
 rw [hW0] at hO hbx hbt hLL ⊢
 have hzw : w1.heap.size + 1 + 1 < W0.heap.size := hO.2.2.1.1
 have hz1 := hb1.size
 have d1 := hO.2.1.2.1 0
 have d2 := hO.2.2.1.2.1 0
 have HLL := Lib.hid hLL
 have hzW := hLL.size
 have HI0 : Hid (BelowI k l w.heap.size w1.heap.size (w1.heap.size + 1) (.slice p ts.length cp) W0 [] W0) := Lib.hid ⟨⟨_, hbx, World.ownsRow_nil _ _ _ _, Nat.zero_le _⟩, hbt, Below.refl _ _⟩
 clear hW0 hO hbx hbt hLL
 refine wpIn_rangeFunc_ownF rfl (by omega) (gf := 166) (lb := #[.pointer (some ⟨w1.heap.size + 1 + 1, 0, none⟩), .pointer (some ⟨w1.heap.size + 1, 0, none⟩)]) rfl trivial (enters_of Tryz.func166 (by kernel_rfl) rfl)
  (kids_stops ts hlen k x l HT.out 8 (w1.heap.size + 1) (w1.heap.size + 1 + 1) (.slice p ts.length cp) w W0 hST.out hNT.out HLL.out d1 d2) kb_t (kb_b hzW (by simp; omega)) (Below.refl _ _) (fun _ => rfl)
  (BelowI k l w.heap.size w1.heap.size (w1.heap.size + 1) (.slice p ts.length cp) W0) (fun _ _ _ => False) (belowI_own k l _ hzW hzW) (fun _ _ _ _ _ hs _ _ => hs) HI0.out
  (fun i => { tmps := #[.slice p ts.length cp, .int .i64 k, undef, undef, .slice none 0 0, .int .i64 0, .int .i64 Z, .int .i64 0, .pointer (some ⟨w1.heap.size, 0, none⟩), undef, .int .i64 (placeN k l i.1 : Int), .tuple #[.int .i64 Z, .int .i64 0], .slice p ts.length cp, .int .i64 k, .tuple #[.int .i64 Z, .int .i64 0], .int .i64 Z, .int .i64 0, .int .i64 0, .bool false, undef, .slice p ts.length cp, .int .i64 k, .func (.func 166) #[] #[.pointer (some ⟨w1.heap.size + 1 + 1, 0, none⟩), .pointer (some ⟨w1.heap.size + 1, 0, none⟩)], .int .i64 (i.1 : Int), .int .i64 (placeN k l i.1 : Int), undef, undef, undef, undef, undef], defers := [] }) ?assign ?body ?done ?stop
 case assign =>
  intro ll i W K hK
  gi_wp2
  exact hK
 case body =>
  rintro ll pre i W ⟨⟨u, hbx, hrow, hpl⟩, hc, hB⟩ hlt
  have hcB := hbx.cell
  have hfB := hbx.frozen
  have hzB := hB.size
  obtain ⟨pu, cu, rfl⟩ := B.owns_form hrow
  have HROW := Lib.hid hrow
  have HBX := Lib.hid hbx
  have HS : Hid (placesF k l (pre ++ [i]) = placesF k l pre ++ [.int .i64 (placeN k l i.1 : Int)]) := Lib.hid (by simp [placesF])
  have HB := Lib.hid hB
  have HC := Lib.hid hc
  obtain ⟨m, hm⟩ : ∃ m, pre.length = m := ⟨_, rfl⟩
  have HM := Lib.hid hm
  rw [hm] at HROW HBX hcB hlt
  generalize (placeN k l i.1 : Int) = X at *
  clear hrow hbx hm hpl hB hc HI0 hST hNT HK HZ
  gi_wp2_with (gi_at_builtin; go_must (refine wpListIn_push (base := w.heap.size) sliceInt HROW.out (by omega) rfl _ _ rfl rfl 1 _ rfl (by simp) rfl (by simp [Value.oneCell']) (by omega) (by unfold maxLen; omega) ?_; intro v9 w9 k1 k2; obtain ⟨hx1, hx2, hx3, hx4, hx5⟩ := Boxed.appended HBX.out (by decide) HROW.out (by omega) (by omega) k1 k2; have hcx := hx1.cell; have hfx := hx1.frozen; obtain ⟨p9, c9, rfl⟩ := B.owns_form k1))
  have hcn := HC.out.not_row (by decide) HROW.out
  have hbt9 : Boxed w9 (w1.heap.size + 1) 22 (.slice p ts.length cp) := (HC.out.alloc _).kept k2 hcn
  have hbt10 : Boxed (w9.setCell ⟨w1.heap.size, 0, none⟩ (.slice p9 (m + 1) c9)) (w1.heap.size + 1) 22 (.slice p ts.length cp) := Boxed.other hbt9 (by omega) _
  refine ⟨hx4, ⟨hx5, fun b hb j => ?_⟩, ⟨_, hx2, ?_, ?_⟩, hbt10, HB.out.trans hx5⟩
  ·obtain rfl : b = w1.heap.size + 1 := by simpa using hb
   have h1 : (w9.setCell ⟨w1.heap.size, 0, none⟩ (.slice p9 (m + 1) c9)).heap[w1.heap.size + 1]? = W.heap[w1.heap.size + 1]? := by
    rw [show W.heap[w1.heap.size + 1]? = _ from HC.out, show (w9.setCell ⟨w1.heap.size, 0, none⟩ (.slice p9 (m + 1) c9)).heap[w1.heap.size + 1]? = _ from hbt10]
   exact World.cell?_of_block (w := W) (a := ⟨w1.heap.size + 1, j, none⟩) h1
  ·rw [List.length_append, HM.out, HS.out]; exact hx3
  ·rw [List.length_append, HM.out]; simp; omega
 case done =>
  rintro D ys W hD rfl ⟨⟨u, hbx, hrow, hpl⟩, hc, hB⟩ hK
  rw [List.length_finRange, placesF_all] at hrow
  obtain ⟨pu, cu, rfl⟩ := B.owns_form hrow
  have hcB := hbx.cell
  have HROW := Lib.hid hrow
  have HB := Lib.hid hB
  clear hbx hrow hpl hc hB HI0 hST hNT HK HZ
  gi_wp2
  refine ⟨by simp, .inl ⟨_, _, rfl, run_takeDeferred hK, ?_⟩⟩
  refine ⟨.tuple #[.slice pu l.length cu, .int .i64 0], by simp [results, Tryz.results125, go_sem], _, rfl, ownsRow_putObj HROW.out _ hK rfl, ?_⟩
  exact Below.trans (Below.trans HLL.out HB.out) (Below.grown (Below.refl _ _) (grownBy_putObj' W D (.deferred none)) (by have := HB.out.size; omega) (fun k e => by cases e; omega))
 case stop =>
  rintro D c pre W _ _ h _
  exact h.elim
end Go.Proofs.YtkjabiabeemfhaaGreatDoor
end
section
namespace Go.Proofs.YtkjabiabeemfhaaGreatDoor
open Go.RowKit
set_option maxRecDepth 100000
theorem zero_choice (w : World) : (zeroValue 152).run Tryz.prog w = .ok (.agg #[.int .i64 0, .int .i64 0, .int .i64 0]) w := by kernel_rfl
set_option maxHeartbeats 1600000 in
theorem choice_any (p m1 m2 : Nat) (fx : List ((Int × Int) × (Int × Int))) (ch : List ((Int × Int) × Int)) (k d : Int) (w : World) (hF : FactsAt w p m1 m2 fx ch) (hk : I64 k) (hd : I64 d) :
  Calls Tryz.prog 25 #[.pointer (some ⟨p, 0, none⟩), .int .i64 k, .int .i64 d] w fun e w' =>
   e = .returned (.tuple #[.int .i64 ((getA ch (k, d)).getD 0), .bool (getA ch (k, d)).isSome]) ∧ Later w w' := by
 obtain ⟨lit, hlit⟩ := place_key (k, d) hk hd
 have HL := Lib.hid (fun W (hl : Later w W) => map_lookup place_law placeV_inj Tryz.underlying146 (hF.x2.later hl) (k, d) hlit (zero_choice W))
 have g0 := hF.c1
 have z0 := World.block_lt_of_cell? _ _ g0
 obtain ⟨g, hg⟩ : ∃ g, getA ch (k, d) = g := ⟨_, rfl⟩
 have hrun : ∃ a b, ∀ W, Later w W → (Instr.lookup 146 (.map (some m2)) (.agg #[.int .i64 k, .int .i64 d]) true).run Tryz.prog W = .ok (.tuple #[.agg #[.int .i64 a, .int .i64 b, .int .i64 (g.getD 0)], .bool g.isSome]) W := by
  cases hga : getA ch (k, d) with
  | none => rw [← hg, hga]; exact ⟨0, 0, fun W hl => by have := HL.out W hl; rw [hga] at this; exact this⟩
  | some v => rw [← hg, hga]; exact ⟨k, d, fun W hl => by have := HL.out W hl; rw [hga] at this; exact this⟩
 obtain ⟨a, b, hrun⟩ := hrun
 rw [hg]
 generalize g.getD 0 = g1 at hrun ⊢
 generalize g.isSome = g2 at hrun ⊢
 clear HL hF hk hd hlit hg
 have hrun1 := hrun _ (Later.refl _)
 go_enter Tryz.func25, Tryz.ntmps25
 go_wp2
 go_ret2
 exact ⟨rfl, by repeat (first | with_reducible (first | exact zq1 _ | assumption | refine zq2 ?_ | refine zq4 ?_ ?_ _ | refine zq5 ?_ _ | refine zq6 ?_ _ | refine zq7 ?_ | refine zq8 ?_ (by assumption)) | (simp only [zq10]; omega) | (simp; done) | (simp; omega))⟩
def OneEnd (r : St) (w0 : World) (b : Nat) (tv : Value) (tod : Int) (fp : Value) (H : List Hd) (F : List Fl) (W : List Wt) (e : Ending) (w' : World) : Prop :=
 e = .returned (.int .i64 r.1) ∧ ∃ rv' fv' wv', StudyAt w0.heap.size w' b tv tod fp rv' fv' wv' (H ++ r.2.1) (F ++ r.2.2.1) (W ++ r.2.2.2) ∧ Later w0 w'
theorem one_end {x r : St} {w0 : World} {b : Nat} {tv : Value} {tod : Int} {fp rv' fv' wv' : Value} {H H' : List Hd} {F F' : List Fl} {W W' : List Wt} {w' : World} (hs : StudyAt w0.heap.size w' b tv tod fp rv' fv' wv' H' F' W') (hr : x = r) (e1 : H' = H ++ r.2.1) (e2 : F' = F ++ r.2.2.1) (e3 : W' = W ++ r.2.2.2) (hl : Later w0 w') :
  OneEnd x w0 b tv tod fp H F W (.returned (.int .i64 r.1)) w' := by subst hr e1 e2 e3; exact ⟨rfl, _, _, _, hs, hl⟩
theorem step14 (env : Env) (tod a b' vn vd : Int) (l : List Tm) (k : Nat) (day n d : Int) : stepT env tod ⟨14, a, b', vn, vd⟩ l k day n d = (0, if day ≤ a then kidH l k 0 a n d else [], [], []) := by simp [stepT]
theorem places_at {pl : Nat} {l : List Tm} {m i : Nat} (hi : i < m) : ∃ h : i < (placesI pl l m ++ [0]).length, (placesI pl l m ++ [0])[i] = (placeN pl l i : Int) := by
 have h1 : (placesI pl l m).length = m := placesI_length pl l m
 refine ⟨by rw [List.length_append]; omega, ?_⟩
 rw [List.getElem_append_left (by omega)]
 simp [placesI]
theorem owns_mono {w : World} {base base' : Nat} {e : TypeId} {sz : Nat} {v : Value} {n : Nat} {xs : List Value} (hb : base ≤ base') (h : w.ownsRow base' e sz v n xs) : w.ownsRow base e sz v n xs :=
 ⟨h.1, h.2.imp id (fun ⟨g, cap, cur, h1, h2, h3⟩ => ⟨g, cap, cur, h1, Nat.le_trans hb h2, h3⟩)⟩
def ValE (lo : Nat) (w : World) (b : Nat) (tv : Value) (tod : Int) (fp rv fv wv : Value) (H : List Hd) (F : List Fl) (W : List Wt) (A : Nat) (asks : List Wt) (E : Int) (K : Bool) (out : List Q2) (e : Ending) (w' : World) : Prop :=
 ∃ wv', StudyAt lo w' b tv tod fp rv fv wv' H F (W ++ if E = 0 ∧ K = false then asks else []) ∧ S.LatB (fun k => k = b ∨ wv.ownBlock = some k) w w' ∧ S.LatB (fun k => k < A) w w' ∧
  ∃ v' k', e = .returned (.tuple #[v', .bool k', .int .i64 E]) ∧ (E = 0 → k' = K ∧ IsRats w' v' out)
theorem ValE.out {lo : Nat} {w : World} {b : Nat} {tv : Value} {tod : Int} {fp rv fv wv : Value} {H : List Hd} {F : List Fl} {W : List Wt} {A : Nat} {asks : List Wt} {E : Int} {K : Bool} {out : List Q2} {e : Ending} {w' : World} (h : ValE lo w b tv tod fp rv fv wv H F W A asks E K out e w') :
  ∃ wv', StudyAt lo w' b tv tod fp rv fv wv' H F (W ++ if E = 0 ∧ K = false then asks else []) ∧ S.LatB (fun k => k = b ∨ wv.ownBlock = some k) w w' ∧ S.LatB (fun k => k < A) w w' ∧ ∃ v' k', e = .returned (.tuple #[v', .bool k', .int .i64 E]) ∧ (E = 0 → k' = K ∧ IsRats w' v' out) := h
section
variable {w0 : World} {ts : List Nd} {T : Tm} {tv : Value} {fx : FxL} {ch : ChL} {p m1 m2 : Nat}
theorem sval_one (hJ : JobAt w0 ts T tv fx ch p m1 m2) {w : World} (hw0 : Later w0 w) {b : Nat} {tod : Int} {rv fv wv : Value} {H : List Hd} {F : List Fl} {W : List Wt} (hst : StudyAt w0.heap.size w b tv tod (.pointer (some ⟨p, 0, none⟩)) rv fv wv H F W) (hWl : W.length ≤ 100000) {day : Int} (hd0 : 0 ≤ day) (hd1 : day ≤ 73048)
  {A : Nat} (hbA : b < A) (hwA : ∀ k, wv.ownBlock = some k → k < A) {K0 : Nat} {s : Tm} (n1 : TmAt ts K0 s) (n2 : NumT s) (n3 : wrongV ts (K0 : Nat) = 0) {R : Int × Option Q2} (hR : valT (getF fx day) s = R)
  (W1 : World) (hl : Later w W1) (pv : Value) (hp : IsInts W1 pv [(K0 : Int)]) (hpz : ∀ k, pv.ownBlock = some k → w.heap.size ≤ k) :
  Calls Tryz.prog 135 #[.pointer (some ⟨b, 0, none⟩), .int .i64 day, pv] W1 (ValE w0.heap.size W1 b tv tod (.pointer (some ⟨p, 0, none⟩)) rv fv wv H F W A (asksT (envT fx ch) day s) R.1 R.2.isSome [(outN R, outD R)]) := by
 refine (svalues_any hJ W1 (hw0.trans hl) b tod rv fv wv H F W (hst.later hl) hWl day hd0 hd1 [(K0, s)] (by simp) (fun x hx => by rw [List.mem_singleton.1 hx]; exact ⟨n1, n2, n3⟩) pv hp (fun k hk => ⟨fun e => by have := hpz k hk; have := hst.own.1.1; omega, fun e => by have := hpz k hk; have := (hst.waits.lo k e).2; omega⟩)).mono fun e w' h => ?_
 obtain ⟨wv', h1, h2, -, v', k', h4, h5⟩ := val_one (env := envT fx ch) (s := s) (R := R) hR h
 exact ⟨wv', h1, h2, h2.mono (fun k hk => hk.elim (fun e => by omega) (fun e => hwA k e)), v', k', h4, h5⟩
theorem sval_two (hJ : JobAt w0 ts T tv fx ch p m1 m2) {w : World} (hw0 : Later w0 w) {b : Nat} {tod : Int} {rv fv wv : Value} {H : List Hd} {F : List Fl} {W : List Wt} (hst : StudyAt w0.heap.size w b tv tod (.pointer (some ⟨p, 0, none⟩)) rv fv wv H F W) (hWl : W.length ≤ 100000) {day : Int} (hd0 : 0 ≤ day) (hd1 : day ≤ 73048)
  {A : Nat} (hbA : b < A) (hwA : ∀ k, wv.ownBlock = some k → k < A) {K0 K1 : Nat} {s t : Tm} (n1 : TmAt ts K0 s) (n2 : NumT s) (n3 : wrongV ts (K0 : Nat) = 0) (o1 : TmAt ts K1 t) (o2 : NumT t) (o3 : wrongV ts (K1 : Nat) = 0) {R U : Int × Option Q2} (hR : valT (getF fx day) s = R) (hU : valT (getF fx day) t = U)
  (W1 : World) (hl : Later w W1) (pv : Value) (hp : IsInts W1 pv [(K0 : Int), (K1 : Int)]) (hpz : ∀ k, pv.ownBlock = some k → w.heap.size ≤ k) :
  Calls Tryz.prog 135 #[.pointer (some ⟨b, 0, none⟩), .int .i64 day, pv] W1 (ValE w0.heap.size W1 b tv tod (.pointer (some ⟨p, 0, none⟩)) rv fv wv H F W A (asksT (envT fx ch) day s ++ asksT (envT fx ch) day t) (if R.1 = 0 then U.1 else R.1) (R.2.isSome && U.2.isSome) [(outN R, outD R), (outN U, outD U)]) := by
 refine (svalues_any hJ W1 (hw0.trans hl) b tod rv fv wv H F W (hst.later hl) hWl day hd0 hd1 [(K0, s), (K1, t)] (by simp) (fun x hx => by
  simp only [List.mem_cons, List.not_mem_nil, or_false] at hx
  rcases hx with rfl | rfl
  ·exact ⟨n1, n2, n3⟩
  ·exact ⟨o1, o2, o3⟩) pv hp (fun k hk => ⟨fun e => by have := hpz k hk; have := hst.own.1.1; omega, fun e => by have := hpz k hk; have := (hst.waits.lo k e).2; omega⟩)).mono fun e w' h => ?_
 obtain ⟨wv', h1, h2, -, v', k', h4, h5⟩ := val_two (env := envT fx ch) (s := s) (t := t) (R := R) (U := U) hR hU h
 exact ⟨wv', h1, h2, h2.mono (fun k hk => hk.elim (fun e => by omega) (fun e => hwA k e)), v', k', h4, h5⟩
end
theorem own_new {n c k : Nat} {i : Nat} {w : World} (h : (Value.slice (some ⟨i, 0, none⟩) n c).ownBlock = some k) (hi : w.heap.size ≤ i) : w.heap.size ≤ k := by cases h; exact hi
end Go.Proofs.YtkjabiabeemfhaaGreatDoor
end
section
namespace Go.Proofs.YtkjabiabeemfhaaGreatDoor
open Go.RowKit Go.Sort
theorem sort_que {P : Program} {ρ : Go.Shelf.Ren} {α : Type} [Inhabited α] (L : SlLaysF0.n6 P ρ) (k : Nat) (aE : ∀ w, (isAgg (ρ.t 24)).run P w = .ok true w) (zE : ∀ w, (Go.sizeOf (ρ.t 24)).run P w = .ok k w) (cs : α → List Value) (hk : ∀ x, (cs x).length = k) (h0 : 0 < k)
  (h1 : ∀ x, ∀ v ∈ cs x, v.oneCell' = true) (cf : α → α → Int) (hO : SWO (ltOf cf)) (hT : ∀ x y, (ltOf cf) x y = false → (ltOf cf) y x = false → x = y) (g : Nat) (eg : ∀ args w, (callFunc g args).run P w = .ok (.enter g args) w)
  (hcmp : ∀ x y W, Calls P g #[.agg (cs x).toArray, .agg (cs y).toArray] W fun e w' => e = .returned (.int .i64 (cf x y)) ∧ ∃ q os', w' = grow (W.drewN q) os')
  (l : List α) (hlen : l.length ≤ 1000000) (base : Nat) (v : Value) (w : World) (hQ : B.Que base k w v l.length (l.flatMap cs)) :
  Calls P (ρ.f 6) #[v, .func (.func g) #[] #[]] w fun e w' => e = .returned (.tuple #[]) ∧ B.Que base k w' v l.length ((sortL cf l).flatMap cs) ∧ S.LatB (fun b => v.ownBlock = some b) w w' := by
 rcases hQ.2 with ⟨h2, h3⟩ | ⟨b, o, cap, h2, h3, h4, h5, h6, h7, h8⟩
 ·have hl : l = [] := List.eq_nil_of_length_eq_zero h3
  subst hl h2
  exact (AnyF.slices_SortFunc_none L none 0 _ w).mono fun e w' ⟨he, hw⟩ => ⟨he, by subst hw; rw [show sortL cf [] = [] by simp [sortL]]; exact hQ, by subst hw; exact S.LatB.refl _⟩
 ·subst h2
  obtain ⟨hH, -, hb⟩ := B.holdsK_of_que hk h0 hQ
  refine (AnyQ.slices_SortFunc_total L k aE zE cs hk h1 cf hO g #[] b o cap l.toArray w eg (fun m os dk _ x y => hcmp x y _) hH hb (by simp; omega) hT).mono fun e w' ⟨he, n, os, hw⟩ => ⟨he, ?_⟩
  subst hw
  obtain ⟨h9, h10⟩ := B.que_sorted (d' := (sortL cf l).toArray) (m := n) (os := os) hk h0 hQ (by simp [sortL])
  exact ⟨h9, h10.mono (fun k hk => by rw [hk]; rfl)⟩
instance : Inhabited Fl := ⟨⟨0, 0, 0⟩⟩
instance : Inhabited Wt := ⟨⟨false, 0, 0⟩⟩
theorem sort_flows (l : List Fl) (hlen : l.length ≤ 1000000) (base : Nat) (v : Value) (w : World) (hQ : B.Que base 3 w v l.length (l.flatMap flCs)) :
  Calls Tryz.prog 48 #[v, .func (.func 49) #[] #[]] w fun e w' => e = .returned (.tuple #[]) ∧ B.Que base 3 w' v l.length ((sortL ordF l).flatMap flCs) ∧ S.LatB (fun b => v.ownBlock = some b) w w' :=
 sort_que Tryz.sortFlow 3 Tryz.isAgg50 Tryz.sizeOf50 flCs flCs_len (by decide) flCs_one ordF swoF totF 49 (enters_of Tryz.func49 (by kernel_rfl) rfl) dorder_any l hlen base v w hQ
theorem sort_waits (l : List Wt) (hlen : l.length ≤ 1000000) (base : Nat) (v : Value) (w : World) (hQ : B.Que base 3 w v l.length (l.flatMap wtCs)) :
  Calls Tryz.prog 50 #[v, .func (.func 51) #[] #[]] w fun e w' => e = .returned (.tuple #[]) ∧ B.Que base 3 w' v l.length ((sortL ordW l).flatMap wtCs) ∧ S.LatB (fun b => v.ownBlock = some b) w w' :=
 sort_que Tryz.sortWait 3 Tryz.isAgg46 Tryz.sizeOf46 wtCs wtCs_len (by decide) wtCs_one ordW swoW totW 51 (enters_of Tryz.func51 (by kernel_rfl) rfl) worder_any l hlen base v w hQ
end Go.Proofs.YtkjabiabeemfhaaGreatDoor
end
