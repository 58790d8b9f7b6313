/- A range over a function whose loop variable is laid in memory each round, and whose body may leave. -/
import Derived.Test.YtkjabiabeemfhaaGreatDoorZ3
import Derived.Test.YtkjabiabeemfhaaGreatDoorZ15
import Derived.Laws.IdiomRangeMap
import Derived.Test.YtkjabiabeemfhaaGreatDoorZ21
import Derived.Test.YtkjabiabeemfhaaGreatDoorZ11
set_option linter.all false
set_option linter.all false
section
namespace Go.Proofs.YtkjabiabeemfhaaGreatDoor
open Go.RowKit
set_option maxRecDepth 100000
open Go.WideMaps Go.ChangeMaps
section
variable {P : Program}
theorem heap_put_same {w : World} {r : Nat} {o o' : Obj} (h : w.heap[r]? = some o) : (setBlock w r o').heap[r]? = some o' := by
 have : r < w.heap.size := (Array.getElem?_eq_some_iff.1 h).1
 simp [setBlock, this]
theorem heap_put_other (w : World) {r k : Nat} (o : Obj) (h : k ≠ r) : (setBlock w r o).heap[k]? = w.heap[k]? := by
 simp only [setBlock]
 rw [Array.getElem?_setIfInBounds_ne (fun e => h e.symm)]
theorem run_setObj_at {w : World} {r : Nat} {a : Option Nat} {b c : Nat} {s : Array Nat} (h : w.heap[r]? = some (.mapIter a b s c)) (o' : Obj) : (setObj r o').run P w = .ok () (setBlock w r o') := by
 simp only [setObj, Sem.run, h]
 rfl
theorem run_next_at (w : World) (ty : TypeId) (r bm since c0 : Nat) (seen : Array Nat) (es : Array MapEntry) (clock : Nat) (hr : w.heap[r]? = some (.mapIter (some bm) since seen c0)) (hb : w.heap[bm]? = some (.map es clock)) (hold : ∀ x ∈ es.toList, x.born < since) (hsc : since ≤ c0) :
  ((leftOf es seen).size = 0 ∧ (Instr.next (.pointer (some ⟨r, 0, none⟩)) false ty).run P w = .ok (.tuple #[.bool false]) w) ∨
  ∃ e ∈ (leftOf es seen).toList, ∃ w', (Instr.next (.pointer (some ⟨r, 0, none⟩)) false ty).run P w = .ok (.tuple #[.bool true, e.key, e.val]) w' ∧ w'.heap[r]? = some (.mapIter (some bm) since (seen.push e.born) clock) ∧ w.grownBy w' (some r) ∧ w'.heap.size = w.heap.size := by
 simp only [Instr.next, getObj, Sem.run_bind, Sem.run, hr, hb, Result.andThen, next_test_false seen es since c0 hold hsc, Bool.false_eq_true, if_false]
 unfold leftOf
 have hmem : ∀ x ∈ (Array.filter (fun e => !seen.contains e.born) es).toList, x.born < since := fun x hx => hold x (by simp at hx ⊢; exact hx.1)
 generalize Array.filter (fun e => !seen.contains e.born) es = L at hmem ⊢
 have e1 : L.filter (fun x => decide (x.born < since)) = L := Array.filter_eq_self.2 (fun x hx => by simpa using hmem x (by simpa using hx))
 have e2 : L.filter (fun x => decide (x.born ≥ since)) = #[] := by
  rw [Array.filter_eq_empty_iff]
  intro x hx
  have := hmem x (by simpa using hx)
  simp
  omega
 simp only [e1, e2, Array.append_empty]
 by_cases h0 : L.size = 0
 ·left
  have : L = #[] := Array.eq_empty_of_size_eq_zero h0
  subst this
  refine ⟨rfl, ?_⟩
  simp [choose, Sem.run, Question.forced]
 ·right
  have hne : L.isEmpty = false := by simp [Array.isEmpty, h0]
  simp only [hne, Bool.false_eq_true, if_false, Array.empty_append, Array.size_map]
  have hch : ∃ (j : Nat) (w1 : World), j < L.size ∧ w1.os = w.os ∧ w1.tape = w.tape ∧ w1.output = w.output ∧ w1.heap = w.heap ∧ (choose (Question.mapNext L.size)).run P w = .ok j w1 := by
   by_cases hf : L.size ≤ 1
   ·exact ⟨0, w, by omega, rfl, rfl, rfl, rfl, by simp [choose, Sem.run, Question.forced, hf]⟩
   ·exact ⟨_, w.drew, Nat.mod_lt _ (by omega), rfl, rfl, rfl, rfl, by
     simp only [choose, Sem.run, Question.forced, decide_eq_true_eq, hf, if_false, Question.cut]
     rfl⟩
  obtain ⟨j, w1, hj, a1, a2, a3, a4, hrun⟩ := hch
  have hr1 : w1.heap[r]? = some (.mapIter (some bm) since seen c0) := by rw [a4]; exact hr
  refine ⟨L[j], by simp, setBlock w1 r (.mapIter (some bm) since (seen.push L[j].born) clock), ?_, heap_put_same hr1, ⟨a1, a2, a3, by simp [setBlock, a4], fun k _ hk => ?_⟩, by simp [setBlock, a4]⟩
  ·simp only [hrun, Array.getElem?_map, Array.getElem?_eq_getElem hj, Option.map_some, Sem.run_bind, run_setObj_at hr1, Result.andThen]
   rfl
  ·rw [heap_put_other _ _ (fun e => hk (by rw [e])), a4]
theorem run_entry_at (w : World) (r bm since : Nat) (seen : Array Nat) (es : Array MapEntry) (clock : Nat) (e : MapEntry) (hr : w.heap[r]? = some (.mapIter (some bm) since (seen.push e.born) clock)) (hb : w.heap[bm]? = some (.map es clock)) (he : e ∈ es.toList) (hn : (es.toList.map (·.born)).Nodup) :
  (Instr.entry (.pointer (some ⟨r, 0, none⟩))).run P w = .ok (.tuple #[e.key, e.val]) w := by
 have hf : es.find? (·.born == e.born) = some e := by rw [← Array.find?_toList]; exact find_born e es.toList hn he
 simp only [Instr.entry, getObj, Sem.run_bind, Sem.run, hr, hb, Result.andThen, Array.back?_push, bne_self_eq_false, Bool.false_eq_true, if_false, hf]
 rfl
variable {ops : Array Oper} {rest : List Oper} {o : Oper} {a : Act} {w : World} {Q : Exit → Act → World → Prop}
end
section
variable {κ β : Type} {P : Program} {k : TypeId} {ek : κ → Value} {ev : κ → β → Value} {l : List (κ × β)} {es : Array MapEntry}
structure Got (es : Array MapEntry) (l : List (κ × β)) (seen : Array Nat) (xs : List κ) : Prop where
 nodup : xs.Nodup
 mem : ∀ (i : Nat) (e : MapEntry) (p : κ × β), es.toList[i]? = some e → l[i]? = some p → (seen.contains e.born = true ↔ p.1 ∈ xs)
 sub : ∀ x ∈ xs, ∃ p ∈ l, p.1 = x
theorem Got.start (es : Array MapEntry) (l : List (κ × β)) : Got es l #[] [] := ⟨by simp, by simp, by simp⟩
theorem left_at {seen : Array Nat} {e : MapEntry} (he : e ∈ (leftOf es seen).toList) : ∃ i : Nat, es.toList[i]? = some e ∧ seen.contains e.born = false := by
 obtain ⟨h1, h2⟩ := mem_left he
 obtain ⟨i, hi, rfl⟩ := List.getElem_of_mem h1
 exact ⟨i, List.getElem?_eq_getElem hi, h2⟩
theorem Got.step {seen : Array Nat} {xs : List κ} {e : MapEntry} {i : Nat} {p : κ × β} (h : Got es l seen xs) (hlen : es.toList.length = l.length) (hl : (l.map (·.1)).Nodup) (hb : (es.toList.map (·.born)).Nodup) (he : es.toList[i]? = some e) (hp : l[i]? = some p) (hn : seen.contains e.born = false) :
  Got es l (seen.push e.born) (xs ++ [p.1]) := by
 have hnot : p.1 ∉ xs := fun hm => by rw [(h.mem i e p he hp).2 hm] at hn; cases hn
 refine ⟨?_, fun j e' p' he' hp' => ?_, fun x hx => ?_⟩
 ·rw [List.nodup_append]
  refine ⟨h.nodup, by simp, ?_⟩
  intro a ha b hb
  simp at hb
  subst hb
  rintro rfl
  exact hnot ha
 ·rw [contains_push, Bool.or_eq_true, h.mem j e' p' he' hp', List.mem_append, List.mem_singleton, beq_iff_eq]
  have : e'.born = e.born ↔ p'.1 = p.1 := by
   constructor
   ·intro hbe
    have hij : j = i := by
     have a1 : (es.toList.map (·.born))[j]? = some e.born := by rw [List.getElem?_map, he', ← hbe]; rfl
     have a2 : (es.toList.map (·.born))[i]? = some e.born := by rw [List.getElem?_map, he]; rfl
     exact (List.getElem?_inj (List.getElem?_eq_some_iff.1 a1).1 hb).1 (a1.trans a2.symm)
    subst hij
    rw [hp] at hp'
    cases hp'
    rfl
   ·intro hpe
    have hij : j = i := by
     have a1 : (l.map (·.1))[j]? = some p.1 := by rw [List.getElem?_map, hp', ← hpe]; rfl
     have a2 : (l.map (·.1))[i]? = some p.1 := by rw [List.getElem?_map, hp]; rfl
     exact (List.getElem?_inj (List.getElem?_eq_some_iff.1 a1).1 hl).1 (a1.trans a2.symm)
    subst hij
    rw [he] at he'
    cases he'
    rfl
  rw [this]
 ·rcases List.mem_append.1 hx with hx | hx
  ·exact h.sub x hx
  ·simp at hx; subst hx; exact ⟨p, List.mem_of_getElem? hp, rfl⟩
theorem Got.all {seen : Array Nat} {xs : List κ} (h : Got es l seen xs) (hlen : es.toList.length = l.length) (hl : (l.map (·.1)).Nodup) (h0 : (leftOf es seen).size = 0) : xs.Perm (l.map (·.1)) := by
 rw [List.perm_ext_iff_of_nodup h.nodup hl]
 intro x
 constructor
 ·intro hx
  obtain ⟨p, hp, rfl⟩ := h.sub x hx
  exact List.mem_map_of_mem hp
 ·intro hx
  obtain ⟨p, hp, rfl⟩ := List.mem_map.1 hx
  obtain ⟨i, hi, rfl⟩ := List.getElem_of_mem hp
  have hie : i < es.toList.length := by omega
  refine (h.mem i es.toList[i] l[i] (List.getElem?_eq_getElem hie) (List.getElem?_eq_getElem hi)).1 ?_
  cases hc : seen.contains es.toList[i].born with
  | true => rfl
  | false =>
   have : es.toList[i] ∈ (leftOf es seen) := by
    unfold leftOf
    rw [Array.mem_filter]
    exact ⟨Array.mem_toList_iff.1 (List.getElem_mem hie), by rw [hc]; rfl⟩
   have h1 : leftOf es seen = #[] := Array.eq_empty_of_size_eq_zero h0
   rw [h1] at this
   exact absurd this (by simp)
theorem nodup_len [DecidableEq κ] : ∀ (xs ys : List κ), xs.Nodup → (∀ x ∈ xs, x ∈ ys) → xs.length ≤ ys.length
 | [], _, _, _ => Nat.zero_le _
 | x :: r, ys, hn, hs => by
  rw [List.nodup_cons] at hn
  have hx := hs x (List.mem_cons_self ..)
  have h1 := nodup_len r (ys.erase x) hn.2 (fun y hy => by
   have hne : y ≠ x := fun e => hn.1 (e ▸ hy)
   exact (List.mem_erase_of_ne hne).2 (hs y (List.mem_cons_of_mem _ hy)))
  rw [List.length_erase_of_mem hx] at h1
  have := List.length_pos_of_mem hx
  rw [List.length_cons]
  omega
theorem Got.len [DecidableEq κ] {seen : Array Nat} {xs : List κ} (h : Got es l seen xs) : xs.length ≤ l.length := by
 have := nodup_len xs (l.map (·.1)) h.nodup (fun x hx => by obtain ⟨p, hp, rfl⟩ := h.sub x hx; exact List.mem_map_of_mem hp)
 simpa using this
end
end Go.Proofs.YtkjabiabeemfhaaGreatDoor
end
section
namespace Go.Proofs.YtkjabiabeemfhaaGreatDoor
open Go.RowKit Go.Sort
open Go.WideMaps Go.ChangeMaps
def pickOf (ch : List ((Int × Int) × Int)) (p : Int × Int) : Int := (getA ch p).getD 0
def ceCs (ch : List ((Int × Int) × Int)) (p : Int × Int) : List Value := [.int .i64 p.1, .int .i64 p.2, .int .i64 p.1, .int .i64 p.2, .int .i64 (pickOf ch p)]
def chCs (ch : List ((Int × Int) × Int)) (p : Int × Int) : List Value := [.int .i64 p.1, .int .i64 p.2, .int .i64 (pickOf ch p)]
def chF (ch : List ((Int × Int) × Int)) (p : Int × Int) : Nat → Value
 | 0 => .int .i64 p.1
 | 1 => .int .i64 p.2
 | _ => .int .i64 (pickOf ch p)
def ceF (ch : List ((Int × Int) × Int)) (p : Int × Int) : Nat → Value
 | 0 => .int .i64 p.1
 | 1 => .int .i64 p.2
 | 2 => .int .i64 p.1
 | 3 => .int .i64 p.2
 | _ => .int .i64 (pickOf ch p)
theorem chCs_get (ch : List ((Int × Int) × Int)) (p : Int × Int) (j : Nat) (hj : j < 3) : (chCs ch p)[j]? = some (chF ch p j) := by
 rcases j with _ | _ | _ | j
 ·rfl
 ·rfl
 ·rfl
 ·omega
theorem ceCs_get (ch : List ((Int × Int) × Int)) (p : Int × Int) (j : Nat) (hj : j < 5) : (ceCs ch p)[j]? = some (ceF ch p j) := by
 rcases j with _ | _ | _ | _ | _ | j
 ·rfl
 ·rfl
 ·rfl
 ·rfl
 ·rfl
 ·omega
theorem chCs_one (ch : List ((Int × Int) × Int)) (p : Int × Int) : ∀ u ∈ chCs ch p, u.oneCell' = true := by
 intro u hu
 simp only [chCs, List.mem_cons, List.not_mem_nil, or_false] at hu
 rcases hu with rfl | rfl | rfl <;> rfl
theorem ceCs_one (ch : List ((Int × Int) × Int)) (p : Int × Int) : ∀ u ∈ ceCs ch p, u.oneCell' = true := by
 intro u hu
 simp only [ceCs, List.mem_cons, List.not_mem_nil, or_false] at hu
 rcases hu with rfl | rfl | rfl | rfl | rfl <;> rfl
theorem ceInfo : (Tryz.prog.info? 309).map (fun i => (i.zero, i.size, i.bytes)) = some (some (.agg #[.int .i64 0, .int .i64 0, .int .i64 0, .int .i64 0, .int .i64 0]), 5, 40) := by kernel_rfl
theorem sliceCE : SliceOf Tryz.prog 307 309 5 40 := sliceOf_mk Tryz.underlying307 ceInfo rfl (by decide)
theorem chInfo : (Tryz.prog.info? 152).map (fun i => (i.zero, i.size, i.bytes)) = some (some (.agg #[.int .i64 0, .int .i64 0, .int .i64 0]), 3, 24) := by kernel_rfl
theorem sliceCh : SliceOf Tryz.prog 297 152 3 24 := sliceOf_mk Tryz.underlying297 chInfo rfl (by decide)
def ordP (x y : Int × Int) : Int := firstNz [Lib.compareInt x.1 y.1, Lib.compareInt x.2 y.2]
def ltP (x y : Int × Int) : Prop := x.1 < y.1 ∨ x.1 = y.1 ∧ x.2 < y.2
theorem ltP_iff (x y : Int × Int) : ltOf ordP x y = true ↔ ltP x y := by
 unfold ltOf ordP ltP
 rw [decide_eq_true_iff]
 unfold firstNz firstNz firstNz Lib.compareInt
 repeat' split
 all_goals (first | omega | (simp_all <;> omega))
theorem swoP : SWO (ltOf ordP) where
 irrefl x := by rw [not_lt ltP_iff]; unfold ltP; omega
 trans x y z h1 h2 := by rw [ltP_iff] at *; unfold ltP at *; omega
 ntrans x y z h1 h2 := by rw [not_lt ltP_iff] at *; unfold ltP at *; omega
theorem totP (x y : Int × Int) (h1 : ltOf ordP x y = false) (h2 : ltOf ordP y x = false) : x = y := by
 rw [not_lt ltP_iff] at *
 unfold ltP at *
 exact Prod.ext (by omega) (by omega)
theorem ints2 {w : World} {ta : TypeId} {k : Nat} (a b : Int) (hk : k = w.heap.size) : IsInts (w.alloc (.cells #[.int .i64 a, .int .i64 b] ta)).drew (.slice (some ⟨k, 0, none⟩) 2 2) [a, b] := by
 subst hk
 obtain ⟨z, hc, -⟩ := own_get (own_alloc w #[.int .i64 a, .int .i64 b] ta)
 refine .inr ⟨w.heap.size, 0, 2, rfl, z, Nat.le_refl _, by unfold maxLen; omega, fun j hj => ?_⟩
 have hj3 : j < 2 := hj
 show (w.alloc _).cell? _ = _
 rw [Nat.zero_add, hc j]
 rcases j with _ | _ | j
 ·rfl
 ·rfl
 ·omega
set_option maxHeartbeats 1600000 in
theorem porder_any (ch : List ((Int × Int) × Int)) (x y : Int × Int) (W : World) : Calls Tryz.prog 206 #[.agg (ceCs ch x).toArray, .agg (ceCs ch y).toArray] W fun e w' => e = .returned (.int .i64 (ordP x y)) ∧ ∃ q os', w' = grow (W.drewN q) os' := by
 obtain ⟨R, hR⟩ : ∃ R, ordP x y = R := ⟨_, rfl⟩
 rw [hR]
 unfold ordP at hR
 have HR := Lib.hid hR
 clear hR
 obtain ⟨a, ha⟩ : ∃ a, Lib.compareInt x.1 y.1 = a := ⟨_, rfl⟩
 obtain ⟨b, hb⟩ : ∃ b, Lib.compareInt x.2 y.2 = b := ⟨_, rfl⟩
 rw [ha, hb] at HR
 have H1 := Lib.hid (fun W => ha ▸ Tryz.cmp_Compare_int x.1 y.1 W)
 have H2 := Lib.hid (fun W => hb ▸ Tryz.cmp_Compare_int x.2 y.2 W)
 have HO := Lib.hid (fun (v : Value) W (h : IsInts W v [a, b]) => cmpOr_any [a, b] (by simp) v W h)
 rw [HR.out] at HO
 obtain ⟨p, hp⟩ : ∃ p, pickOf ch x = p := ⟨_, rfl⟩
 obtain ⟨q, hq⟩ : ∃ p, pickOf ch y = p := ⟨_, rfl⟩
 unfold ceCs
 rw [hp, hq]
 obtain ⟨x1, x2⟩ := x
 obtain ⟨y1, y2⟩ := y
 show Calls Tryz.prog 206 #[.agg #[.int .i64 x1, .int .i64 x2, .int .i64 x1, .int .i64 x2, .int .i64 p], .agg #[.int .i64 y1, .int .i64 y2, .int .i64 y1, .int .i64 y2, .int .i64 q]] W _
 simp only at H1 H2
 clear ha hb HR hp hq
 go_enter Tryz.func206, Tryz.ntmps206
 go_upto_region 1 with (fail)
 refine wp_region_plan 17 (.one [0, 1, 2, 3, 4, 5, 7, 8, 9, 10, 11, 12] 6 (.one [] 13 (.one [] 14 (.one [] 15 (.done [16]))))) (by kernel_rfl) (by kernel_rfl) (fun _ _ d _ _ h => by cases d <;> exact h) ?_
 repeat' (first
  | ((first | refine plan_done (fun K hK => ?_) | refine plan_one (by rfl) (fun K hK => ?_)); (first | (simp only [zq9]; repeat (go_big_quiet_step (fail))) | simp only [pick_nil]); refine wpQuiet_nil (hK _ ?_); clear hK K)
  | ((with_reducible refine at_list ?_); go_wp2_with (first | (go_at_call 53; first | ((with_reducible refine (H1.out _).mono ?_); rintro e w3 ⟨rfl, rfl⟩) | ((with_reducible refine (H2.out _).mono ?_); rintro e w3 ⟨rfl, rfl⟩)) | (go_at_call 52; go_must (refine (HO.out _ _ (ints2 a b (by simp))).mono ?_; rintro e w9 ⟨rfl, rfl⟩))); first | refine behind_store (t := 17) (by decide) ?_ | refine behind (by with_reducible repeat (first | exact zq1 _ | assumption | refine zq2 ?_ | refine zq5 ?_ _ | refine zq6 ?_ _ | refine zq7 ?_ | refine zq8 ?_ (by assumption))) ?_))
 all_goals
  go_wp2
  go_ret
  exact ⟨rfl, 1, _, by rw [alloc_eq_grow, alloc_eq_grow, alloc_eq_grow, grow_grow, grow_grow]; rfl⟩
theorem sort_places (ch : List ((Int × Int) × Int)) (l : List (Int × Int)) (hlen : l.length ≤ 1000000) (base : Nat) (v : Value) (w : World) (hQ : B.Que base 5 w v l.length (l.flatMap (ceCs ch))) :
  Calls Tryz.prog 205 #[v, .func (.func 206) #[] #[]] w fun e w' => e = .returned (.tuple #[]) ∧ B.Que base 5 w' v l.length ((sortL ordP l).flatMap (ceCs ch)) ∧ S.LatB (fun b => v.ownBlock = some b) w w' :=
 sort_que Tryz.sortEntry 5 Tryz.isAgg309 Tryz.sizeOf309 (ceCs ch) (fun _ => rfl) (by decide) (ceCs_one ch) ordP swoP totP 206 (enters_of Tryz.func206 (by kernel_rfl) rfl) (porder_any ch) l hlen base v w hQ
theorem iterSeen_of {w : World} {r : Nat} {a : Option Nat} {b c : Nat} {s : Array Nat} (h : w.heap[r]? = some (.mapIter a b s c)) : w.iterSeen r = s := by unfold World.iterSeen; rw [h]
set_option maxHeartbeats 3200000 in
theorem all_any (ch : List ((Int × Int) × Int)) (hlen : ch.length ≤ 100000) (m : Nat) (w : World) (hM : ChMap w m ch) :
  Calls Tryz.prog 197 #[.map (some m)] w fun e w' => ∃ v, e = .returned v ∧ IsRow 3 (chF ch) w' v (sortL ordP (ch.map (·.1))) ∧ Later w w' := by
 obtain ⟨es, clock, h1, h2, h3, h4, hst⟩ := hM
 have hlt : m < w.heap.size := (Array.getElem?_eq_some_iff.1 h1).1
 have hel : es.toList.length = ch.length := by have := congrArg List.length h2; simpa using this
 have hrg := run_range_map (P := Tryz.prog) w 146 150 152 m es clock Tryz.underlying146 h1
 have HM1 := Lib.hid h1
 have H2 := Lib.hid h2
 have H3 := Lib.hid h3
 have HST := Lib.hid hst
 have HEL := Lib.hid hel
 clear h1 h2 h3 h4 hst hel
 go_enter Tryz.func197, Tryz.ntmps197
 go_wp2
 clear hrg
 go_loopw [3] (fun s3 wr => ∃ (seen : Array Nat) (xs : List (Int × Int)), Hid (Got es ch seen xs) ∧ Hid (wr.ownsRow (w.heap.size + 1) 309 5 s3 xs.length (xs.flatMap (ceCs ch))) ∧ wr.heap[w.heap.size]? = some (.mapIter (some m) clock seen clock) ∧ Later w wr) (fun _ wr => (leftOf es (wr.iterSeen w.heap.size)).size)
 case atStart => exact ⟨#[], [], Lib.hid (Got.start _ _), Lib.hid (World.ownsRow_nil _ _ _ _), heap_alloc_new w _, (Later.refl _).alloc _⟩
 case round =>
  obtain ⟨seen, xs, HG, HQ, hit, hlat⟩ := hrel
  obtain ⟨p3, c3, rfl⟩ := B.owns_form HQ.out
  have hmw : wr.heap[m]? = some (.map es clock) := (hlat.block m hlt).trans HM1.out
  rcases run_next_at (P := Tryz.prog) wr 0 w.heap.size m clock clock seen es clock hit hmw HST.out.1 (Nat.le_refl _) with ⟨h0, hrun⟩ | ⟨e, he, w2, hrun, hit2, hg2, hs2⟩
  ·have hnx : ∀ ty, (Instr.next (.pointer (some ⟨w.heap.size, 0, none⟩)) false ty).run Tryz.prog wr = _ := fun _ => hrun
   have hpx := HG.out.all HEL.out H3.out h0
   have HPX := Lib.hid hpx
   obtain ⟨WA, hWA⟩ : ∃ WA : World, WA = wr := ⟨_, rfl⟩
   subst hWA
   have hxl : xs.length = ch.length := by have := hpx.length_eq; simpa using this
   have HS := Lib.hid (sort_places ch xs (by omega) _ _ WA (B.que_of_owns HQ.out))
   have hQb := B.owns_base HQ.out
   obtain ⟨N, hN⟩ : ∃ N, xs.length = N := ⟨_, rfl⟩
   rw [hN] at HS hQb ⊢
   have hN2 : N ≤ 100000 := by omega
   have HN := Lib.hid hN
   clear hrun h0 hpx HG hit hmw HST HEL H2 HQ hxl hN
   go_upto_region 7 with (go_at_call 205; go_must (refine HS.out.mono ?_; rintro e w5 ⟨rfl, hQ5, hL5⟩))
   have hl5 : Later w w5 := ⟨hL5.os.trans hlat.os, hL5.tape.trans hlat.tape, hL5.output.trans hlat.output, Nat.le_trans hlat.size hL5.size, fun k hk => (hL5.block k (Nat.lt_of_lt_of_le hk hlat.size) (fun e => by have := (hQb k e).1; omega)).trans (hlat.block k hk)⟩
   obtain ⟨Y, hY⟩ : ∃ Y, sortL ordP xs = Y := ⟨_, rfl⟩
   rw [hY] at hQ5
   have hYl : Y.length = N := by rw [← hY, ← HN.out]; exact (sortL_perm _ _).length_eq
   have hRow := (hQ5.row (f := ceF ch) (ceCs ch) (fun _ => rfl) (ceCs_get ch) (by decide)).1
   have HRow := Lib.hid hRow
   have HY := Lib.hid hY
   have HYL := Lib.hid hYl
   clear HS hQb hQ5 hL5 hRow hY hYl hlat hnx
   go_wp2
   go_loopw [6, 26] (fun s6 s26 wr => ∃ j : Nat, j ≤ N ∧ s26 = .int .i64 j ∧ Hid (wr.ownsRow w5.heap.size 152 3 s6 (Y.take j).length ((Y.take j).flatMap (chCs ch))) ∧ Later w5 wr) (fun _ s26 _ => N - (intOf s26).toNat)
   case atStart => exact ⟨0, Nat.zero_le _, rfl, Lib.hid (World.ownsRow_nil _ _ _ _), Later.refl _⟩
   case round =>
    obtain ⟨j, hj, rfl, HQ, hlr⟩ := hrel
    obtain ⟨p6, c6, rfl⟩ := B.owns_form HQ.out
    have hzr := Later.size hlr
    by_cases hlt2 : j < N
    ·have hI : (j : Int) < N := by omega
     have hjl : j < Y.length := by rw [HYL.out]; exact hlt2
     obtain ⟨b, o, cp', hv, hb, g⟩ := HRow.out.full (i := j) hjl
     rw [HYL.out] at hv
     cases hv
     replace g := fun k (hk : k < 5) => ((bcell hlr).1 _ _ hb).trans (g k hk)
     have g0 := g 0 (by omega)
     have g1 := g 1 (by omega)
     have g2 := g 2 (by omega)
     have g3 := g 3 (by omega)
     have g4 := g 4 (by omega)
     simp only [ceF, Nat.add_zero] at g0 g1 g2 g3 g4
     have HT : Hid (Y.take (j + 1) = Y.take j ++ [Y[j]]) := Lib.hid (by rw [List.take_add_one, List.getElem?_eq_getElem hjl, Option.toList_some])
     have HX : Hid (chCs ch Y[j] = [.int .i64 Y[j].1, .int .i64 Y[j].2, .int .i64 (pickOf ch Y[j])]) := Lib.hid rfl
     have hjt : (Y.take j).length = j := by rw [List.length_take, HYL.out]; omega
     generalize pickOf ch Y[j] = X at *
     obtain ⟨y, hy⟩ : ∃ y, Y[j] = y := ⟨_, rfl⟩
     rw [hy] at g0 g1 g2 g3 HT HX
     generalize y.1 = y1 at *
     generalize y.2 = y2 at *
     obtain ⟨Z, hZ⟩ : ∃ Z, Y.take j = Z := ⟨_, rfl⟩
     rw [hZ] at HQ HT hjt ⊢
     rw [hjt] at HQ ⊢
     have HJ := Lib.hid hjt
     clear g hy hZ hjt HRow HY HM1 H3 HPX
     go_wp2_with (at_builtin; go_must (refine B.wpList_push (base := w5.heap.size) sliceCh (B.owns_later HQ.out ((Later.refl _).alloc _)) (by simp; omega) rfl _ _ rfl rfl 1 _ rfl (by simp) rfl (by simp [Value.oneCell']) (by omega) (by unfold maxLen; omega) ?_; intro v9 w9 k1 k2 k3))
     go_roundw
     case rel =>
      refine ⟨j + 1, by omega, by go_num, Lib.hid ?_, B.grown_lat ((hlr.alloc _).alloc _) k2 (fun k hk => (B.owns_base HQ.out k hk).1)⟩
      rw [HT.out, List.length_append, List.flatMap_append, HJ.out, List.flatMap_cons, List.flatMap_nil, List.append_nil, HX.out]
      exact k1
     case measure => simp [intOf]; omega
    ·have hge : ¬ ((j : Int) < N) := by omega
     have hall : Y.take j = Y := List.take_of_length_le (by rw [HYL.out]; omega)
     have hQ := HQ.out
     rw [hall] at hQ ⊢
     have hR := (B.owns_row (f := chF ch) (chCs ch) (fun _ => rfl) (chCs_get ch) (by decide) hQ).1
     have HYe := HY.out
     have HR : Hid (IsRow 3 (chF ch) wr (.slice p6 Y.length c6) (sortL ordP (ch.map (·.1)))) := Lib.hid (by
      have e : sortL ordP (ch.map (·.1)) = Y := by
       rw [← HYe]
       exact order_unique totP ((sortL_perm _ _).trans (HPX.out.symm.trans (sortL_perm _ _).symm)) (sortL_sorted swoP totP _) (sortL_sorted swoP totP _)
      rw [e]; exact hR)
     have hlw := hl5.trans hlr
     clear hQ hR HYe hall HRow HY HQ HPX HM1 H3
     go_wp2
     go_ret
     exact ⟨_, rfl, HR.out, hlw⟩
  ·obtain ⟨i, hie, hni⟩ := left_at he
   have hil : i < ch.length := by have := (List.getElem?_eq_some_iff.1 hie).1; have := HEL.out; omega
   have hpi : ch[i]? = some ch[i] := List.getElem?_eq_getElem hil
   have hG2 := HG.out.step HEL.out H3.out HST.out.2.1 hie hpi hni
   have hkv : e.key = placeV ch[i].1 ∧ e.val = chV ch[i].1 ch[i].2 := by
    have := congrArg (fun l => l[i]?) H2.out
    simp only [List.getElem?_map, hie, hpi, Option.map_some, Option.some.injEq, Prod.mk.injEq] at this
    exact this
   have hpk : pickOf ch ch[i].1 = ch[i].2 := by unfold pickOf; rw [getA_some H3.out (List.getElem_mem hil)]; rfl
   have hlat2 : Later w w2 := Later.grown hlat hg2 (fun k hk => by cases hk; exact Nat.le_refl _)
   have hmw2 : w2.heap[m]? = some (.map es clock) := (hlat2.block m hlt).trans HM1.out
   have hen := run_entry_at (P := Tryz.prog) w2 w.heap.size m clock seen es clock e hit2 hmw2 (List.mem_of_getElem? hie) HST.out.2.1
   have HLT := Lib.hid (left_shrinks es seen e he)
   rw [hkv.1, hkv.2] at hrun hen
   unfold placeV chV at hrun hen
   have hnx : ∀ ty, (Instr.next (.pointer (some ⟨w.heap.size, 0, none⟩)) false ty).run Tryz.prog wr = _ := fun _ => hrun
   have HX : Hid (ceCs ch ch[i].1 = [.int .i64 ch[i].1.1, .int .i64 ch[i].1.2, .int .i64 ch[i].1.1, .int .i64 ch[i].1.2, .int .i64 ch[i].2]) := Lib.hid (by unfold ceCs; rw [hpk])
   have HQ2 : Hid (w2.ownsRow (w.heap.size + 1) 309 5 (.slice p3 xs.length c3) xs.length (xs.flatMap (ceCs ch))) := Lib.hid (HQ.out.kept hg2 (by
    cases p3 with
    | none => exact .inl rfl
    | some a => exact .inr (fun hh => by have h7 := (B.owns_base HQ.out a.block rfl).1; have h8 : a.block = w.heap.size := Option.some.inj hh; omega)))
   have hxl := HG.out.len
   have HG2 := Lib.hid hG2
   have HSEEN : Hid (wr.iterSeen w.heap.size = seen) := Lib.hid (iterSeen_of hit)
   generalize ch[i].2 = X at *
   obtain ⟨y, hy⟩ : ∃ y, ch[i].1 = y := ⟨_, rfl⟩
   rw [hy] at HX HG2 hen hnx
   generalize y.1 = y1 at *
   generalize y.2 = y2 at *
   have hxn : xs.length ≤ 100000 := by omega
   have hQb := B.owns_base HQ2.out
   obtain ⟨N, hN⟩ : ∃ N, xs.length = N := ⟨_, rfl⟩
   have HN := Lib.hid hN
   rw [hN] at HQ2 hxn hQb ⊢
   have hz2 := hlat2.size
   clear hrun hie hil hpi hG2 hkv hpk hy hxl HQ HG hN H2 H3 HST HEL hmw hit he hni hs2
   go_wp2_with (at_builtin; go_must (refine B.wpList_push (base := w.heap.size + 1) sliceCE (B.owns_later HQ2.out (((Later.refl _).alloc _).alloc _)) (by simp; omega) rfl _ _ rfl rfl 1 _ rfl (by simp) rfl (by simp [Value.oneCell']) (by omega) (by unfold maxLen; omega) ?_; intro v9 w9 k1 k2 k3))
   have hit9 : w9.heap[w.heap.size]? = some (.mapIter (some m) clock (seen.push e.born) clock) := by
    have hlt2 : w.heap.size < w2.heap.size := (Array.getElem?_eq_some_iff.1 hit2).1
    rw [k2.block w.heap.size (by simp; omega) (fun hh => by have := (hQb _ hh.symm).1; omega)]
    rw [Below.heap_alloc _ _ _ (by simp; omega), Below.heap_alloc _ _ _ (by simp; omega), Below.heap_alloc _ _ _ hlt2]
    exact hit2
   have HIT9 := Lib.hid hit9
   clear hit9
   go_roundw
   case rel =>
    have hlr : Later w w9 := B.grown_lat (((hlat2.alloc _).alloc _).alloc _) k2 (fun k hk => by have := (hQb k hk).1; omega)
    refine ⟨seen.push e.born, xs ++ [y], HG2, Lib.hid ?_, HIT9.out, hlr⟩
    rw [List.length_append, List.flatMap_append, HN.out, List.flatMap_cons, List.flatMap_nil, List.append_nil, HX.out]
    exact k1
   case measure =>
    rw [iterSeen_of HIT9.out, HSEEN.out]
    exact HLT.out
end Go.Proofs.YtkjabiabeemfhaaGreatDoor
end
section
namespace Go.Proofs.YtkjabiabeemfhaaGreatDoor
open Go.RowKit
set_option maxRecDepth 100000
section
variable {α : Type} {F : Fence} {n : Nat} {P : Program}
def recV (fn : FuncId) (tmps : Array Value) (ps : Array Tmp) (assign body : Code) (D : Nat) (st : LoopState) : Loop := { state := st, pending := none, fn, tmps, params := ps, assign, body, defers := D }
def BookV (D : Nat) (r : Loop) (W : World) : Prop := W.heap[D + 1]? = some (.loop r) ∧ W.heap[D]? = some (.deferred (some []))
theorem BookV.lt {D : Nat} {r : Loop} {W : World} (h : BookV D r W) : D + 1 < W.heap.size := (Array.getElem?_eq_some_iff.1 h.1).1
theorem BookV.others {D : Nat} {r : Loop} {W W' : World} (h : BookV D r W) (k : KeepsOthers W W') : BookV D r W' := ⟨k.same _ _ h.1 rfl, k.same _ _ h.2 rfl⟩
theorem BookV.put {D : Nat} {r : Loop} {W : World} (h : BookV D r W) (r' : Loop) : BookV D r' (W.putObj (D + 1) (.loop r')) := ⟨World.putObj_heap_same h.lt, (World.putObj_heap_other (by omega)).trans h.2⟩
theorem BookV.abides (D : Nat) (r : Loop) (B : Nat) : AbidesFrom B (fun (_ : List α) W => BookV D r W) := fun _ _ _ _ hs hg hr =>
 ⟨(grownBy_keeps hg (fun k e => (hr k e).2) hs.1 rfl).trans hs.1, (grownBy_keeps hg (fun k e => (hr k e).2) hs.2 rfl).trans hs.2⟩
def onPost (K : World → Prop) : Exit → Act → World → Prop
 | .normal, _, W => K W
 | _, _, _ => False
@[go_sem] theorem onPost_normal (K : World → Prop) (a : Act) (W : World) : onPost K .normal a W = K W := rfl
end
end Go.Proofs.YtkjabiabeemfhaaGreatDoor
end
section
namespace Go.Proofs.YtkjabiabeemfhaaGreatDoor
open Go.RowKit
set_option maxRecDepth 100000
section
variable {α : Type} {F : Fence} {n : Nat} {P : Program}
def outPost (K : World → Prop) (L : Code → World → Prop) : Exit → Act → World → Prop
 | .normal, _, W => K W
 | .ret, _, W => L .ret W
 | .exit id, _, W => L (.exit id) W
 | .goto t, _, W => L (.goto t) W
 | .panic _, _, _ => False
 | .outgrown, _, _ => False
@[go_sem] theorem outPost_normal (K : World → Prop) (L : Code → World → Prop) (a : Act) (W : World) : outPost K L .normal a W = K W := rfl
@[go_sem] theorem outPost_ret (K : World → Prop) (L : Code → World → Prop) (a : Act) (W : World) : outPost K L .ret a W = L .ret W := rfl
@[go_sem] theorem outPost_exit (K : World → Prop) (L : Code → World → Prop) (a : Act) (id : Nat) (W : World) : outPost K L (.exit id) a W = L (.exit id) W := rfl
def stopV (r : Loop) (c : Code) : Loop := { r with state := .done, pending := some c }
theorem wpIn_range_W {g : Operand} {ps : Array Tmp} {assign body : Code} {Q : Exit → Act → World → Prop} {a : Act} {w : World}
  (hro : F.round = none) (h1 : 1 ≤ n) {gf : Nat} {lb : Array Value} (hg : a.eval g = .func (.func gf) #[] lb) (hFg : F.fn gf) (eg : ∀ args w, (callFunc gf args).run P w = .ok (.enter gf args) w)
  {encs : α → Array Value} {Kp : World → World → Prop} {S Sp : List α → Prop} {N : Nat} (hseq : SeqStopsK F (n - 1) P gf lb encs Kp S Sp N w)
  (hKt : ∀ {A B C : World}, Kp A B → Kp B C → Kp A C) (hKb : ∀ (W : World) (o o' : Obj), W.heap[w.heap.size + 1]? = some o → o.isCells = false → o.isWalk = false → Kp W (W.putObj (w.heap.size + 1) o')) (hps : ∀ x, (encs x).size = ps.size)
  (I : List α → World → Prop) (Ix : Code → List α → World → Prop) (hI : OwnFrom w.heap.size I) (hIx : ∀ c, OwnFrom w.heap.size (Ix c)) (h0 : I [] w) (Z : List α → α → Act → World → Prop) (hZ : ∀ pre x a', OwnFrom w.heap.size (fun (_ : Unit) W => Z pre x a' W))
  (hassign : ∀ (l : Nat) (pre : List α) (x : α) (W : World) (K : Act → World → Prop), I pre W → pre.length < N → (∀ a' W', KeepsOthers W W' → Kp W W' → Z pre x a' W' → K a' W') →
   assign.wpIn (F.inRound l) (n - 1 - 1) P (Exit.then K (fun _ _ _ => False)) { tmps := (ps.zip (encs x)).foldl (fun t (p, v) => t.setIfInBounds p v) a.tmps, defers := [] } W)
  (hbody : ∀ (l : Nat) (pre : List α) (x : α) (a' : Act) (W : World), Z pre x a' W → body.wpIn (F.inRound l) (n - 1 - 1) P (outPost (fun W' => KeepsOthers W W' ∧ Kp W W' ∧ I (pre ++ [x]) W') (fun c W' => KeepsOthers W W' ∧ Ix c (pre ++ [x]) W')) a' W)
  (hdone : ∀ (D : Nat) (xs : List α) (W : World), w.heap.size ≤ D → S xs → I xs W → W.heap[D]? = some (.deferred (some [])) → Q .normal { a with defers := mark D :: a.defers } W)
  (hstop : ∀ (D : Nat) (c : Code) (pre : List α) (W : World), w.heap.size ≤ D → Sp pre → Ix c pre W → W.heap[D]? = some (.deferred (some [])) → c.wpIn F n P Q { a with defers := mark D :: a.defers } W) :
  (Code.rangeFunc g ps assign body).wpIn F n P Q a w := by
 refine wpIn_rangeFunc (fun fn hfn => ?_)
 rw [hro]
 obtain ⟨r0, hr0⟩ : ∃ r, recV fn a.tmps ps assign body w.heap.size .ready = r := ⟨_, rfl⟩
 obtain ⟨r1, hr1⟩ : ∃ r, recV fn a.tmps ps assign body w.heap.size .busy = r := ⟨_, rfl⟩
 have e01 : ({ r0 with state := .busy } : Loop) = r1 := by rw [← hr0, ← hr1]; rfl
 have e10 : ({ r1 with state := if (none : Option Code).isNone then .ready else .done, pending := none } : Loop) = r0 := by rw [← hr0, ← hr1]; rfl
 have e12 : ∀ c : Code, ({ r1 with state := if (some c).isNone then .ready else .done, pending := some c } : Loop) = stopV r0 c := fun c => by rw [← hr0, ← hr1]; rfl
 obtain ⟨W1, hW1⟩ : ∃ W, (w.alloc (.deferred (some []))).alloc (.loop r0) = W := ⟨_, rfl⟩
 have hbk : BookV w.heap.size r0 W1 := by
  refine ⟨?_, ?_⟩
  ·have h := World.alloc_heap_new (w.alloc (.deferred (some []))) (.loop r0)
   rw [World.size_alloc, hW1] at h
   exact h
  ·rw [← hW1]; exact (Below.heap_alloc _ _ _ (by simp)).trans (World.alloc_heap_new w _)
 have hl1 : Later w W1 := by rw [← hW1]; exact ((Later.refl w).alloc _).alloc _
 have hi1 : I [] W1 := by rw [← hW1]; exact hI.alloc _ (hI.alloc _ h0)
 have hsz : w.heap.size ≤ W1.heap.size := Later.size hl1
 refine ⟨w.heap.size + 1, [mark w.heap.size], W1, { target := .fn (.func gf) lb, args := #[.func (.yield (w.heap.size + 1)) #[] #[]] }, W1, gf, #[.func (.yield (w.heap.size + 1)) #[] #[]] ++ lb, W1, ?_, ?_, ?_, ?_, fun _ => h1, ?_⟩
 ·rw [← hW1, ← hr0]; exact run_enterLoop_outer _ _ _ _ _
 ·simp only [resolve, hg]; simp [go_sem]
 ·intro f' hf'; simp [Target.leads] at hf'; subst hf'; exact hFg
 ·simp [invoke, go_sem, eg]
 have hnw : ∀ {A : World} {row : Option Nat}, (∀ r, row = some r → W1.heap.size ≤ r ∧ ∃ o : Obj, A.heap[r]? = some o ∧ o.isWalk = true) → (∀ r, row = some r → w.heap.size ≤ r ∧ ∃ o : Obj, A.heap[r]? = some o ∧ o.isCells = false) :=
  fun hr k e => by obtain ⟨hk, o, ho, hw⟩ := hr k e; exact ⟨by omega, o, ho, Obj.not_cells_of_walk hw⟩
 refine (hseq (w.heap.size + 1) (fun (pre : List α) W => I pre W ∧ BookV w.heap.size r0 W) (fun (pre : List α) W => ∃ c, Ix c pre W ∧ BookV w.heap.size (stopV r0 c) W) W1 hl1
  (fun s A B row hs hgr hr => ⟨hI s A B row hs.1 hgr (hnw hr), BookV.abides (α := α) _ _ _ s A B row hs.2 hgr hr⟩)
  (fun s A B row hs hgr hr => by obtain ⟨c, hc, hb⟩ := hs; exact ⟨c, hIx c s A B row hc hgr (hnw hr), BookV.abides (α := α) _ _ _ s A B row hb hgr hr⟩) ?_ ⟨hi1, hbk⟩).mono ?_
 ·rintro pre x W ⟨hi, hb⟩ hlen
  have hy := run_yield (P := P) (args := encs x) hb.1 (by rw [← hr0]; exact hps x)
  refine ⟨_, _, _, _, hy, roundIn_of_wpIn (by rw [← hr0]; exact hfn) ?_⟩
  rw [← hr0]
  refine hassign _ pre x W _ hi hlen (fun a' W' hk hp hz => ?_)
  have hb' := hb.others hk
  refine ⟨_, run_beginRound hb'.1 (by rw [← hr0]; rfl), ?_⟩
  rw [e01]
  have hb2 := hb'.put r1
  have hz2 := (hZ pre x a').putObj (s := ()) (.loop r1) hz (by omega) hb'.1 rfl
  refine wpIn_mono (hbody _ pre x a' _ hz2) ?_
  intro e a3 W3 h3
  have fin : ∀ (c : Code), KeepsOthers (W'.putObj (w.heap.size + 1) (.loop r1)) W3 → Ix c (pre ++ [x]) W3 → ∃ v w', (Instr.endRound (w.heap.size + 1) (some c)).run P W3 = .ok v w' ∧
    ((Ending.returned v = .returned (.bool true) ∧ (I (pre ++ [x]) w' ∧ BookV w.heap.size r0 w') ∧ Kp W w') ∨ (Ending.returned v = .returned (.bool false) ∧ ∃ c, Ix c (pre ++ [x]) w' ∧ BookV w.heap.size (stopV r0 c) w')) := fun c k3 i3 => by
   have hb3 := hb2.others k3
   have hend := run_endRound (P := P) (some c) hb3.1
   rw [e12] at hend
   exact ⟨_, _, hend, .inr ⟨rfl, c, (hIx c).putObj _ i3 (by omega) hb3.1 rfl, hb3.put _⟩⟩
  cases e with
  | normal =>
   obtain ⟨k3, p3, i3⟩ := h3
   have hb3 := hb2.others k3
   have hend := run_endRound (P := P) none hb3.1
   rw [e10] at hend
   exact ⟨_, _, hend, .inl ⟨rfl, ⟨hI.putObj _ i3 (by omega) hb3.1 rfl, (by rw [hr0]; exact hb3.put r0)⟩, hKt hp (hKt (hKb _ _ _ hb'.1 rfl rfl) (hKt p3 (hKb _ _ _ hb3.1 rfl rfl)))⟩⟩
  | ret => rw [hr0]; exact fin .ret h3.1 h3.2
  | exit id => rw [hr0]; exact fin (.exit id) h3.1 h3.2
  | goto t => rw [hr0]; exact fin (.goto t) h3.1 h3.2
  | _ => exact h3.elim
 ·rintro e W2 ⟨⟨v, rfl⟩, (⟨xs, hS, hi, hb⟩ | ⟨pre, hSp, c, hi, hb⟩)⟩
  ·have hp : r0.pending = none := by rw [← hr0]; rfl
   have hend := run_endLoop (P := P) hb.1 (by rw [← hr0]; simp [recV])
   rw [hp] at hend
   exact ⟨none, _, hend, hdone _ xs _ (Nat.le_refl _) hS (hI.putObj _ hi (by omega) hb.1 rfl) (hb.put _).2⟩
  ·have hend := run_endLoop (P := P) hb.1 (by simp [stopV])
   exact ⟨some c, _, hend, hstop _ c pre _ (Nat.le_refl _) hSp ((hIx c).putObj _ hi (by omega) hb.1 rfl) (hb.put _).2⟩
end
end Go.Proofs.YtkjabiabeemfhaaGreatDoor
end
