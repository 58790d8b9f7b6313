/- walks: chattelref02: Of, Neg, Mul, Add, Turn, Order -/
import Derived.Test.YtnnjjaknkiklpaaRefL
import Derived.Deep.LoopGhost
namespace Go.Proofs.Ytnnjjaknkiklpaa
open Go.RowKit

/-- A number through another one. -/
def IsQ (w : World) (x : Value) (n d : Int) : Prop := ∃ u v, x = .agg #[.bool (decide (n < 0)), u, .bool (decide (d < 0)), v] ∧ Num w u n.natAbs ∧ Num w v d.natAbs
theorem IsQ.later {w w' : World} {x : Value} {n d : Int} (h : IsQ w x n d) (hb : Later w w') : IsQ w' x n d := by
  obtain ⟨a, b, h1, h2, h3⟩ := h; exact ⟨a, b, h1, h2.later hb, h3.later hb⟩
theorem IsQ.open {w : World} {x : Value} {n d : Int} (h : IsQ w x n d) : ∃ p c q e, x = .agg #[.bool (decide (n < 0)), .slice p (nlen n.natAbs) c, .bool (decide (d < 0)), .slice q (nlen d.natAbs) e] ∧
    IsZ w (.agg #[.bool (decide (n < 0)), .slice p (nlen n.natAbs) c]) n ∧ IsZ w (.agg #[.bool (decide (d < 0)), .slice q (nlen d.natAbs) e]) d := by
  obtain ⟨a, b, rfl, h2, h3⟩ := h
  obtain ⟨p, c, rfl⟩ := Row.form h2
  obtain ⟨q, e, rfl⟩ := Row.form h3
  exact ⟨p, c, q, e, rfl, ⟨_, rfl, h2⟩, ⟨_, rfl, h3⟩⟩
theorem IsZ.num {w : World} {s : Bool} {v : Value} {z : Int} (h : IsZ w (.agg #[.bool s, v]) z) : Num w v z.natAbs := by
  obtain ⟨u, h1, h2⟩ := h
  cases h1; exact h2
theorem q_end {w : World} {k n1 n2 : Nat} {v1 v2 y1 y2 : Value} {s1 s2 t1 t2 : Bool} (hc : ∀ i, w.cell? ⟨k, i, none⟩ = #[.bool t1, y1, .bool t2, y2][i]?) (h1 : Num w v1 n1) (h2 : Num w v2 n2) :
    ∃ W : World, ((((w.setCell ⟨k, 0, none⟩ (.bool s1)).setCell ⟨k, 1, none⟩ v1).setCell ⟨k, 2, none⟩ (.bool s2)).setCell ⟨k, 3, none⟩ v2) = W ∧
      W.cell? ⟨k, 0, none⟩ = some (.bool s1) ∧ W.cell? ⟨k, 1, none⟩ = some v1 ∧ W.cell? ⟨k, 2, none⟩ = some (.bool s2) ∧ W.cell? ⟨k, 3, none⟩ = some v2 ∧ Num W v1 n1 ∧ Num W v2 n2 := by
  have e1 := set_own (k := 0) hc (.bool s1) (by simp)
  have e2 := set_own (k := 1) e1 v1 (by simp)
  have e3 := set_own (k := 2) e2 (.bool s2) (by simp)
  have e4 := set_own (k := 3) e3 v2 (by simp)
  have hn : ∀ {v : Value} {n : Nat}, Num w v n → Num ((((w.setCell ⟨k, 0, none⟩ (.bool s1)).setCell ⟨k, 1, none⟩ v1).setCell ⟨k, 2, none⟩ (.bool s2)).setCell ⟨k, 3, none⟩ v2) v n := fun h =>
    ((((h : Row _ _ _ _).set (t := t1) (by rw [hc]; rfl)).set (t := s1) (by rw [e1]; rfl)).set (t := s1) (by rw [e2]; rfl)).set (t := s1) (by rw [e3]; rfl)
  exact ⟨_, rfl, by rw [e4]; rfl, by rw [e4]; rfl, by rw [e4]; rfl, by rw [e4]; rfl, hn h1, hn h2⟩
theorem isQ_mk {w : World} {n d : Int} {v1 v2 : Value} (h1 : Num w v1 n.natAbs) (h2 : Num w v2 d.natAbs) : IsQ w (.agg #[.bool (decide (n < 0)), v1, .bool (decide (d < 0)), v2]) n d :=
  ⟨_, _, rfl, h1, h2⟩
theorem put4 {w w1 : World} {k : Nat} {a b c d : Value} (h : Later w w1) (hk : w.heap.size ≤ k) : Later w ((((w1.setCell ⟨k, 0, none⟩ a).setCell ⟨k, 1, none⟩ b).setCell ⟨k, 2, none⟩ c).setCell ⟨k, 3, none⟩ d) :=
  (((h.putCell hk _).putCell hk _).putCell hk _).putCell hk _

set_option maxHeartbeats 800000 in
theorem qof_any (n d : Int) (w : World) (hn1 : -9223372036854775808 ≤ n) (hn2 : n ≤ 9223372036854775807) (hd1 : -9223372036854775808 ≤ d) (hd2 : d ≤ 9223372036854775807) :
    Calls Try.prog 13 #[.agg #[.int .i64 n, .int .i64 d]] w fun e w' => ∃ r, e = .returned r ∧ IsQ w' r n d ∧ Later w w' := by
  go_enter Try.func13, Try.ntmps13
  go_upto_region 1 with fail
  refine wp_opaque (fun w0 hb0 => ?_)
  have hO := Own.two hb0
  have hw0 : Later w w0 := hb0.un1.un1
  obtain ⟨⟨z1, c1, -⟩, ⟨z2, c2, f2⟩, -⟩ := id hO
  refine wp_region_plan 7 (.one [0, 1, 3, 4] 2 (.one [] 5 (.one [6] 7 (.done [])))) (by kernel_rfl) (by kernel_rfl) (fun _ _ d _ _ h => by cases d <;> exact h) ?_
  repeat' (first
    | (refine plan_done (fun K hK => ?_); (first | (simp only [pick_cons, pick_nil, toList_some_append, List.getElem?_toArray, List.getElem?_cons_zero, List.getElem?_cons_succ]; repeat (go_big_quiet_step (fail))) | simp only [pick_nil]); refine wpQuiet_nil (hK _ ?_); clear hK K)
    | (refine plan_one (by rfl) (fun K hK => ?_); (first | (simp only [pick_cons, pick_nil, toList_some_append, List.getElem?_toArray, List.getElem?_cons_zero, List.getElem?_cons_succ]; repeat (go_big_quiet_step (fail))) | simp only [pick_nil]); refine wpQuiet_nil (hK _ ?_); clear hK K)
    | ((with_reducible refine at_list ?_); go_wp2_with (first | (go_at_call_of 21 (Value.int IntKind.i64 n); go_must (refine (rof_any n _ hn1 hn2).mono ?_; rintro e w1 ⟨r1, rfl, hr1, hb1⟩; replace hb1 := Later.undrew hb1; obtain ⟨p1, k1, er1, hr2⟩ := hr1.open; subst er1; clear c1 z1 c2 z2 f2; obtain ⟨⟨z1, c1, -⟩, ⟨z2, c2, f2⟩, -⟩ := hO.later hb1)) | (go_at_call_of 21 (Value.int IntKind.i64 d); go_must (refine (rof_any d _ hd1 hd2).mono ?_; rintro e w2 ⟨r3, rfl, hr3, hb2⟩; obtain ⟨p2, k2, er3, hr4⟩ := hr3.open; subst er3; clear c1 z1 c2 z2 f2; obtain ⟨⟨z1, c1, -⟩, ⟨z2, c2, f2⟩, -⟩ := hO.later (hb1.trans hb2)))); first | refine behind_store (t := 7) (by decide) ?_ | refine behind (by repeat (first | with_reducible exact Later.refl _ | with_reducible assumption | with_reducible refine Later.ofdrew ?_ | with_reducible refine Later.ofdrewN ?_ | with_reducible refine Later.alloc ?_ _ | with_reducible refine Later.drewN ?_ _ | with_reducible refine Later.drew ?_ | (with_reducible refine Later.trans ?_ (by assumption)))) ?_))
  go_wp2
  obtain ⟨W, hW, e0, e1, e2, e3, hm1, hm2⟩ := q_end (s1 := decide (n < 0)) (s2 := decide (d < 0)) c2 (hr2.later hb2) hr4
  have hLW := put4 (k := w.heap.size + 1) (a := .bool (decide (n < 0))) (b := .slice p1 (nlen n.natAbs) k1) (c := .bool (decide (d < 0))) (d := .slice p2 (nlen d.natAbs) k2) ((hw0.trans hb1).trans hb2) (by omega)
  rw [hW] at hLW ⊢
  exact bodyPost_ret (v := .agg #[.bool (decide (n < 0)), .slice p1 (nlen n.natAbs) k1, .bool (decide (d < 0)), .slice p2 (nlen d.natAbs) k2]) (by simp [results, Try.results13, go_sem, e0, e1, e2, e3]) rfl ⟨_, rfl, isQ_mk hm1 hm2, hLW⟩

set_option maxHeartbeats 800000 in
theorem qneg_any (x : Value) (n d : Int) (w : World) (h : IsQ w x n d) (hL : nlen n.natAbs ≤ 30000) :
    Calls Try.prog 26 #[x] w fun e w' => ∃ r, e = .returned r ∧ IsQ w' r (-n) d ∧ Later w w' := by
  obtain ⟨p, c, q, e, rfl, hz1, hz2⟩ := h.open
  clear h
  obtain ⟨m, hm⟩ : ∃ m, -n = m := ⟨_, rfl⟩
  rw [hm]
  have HM := Lib.hid hm
  clear hm
  go_enter Try.func26, Try.ntmps26
  go_upto_region 1 with fail
  refine wp_opaque (fun w0 hb0 => ?_)
  have hO := Own.two hb0
  have hw0 : Later w w0 := hb0.un1.un1
  obtain ⟨⟨z1, c1, -⟩, ⟨z2, c2, f2⟩, -⟩ := id hO
  replace hz1 := hz1.later hw0
  replace hz2 := hz2.later hw0
  refine wp_region_plan 6 (.one [0, 1, 3, 4] 2 (.one [5] 6 (.done []))) (by kernel_rfl) (by kernel_rfl) (fun _ _ d _ _ h => by cases d <;> exact h) ?_
  repeat' (first
    | (refine plan_done (fun K hK => ?_); (first | (simp only [pick_cons, pick_nil, toList_some_append, List.getElem?_toArray, List.getElem?_cons_zero, List.getElem?_cons_succ]; repeat (go_big_quiet_step (fail))) | simp only [pick_nil]); refine wpQuiet_nil (hK _ ?_); clear hK K)
    | (refine plan_one (by rfl) (fun K hK => ?_); (first | (simp only [pick_cons, pick_nil, toList_some_append, List.getElem?_toArray, List.getElem?_cons_zero, List.getElem?_cons_succ]; repeat (go_big_quiet_step (fail))) | simp only [pick_nil]); refine wpQuiet_nil (hK _ ?_); clear hK K)
    | ((with_reducible refine at_list ?_); go_wp2_with ((go_at_call 49; go_must (refine (rneg_z _ n _ (hz1.later (by repeat (first | with_reducible exact Later.refl _ | with_reducible assumption | with_reducible refine Later.ofdrew ?_ | with_reducible refine Later.ofdrewN ?_ | with_reducible refine Later.setCell ?_ ?_ _ | with_reducible refine Later.alloc ?_ _ | with_reducible refine Later.drewN ?_ _ | with_reducible refine Later.drew ?_ | (with_reducible refine Later.trans ?_ (by assumption)) | (simp only [World.size_setCell, World.size_alloc, World.heap_drewN]; omega) | (simp; done) | (simp; omega)))) (by omega)).mono ?_; rintro e w1 ⟨r1, rfl, hr1, hb1⟩; rw [HM.out] at hr1; replace hb1 := Later.undrew hb1; obtain ⟨p1, k1, er1, hr2⟩ := hr1.open; subst er1; clear c1 z1 c2 z2 f2; obtain ⟨⟨z1, c1, -⟩, ⟨z2, c2, f2⟩, -⟩ := hO.later hb1))); first | refine behind_store (t := 6) (by decide) ?_ | refine behind (by repeat (first | with_reducible exact Later.refl _ | with_reducible assumption | with_reducible refine Later.ofdrew ?_ | with_reducible refine Later.ofdrewN ?_ | with_reducible refine Later.alloc ?_ _ | with_reducible refine Later.drewN ?_ _ | with_reducible refine Later.drew ?_ | (with_reducible refine Later.trans ?_ (by assumption)))) ?_))
  go_wp2
  have hn2 := (hz2.later hb1).num
  obtain ⟨W, hW, e0, e1, e2, e3, hm1, hm2⟩ := q_end (s1 := decide (m < 0)) (s2 := decide (d < 0)) c2 hr2 hn2
  have hLW := put4 (k := w.heap.size + 1) (a := .bool (decide (m < 0))) (b := .slice p1 (nlen m.natAbs) k1) (c := .bool (decide (d < 0))) (d := .slice q (nlen d.natAbs) e) (hw0.trans hb1) (by omega)
  rw [hW] at hLW ⊢
  exact bodyPost_ret (v := .agg #[.bool (decide (m < 0)), .slice p1 (nlen m.natAbs) k1, .bool (decide (d < 0)), .slice q (nlen d.natAbs) e]) (by simp [results, Try.results26, go_sem, e0, e1, e2, e3]) rfl ⟨_, rfl, isQ_mk hm1 hm2, hLW⟩

set_option maxHeartbeats 800000 in
theorem qturn_any (x : Value) (n d : Int) (w : World) (h : IsQ w x n d) :
    Calls Try.prog 28 #[x] w fun e w' => ∃ r, e = .returned r ∧ IsQ w' r d n ∧ Later w w' := by
  obtain ⟨p, c, q, e, rfl, hz1, hz2⟩ := h.open
  clear h
  go_enter Try.func28, Try.ntmps28
  go_upto_region 1 with fail
  refine wp_opaque (fun w0 hb0 => ?_)
  have hO := Own.two hb0
  have hw0 : Later w w0 := hb0.un1.un1
  obtain ⟨⟨z1, c1, -⟩, ⟨z2, c2, f2⟩, -⟩ := id hO
  go_wp2
  obtain ⟨W, hW, e0, e1, e2, e3, hm1, hm2⟩ := q_end (s1 := decide (d < 0)) (s2 := decide (n < 0)) c2 (hz2.later hw0).num (hz1.later hw0).num
  have hLW := put4 (k := w.heap.size + 1) (a := .bool (decide (d < 0))) (b := .slice q (nlen d.natAbs) e) (c := .bool (decide (n < 0))) (d := .slice p (nlen n.natAbs) c) hw0 (by omega)
  rw [hW] at hLW ⊢
  exact bodyPost_ret (v := .agg #[.bool (decide (d < 0)), .slice q (nlen d.natAbs) e, .bool (decide (n < 0)), .slice p (nlen n.natAbs) c]) (by simp [results, Try.results28, go_sem, e0, e1, e2, e3]) rfl ⟨_, rfl, isQ_mk hm1 hm2, hLW⟩

theorem nlen_imul (a b : Int) : nlen (a * b).natAbs ≤ nlen a.natAbs + nlen b.natAbs := by rw [Int.natAbs_mul]; exact nlen_mul _ _

set_option maxHeartbeats 1600000 in
theorem qmul_any (x y : Value) (n1 d1 n2 d2 : Int) (w : World) (h : IsQ w x n1 d1) (g : IsQ w y n2 d2) (b1 : nlen n1.natAbs ≤ 20000) (b2 : nlen d1.natAbs ≤ 20000) (b3 : nlen n2.natAbs ≤ 20000) (b4 : nlen d2.natAbs ≤ 20000) :
    Calls Try.prog 27 #[x, y] w fun e w' => ∃ r, e = .returned r ∧ IsQ w' r (n1 * n2) (d1 * d2) ∧ Later w w' := by
  obtain ⟨p, c, q, e, rfl, hz1, hz2⟩ := h.open
  obtain ⟨p', c', q', e', rfl, hz3, hz4⟩ := g.open
  clear h g
  obtain ⟨m, hm⟩ : ∃ m, n1 * n2 = m := ⟨_, rfl⟩
  obtain ⟨k, hk⟩ : ∃ k, d1 * d2 = k := ⟨_, rfl⟩
  rw [hm, hk]
  have HM := Lib.hid hm
  have HK := Lib.hid hk
  clear hm hk
  go_enter Try.func27, Try.ntmps27
  go_upto_region 1 with fail
  refine wp_opaque (fun w0 hb0 => ?_)
  have hO := Own.three hb0
  have hw0 : Later w w0 := hb0.un1.un1.un1
  obtain ⟨⟨z1, c1, -⟩, ⟨z2, c2, -⟩, ⟨z3, c3, f3⟩, -⟩ := id hO
  replace hz1 := hz1.later hw0
  replace hz2 := hz2.later hw0
  replace hz3 := hz3.later hw0
  replace hz4 := hz4.later hw0
  have tok1 : True := trivial
  refine wp_region_plan 11 (.one [0, 1, 2, 3, 5, 6, 7, 8] 4 (.one [] 9 (.one [10] 11 (.done [])))) (by kernel_rfl) (by kernel_rfl) (fun _ _ d _ _ h => by cases d <;> exact h) ?_
  repeat' (first
    | (refine plan_done (fun K hK => ?_); (first | (simp only [pick_cons, pick_nil, toList_some_append, List.getElem?_toArray, List.getElem?_cons_zero, List.getElem?_cons_succ]; repeat (go_big_quiet_step (fail))) | simp only [pick_nil]); refine wpQuiet_nil (hK _ ?_); clear hK K)
    | (refine plan_one (by rfl) (fun K hK => ?_); (first | (simp only [pick_cons, pick_nil, toList_some_append, List.getElem?_toArray, List.getElem?_cons_zero, List.getElem?_cons_succ]; repeat (go_big_quiet_step (fail))) | simp only [pick_nil]); refine wpQuiet_nil (hK _ ?_); clear hK K)
    | ((with_reducible refine at_list ?_); go_wp2_with (first | (go_at_call 46; clear tok1; go_must (refine (rmul_any _ _ n1 n2 _ (hz1.later (by repeat (first | with_reducible exact Later.refl _ | with_reducible assumption | with_reducible refine Later.ofdrew ?_ | with_reducible refine Later.ofdrewN ?_ | with_reducible refine Later.setCell ?_ ?_ _ | with_reducible refine Later.alloc ?_ _ | with_reducible refine Later.drewN ?_ _ | with_reducible refine Later.drew ?_ | (with_reducible refine Later.trans ?_ (by assumption)) | (simp only [World.size_setCell, World.size_alloc, World.heap_drewN]; omega) | (simp; done) | (simp; omega)))) (hz3.later (by repeat (first | with_reducible exact Later.refl _ | with_reducible assumption | with_reducible refine Later.ofdrew ?_ | with_reducible refine Later.ofdrewN ?_ | with_reducible refine Later.setCell ?_ ?_ _ | with_reducible refine Later.alloc ?_ _ | with_reducible refine Later.drewN ?_ _ | with_reducible refine Later.drew ?_ | (with_reducible refine Later.trans ?_ (by assumption)) | (simp only [World.size_setCell, World.size_alloc, World.heap_drewN]; omega) | (simp; done) | (simp; omega)))) (by omega) (by omega)).mono ?_; rintro e w1 ⟨r1, rfl, hr1, hb1⟩; rw [HM.out] at hr1; replace hb1 := Later.undrew hb1; obtain ⟨p1, k1, er1, hr2⟩ := hr1.open; subst er1; clear c1 z1 c2 z2 c3 z3 f3; obtain ⟨⟨z1, c1, -⟩, ⟨z2, c2, -⟩, ⟨z3, c3, f3⟩, -⟩ := hO.later hb1)) | (go_at_call 46; go_must (refine (rmul_any _ _ d1 d2 _ (hz2.later (by repeat (first | with_reducible exact Later.refl _ | with_reducible assumption | with_reducible refine Later.ofdrew ?_ | with_reducible refine Later.ofdrewN ?_ | with_reducible refine Later.setCell ?_ ?_ _ | with_reducible refine Later.alloc ?_ _ | with_reducible refine Later.drewN ?_ _ | with_reducible refine Later.drew ?_ | (with_reducible refine Later.trans ?_ (by assumption)) | (simp only [World.size_setCell, World.size_alloc, World.heap_drewN]; omega) | (simp; done) | (simp; omega)))) (hz4.later (by repeat (first | with_reducible exact Later.refl _ | with_reducible assumption | with_reducible refine Later.ofdrew ?_ | with_reducible refine Later.ofdrewN ?_ | with_reducible refine Later.setCell ?_ ?_ _ | with_reducible refine Later.alloc ?_ _ | with_reducible refine Later.drewN ?_ _ | with_reducible refine Later.drew ?_ | (with_reducible refine Later.trans ?_ (by assumption)) | (simp only [World.size_setCell, World.size_alloc, World.heap_drewN]; omega) | (simp; done) | (simp; omega)))) (by omega) (by omega)).mono ?_; rintro e w2 ⟨r3, rfl, hr3, hb2⟩; rw [HK.out] at hr3; obtain ⟨p3, k3, er3, hr4⟩ := hr3.open; subst er3; clear c1 z1 c2 z2 c3 z3 f3; obtain ⟨⟨z1, c1, -⟩, ⟨z2, c2, -⟩, ⟨z3, c3, f3⟩, -⟩ := hO.later (hb1.trans hb2)))); first | refine behind_store (t := 11) (by decide) ?_ | refine behind (by repeat (first | with_reducible exact Later.refl _ | with_reducible assumption | with_reducible refine Later.ofdrew ?_ | with_reducible refine Later.ofdrewN ?_ | with_reducible refine Later.alloc ?_ _ | with_reducible refine Later.drewN ?_ _ | with_reducible refine Later.drew ?_ | (with_reducible refine Later.trans ?_ (by assumption)))) ?_))
  go_wp2
  obtain ⟨W, hW, e0, e1, e2, e3, hm1, hm2⟩ := q_end (s1 := decide (m < 0)) (s2 := decide (k < 0)) c3 (hr2.later hb2) hr4
  have hLW := put4 (k := w.heap.size + 1 + 1) (a := .bool (decide (m < 0))) (b := .slice p1 (nlen m.natAbs) k1) (c := .bool (decide (k < 0))) (d := .slice p3 (nlen k.natAbs) k3) ((hw0.trans hb1).trans hb2) (by omega)
  rw [hW] at hLW ⊢
  exact bodyPost_ret (v := .agg #[.bool (decide (m < 0)), .slice p1 (nlen m.natAbs) k1, .bool (decide (k < 0)), .slice p3 (nlen k.natAbs) k3]) (by simp [results, Try.results27, go_sem, e0, e1, e2, e3]) rfl ⟨_, rfl, isQ_mk hm1 hm2, hLW⟩

set_option maxHeartbeats 1600000 in
theorem qadd_any (x y : Value) (n1 d1 n2 d2 : Int) (w : World) (h : IsQ w x n1 d1) (g : IsQ w y n2 d2) (b1 : nlen n1.natAbs ≤ 20000) (b2 : nlen d1.natAbs ≤ 20000) (b3 : nlen n2.natAbs ≤ 20000) (b4 : nlen d2.natAbs ≤ 20000) :
    Calls Try.prog 25 #[x, y] w fun e w' => ∃ r, e = .returned r ∧ IsQ w' r (n1 * d2 + n2 * d1) (d1 * d2) ∧ Later w w' := by
  obtain ⟨p, c, q, e, rfl, hz1, hz2⟩ := h.open
  obtain ⟨p', c', q', e', rfl, hz3, hz4⟩ := g.open
  clear h g
  have hs1 := nlen_imul n1 d2
  have hs2 := nlen_imul n2 d1
  obtain ⟨m, hm⟩ : ∃ m, n1 * d2 + n2 * d1 = m := ⟨_, rfl⟩
  obtain ⟨k, hk⟩ : ∃ k, d1 * d2 = k := ⟨_, rfl⟩
  rw [hm, hk]
  have HM := Lib.hid hm
  have HK := Lib.hid hk
  clear hm hk
  go_enter Try.func25, Try.ntmps25
  go_upto_region 1 with fail
  refine wp_opaque (fun w0 hb0 => ?_)
  have hO := Own.three hb0
  have hw0 : Later w w0 := hb0.un1.un1.un1
  obtain ⟨⟨z1, c1, -⟩, ⟨z2, c2, -⟩, ⟨z3, c3, f3⟩, -⟩ := id hO
  replace hz1 := hz1.later hw0
  replace hz2 := hz2.later hw0
  replace hz3 := hz3.later hw0
  replace hz4 := hz4.later hw0
  have tok1 : True := trivial
  have tok2 : True := trivial
  refine wp_region_plan 17 (.one [0, 1, 2, 3, 5, 6, 7, 8, 11, 12, 13, 14] 4 (.one [] 9 (.one [] 10 (.one [] 15 (.one [16] 17 (.done [])))))) (by kernel_rfl) (by kernel_rfl) (fun _ _ d _ _ h => by cases d <;> exact h) ?_
  repeat' (first
    | (refine plan_done (fun K hK => ?_); (first | (simp only [pick_cons, pick_nil, toList_some_append, List.getElem?_toArray, List.getElem?_cons_zero, List.getElem?_cons_succ]; repeat (go_big_quiet_step (fail))) | simp only [pick_nil]); refine wpQuiet_nil (hK _ ?_); clear hK K)
    | (refine plan_one (by rfl) (fun K hK => ?_); (first | (simp only [pick_cons, pick_nil, toList_some_append, List.getElem?_toArray, List.getElem?_cons_zero, List.getElem?_cons_succ]; repeat (go_big_quiet_step (fail))) | simp only [pick_nil]); refine wpQuiet_nil (hK _ ?_); clear hK K)
    | ((with_reducible refine at_list ?_); go_wp2_with (first | (go_at_call 46; clear tok1; go_must (refine (rmul_any _ _ n1 d2 _ (hz1.later (by repeat (first | with_reducible exact Later.refl _ | with_reducible assumption | with_reducible refine Later.ofdrew ?_ | with_reducible refine Later.ofdrewN ?_ | with_reducible refine Later.setCell ?_ ?_ _ | with_reducible refine Later.alloc ?_ _ | with_reducible refine Later.drewN ?_ _ | with_reducible refine Later.drew ?_ | (with_reducible refine Later.trans ?_ (by assumption)) | (simp only [World.size_setCell, World.size_alloc, World.heap_drewN]; omega) | (simp; done) | (simp; omega)))) (hz4.later (by repeat (first | with_reducible exact Later.refl _ | with_reducible assumption | with_reducible refine Later.ofdrew ?_ | with_reducible refine Later.ofdrewN ?_ | with_reducible refine Later.setCell ?_ ?_ _ | with_reducible refine Later.alloc ?_ _ | with_reducible refine Later.drewN ?_ _ | with_reducible refine Later.drew ?_ | (with_reducible refine Later.trans ?_ (by assumption)) | (simp only [World.size_setCell, World.size_alloc, World.heap_drewN]; omega) | (simp; done) | (simp; omega)))) (by omega) (by omega)).mono ?_; rintro e w1 ⟨r1, rfl, hr1, hb1⟩; replace hb1 := Later.undrew hb1; clear c1 z1 c2 z2 c3 z3 f3; obtain ⟨⟨z1, c1, -⟩, ⟨z2, c2, -⟩, ⟨z3, c3, f3⟩, -⟩ := hO.later hb1)) | (go_at_call 46; clear tok2; go_must (refine (rmul_any _ _ n2 d1 _ (hz3.later (by repeat (first | with_reducible exact Later.refl _ | with_reducible assumption | with_reducible refine Later.ofdrew ?_ | with_reducible refine Later.ofdrewN ?_ | with_reducible refine Later.setCell ?_ ?_ _ | with_reducible refine Later.alloc ?_ _ | with_reducible refine Later.drewN ?_ _ | with_reducible refine Later.drew ?_ | (with_reducible refine Later.trans ?_ (by assumption)) | (simp only [World.size_setCell, World.size_alloc, World.heap_drewN]; omega) | (simp; done) | (simp; omega)))) (hz2.later (by repeat (first | with_reducible exact Later.refl _ | with_reducible assumption | with_reducible refine Later.ofdrew ?_ | with_reducible refine Later.ofdrewN ?_ | with_reducible refine Later.setCell ?_ ?_ _ | with_reducible refine Later.alloc ?_ _ | with_reducible refine Later.drewN ?_ _ | with_reducible refine Later.drew ?_ | (with_reducible refine Later.trans ?_ (by assumption)) | (simp only [World.size_setCell, World.size_alloc, World.heap_drewN]; omega) | (simp; done) | (simp; omega)))) (by omega) (by omega)).mono ?_; rintro e w2 ⟨r2, rfl, hr2, hb2⟩; have hc2 := hb1.trans hb2; clear c1 z1 c2 z2 c3 z3 f3; obtain ⟨⟨z1, c1, -⟩, ⟨z2, c2, -⟩, ⟨z3, c3, f3⟩, -⟩ := hO.later hc2)) | (go_at_call 44; go_must (refine (radd_any _ _ (n1 * d2) (n2 * d1) _ (hr1.later (by repeat (first | with_reducible exact Later.refl _ | with_reducible assumption | with_reducible refine Later.ofdrew ?_ | with_reducible refine Later.ofdrewN ?_ | with_reducible refine Later.setCell ?_ ?_ _ | with_reducible refine Later.alloc ?_ _ | with_reducible refine Later.drewN ?_ _ | with_reducible refine Later.drew ?_ | (with_reducible refine Later.trans ?_ (by assumption)) | (simp only [World.size_setCell, World.size_alloc, World.heap_drewN]; omega) | (simp; done) | (simp; omega)))) (hr2.later (by repeat (first | with_reducible exact Later.refl _ | with_reducible assumption | with_reducible refine Later.ofdrew ?_ | with_reducible refine Later.ofdrewN ?_ | with_reducible refine Later.setCell ?_ ?_ _ | with_reducible refine Later.alloc ?_ _ | with_reducible refine Later.drewN ?_ _ | with_reducible refine Later.drew ?_ | (with_reducible refine Later.trans ?_ (by assumption)) | (simp only [World.size_setCell, World.size_alloc, World.heap_drewN]; omega) | (simp; done) | (simp; omega)))) (by omega) (by omega)).mono ?_; rintro e w3 ⟨r3, rfl, hr3, hb3⟩; have hc3 := hc2.trans hb3; rw [HM.out] at hr3; obtain ⟨p3, k3, er3, hr4⟩ := hr3.open; subst er3; clear c1 z1 c2 z2 c3 z3 f3; obtain ⟨⟨z1, c1, -⟩, ⟨z2, c2, -⟩, ⟨z3, c3, f3⟩, -⟩ := hO.later hc3)) | (go_at_call 46; go_must (refine (rmul_any _ _ d1 d2 _ (hz2.later (by repeat (first | with_reducible exact Later.refl _ | with_reducible assumption | with_reducible refine Later.ofdrew ?_ | with_reducible refine Later.ofdrewN ?_ | with_reducible refine Later.setCell ?_ ?_ _ | with_reducible refine Later.alloc ?_ _ | with_reducible refine Later.drewN ?_ _ | with_reducible refine Later.drew ?_ | (with_reducible refine Later.trans ?_ (by assumption)) | (simp only [World.size_setCell, World.size_alloc, World.heap_drewN]; omega) | (simp; done) | (simp; omega)))) (hz4.later (by repeat (first | with_reducible exact Later.refl _ | with_reducible assumption | with_reducible refine Later.ofdrew ?_ | with_reducible refine Later.ofdrewN ?_ | with_reducible refine Later.setCell ?_ ?_ _ | with_reducible refine Later.alloc ?_ _ | with_reducible refine Later.drewN ?_ _ | with_reducible refine Later.drew ?_ | (with_reducible refine Later.trans ?_ (by assumption)) | (simp only [World.size_setCell, World.size_alloc, World.heap_drewN]; omega) | (simp; done) | (simp; omega)))) (by omega) (by omega)).mono ?_; rintro e w4 ⟨r5, rfl, hr5, hb4⟩; rw [HK.out] at hr5; obtain ⟨p5, k5, er5, hr6⟩ := hr5.open; subst er5; clear c1 z1 c2 z2 c3 z3 f3; obtain ⟨⟨z1, c1, -⟩, ⟨z2, c2, -⟩, ⟨z3, c3, f3⟩, -⟩ := hO.later (hc3.trans hb4)))); first | refine behind_store (t := 17) (by decide) ?_ | refine behind (by repeat (first | with_reducible exact Later.refl _ | with_reducible assumption | with_reducible refine Later.ofdrew ?_ | with_reducible refine Later.ofdrewN ?_ | with_reducible refine Later.alloc ?_ _ | with_reducible refine Later.drewN ?_ _ | with_reducible refine Later.drew ?_ | (with_reducible refine Later.trans ?_ (by assumption)))) ?_))
  go_wp2
  obtain ⟨W, hW, e0, e1, e2, e3, hm1, hm2⟩ := q_end (s1 := decide (m < 0)) (s2 := decide (k < 0)) c3 (hr4.later hb4) hr6
  have hLW := put4 (k := w.heap.size + 1 + 1) (a := .bool (decide (m < 0))) (b := .slice p3 (nlen m.natAbs) k3) (c := .bool (decide (k < 0))) (d := .slice p5 (nlen k.natAbs) k5) ((hw0.trans hc3).trans hb4) (by omega)
  rw [hW] at hLW ⊢
  exact bodyPost_ret (v := .agg #[.bool (decide (m < 0)), .slice p3 (nlen m.natAbs) k3, .bool (decide (k < 0)), .slice p5 (nlen k.natAbs) k5]) (by simp [results, Try.results25, go_sem, e0, e1, e2, e3]) rfl ⟨_, rfl, isQ_mk hm1 hm2, hLW⟩

set_option maxHeartbeats 1600000 in
theorem qorder_any (x y : Value) (n1 d1 n2 d2 : Int) (w : World) (h : IsQ w x n1 d1) (g : IsQ w y n2 d2) (b1 : nlen n1.natAbs ≤ 20000) (b2 : nlen d1.natAbs ≤ 20000) (b3 : nlen n2.natAbs ≤ 20000) (b4 : nlen d2.natAbs ≤ 20000) :
    Calls Try.prog 22 #[x, y] w fun e w' => e = .returned (.int .i64 (cmpZ (n1 * d2) (n2 * d1))) ∧ Later w w' := by
  obtain ⟨p, c, q, e, rfl, hz1, hz2⟩ := h.open
  obtain ⟨p', c', q', e', rfl, hz3, hz4⟩ := g.open
  clear h g
  have hs1 := nlen_imul n1 d2
  have hs2 := nlen_imul n2 d1
  obtain ⟨m, hm⟩ : ∃ m, cmpZ (n1 * d2) (n2 * d1) = m := ⟨_, rfl⟩
  rw [hm]
  have HM := Lib.hid hm
  clear hm
  go_enter Try.func22, Try.ntmps22
  go_upto_region 1 with fail
  refine wp_opaque (fun w0 hb0 => ?_)
  have hO := Own.two hb0
  have hw0 : Later w w0 := hb0.un1.un1
  obtain ⟨⟨z1, c1, -⟩, ⟨z2, c2, -⟩, -⟩ := id hO
  replace hz1 := hz1.later hw0
  replace hz2 := hz2.later hw0
  replace hz3 := hz3.later hw0
  replace hz4 := hz4.later hw0
  have tok1 : True := trivial
  refine wp_region_plan 12 (.one [0, 1, 2, 3, 5, 6, 7, 8] 4 (.one [] 9 (.one [] 10 (.done [11])))) (by kernel_rfl) (by kernel_rfl) (fun _ _ d _ _ h => by cases d <;> exact h) ?_
  repeat' (first
    | (refine plan_done (fun K hK => ?_); (first | (simp only [pick_cons, pick_nil, toList_some_append, List.getElem?_toArray, List.getElem?_cons_zero, List.getElem?_cons_succ]; repeat (go_big_quiet_step (fail))) | simp only [pick_nil]); refine wpQuiet_nil (hK _ ?_); clear hK K)
    | (refine plan_one (by rfl) (fun K hK => ?_); (first | (simp only [pick_cons, pick_nil, toList_some_append, List.getElem?_toArray, List.getElem?_cons_zero, List.getElem?_cons_succ]; repeat (go_big_quiet_step (fail))) | simp only [pick_nil]); refine wpQuiet_nil (hK _ ?_); clear hK K)
    | ((with_reducible refine at_list ?_); go_wp2_with (first | (go_at_call 46; clear tok1; go_must (refine (rmul_any _ _ n1 d2 _ (hz1.later (by repeat (first | with_reducible exact Later.refl _ | with_reducible assumption | with_reducible refine Later.ofdrew ?_ | with_reducible refine Later.ofdrewN ?_ | with_reducible refine Later.setCell ?_ ?_ _ | with_reducible refine Later.alloc ?_ _ | with_reducible refine Later.drewN ?_ _ | with_reducible refine Later.drew ?_ | (with_reducible refine Later.trans ?_ (by assumption)) | (simp only [World.size_setCell, World.size_alloc, World.heap_drewN]; omega) | (simp; done) | (simp; omega)))) (hz4.later (by repeat (first | with_reducible exact Later.refl _ | with_reducible assumption | with_reducible refine Later.ofdrew ?_ | with_reducible refine Later.ofdrewN ?_ | with_reducible refine Later.setCell ?_ ?_ _ | with_reducible refine Later.alloc ?_ _ | with_reducible refine Later.drewN ?_ _ | with_reducible refine Later.drew ?_ | (with_reducible refine Later.trans ?_ (by assumption)) | (simp only [World.size_setCell, World.size_alloc, World.heap_drewN]; omega) | (simp; done) | (simp; omega)))) (by omega) (by omega)).mono ?_; rintro e w1 ⟨r1, rfl, hr1, hb1⟩; replace hb1 := Later.undrew hb1; clear c1 z1 c2 z2; obtain ⟨⟨z1, c1, -⟩, ⟨z2, c2, -⟩, -⟩ := hO.later hb1)) | (go_at_call 46; go_must (refine (rmul_any _ _ n2 d1 _ (hz3.later (by repeat (first | with_reducible exact Later.refl _ | with_reducible assumption | with_reducible refine Later.ofdrew ?_ | with_reducible refine Later.ofdrewN ?_ | with_reducible refine Later.setCell ?_ ?_ _ | with_reducible refine Later.alloc ?_ _ | with_reducible refine Later.drewN ?_ _ | with_reducible refine Later.drew ?_ | (with_reducible refine Later.trans ?_ (by assumption)) | (simp only [World.size_setCell, World.size_alloc, World.heap_drewN]; omega) | (simp; done) | (simp; omega)))) (hz2.later (by repeat (first | with_reducible exact Later.refl _ | with_reducible assumption | with_reducible refine Later.ofdrew ?_ | with_reducible refine Later.ofdrewN ?_ | with_reducible refine Later.setCell ?_ ?_ _ | with_reducible refine Later.alloc ?_ _ | with_reducible refine Later.drewN ?_ _ | with_reducible refine Later.drew ?_ | (with_reducible refine Later.trans ?_ (by assumption)) | (simp only [World.size_setCell, World.size_alloc, World.heap_drewN]; omega) | (simp; done) | (simp; omega)))) (by omega) (by omega)).mono ?_; rintro e w2 ⟨r2, rfl, hr2, hb2⟩; have hc2 := hb1.trans hb2)) | (go_at_call 45; go_must (refine (rorder_any _ _ (n1 * d2) (n2 * d1) _ (hr1.later (by repeat (first | with_reducible exact Later.refl _ | with_reducible assumption | with_reducible refine Later.ofdrew ?_ | with_reducible refine Later.ofdrewN ?_ | with_reducible refine Later.setCell ?_ ?_ _ | with_reducible refine Later.alloc ?_ _ | with_reducible refine Later.drewN ?_ _ | with_reducible refine Later.drew ?_ | (with_reducible refine Later.trans ?_ (by assumption)) | (simp only [World.size_setCell, World.size_alloc, World.heap_drewN]; omega) | (simp; done) | (simp; omega)))) (hr2.later (by repeat (first | with_reducible exact Later.refl _ | with_reducible assumption | with_reducible refine Later.ofdrew ?_ | with_reducible refine Later.ofdrewN ?_ | with_reducible refine Later.setCell ?_ ?_ _ | with_reducible refine Later.alloc ?_ _ | with_reducible refine Later.drewN ?_ _ | with_reducible refine Later.drew ?_ | (with_reducible refine Later.trans ?_ (by assumption)) | (simp only [World.size_setCell, World.size_alloc, World.heap_drewN]; omega) | (simp; done) | (simp; omega)))) (by omega) (by omega)).mono ?_; rintro e w3 ⟨rfl, hb3⟩; have hc3 := hc2.trans hb3; rw [HM.out]))); first | refine behind_store (t := 12) (by decide) ?_ | refine behind (by repeat (first | with_reducible exact Later.refl _ | with_reducible assumption | with_reducible refine Later.ofdrew ?_ | with_reducible refine Later.ofdrewN ?_ | with_reducible refine Later.alloc ?_ _ | with_reducible refine Later.drewN ?_ _ | with_reducible refine Later.drew ?_ | (with_reducible refine Later.trans ?_ (by assumption)))) ?_))
  go_wp2
  go_ret
  exact ⟨rfl, hw0.trans hc3⟩
end Go.Proofs.Ytnnjjaknkiklpaa
