/- walks: chattelref02: Of, Neg, Mul, Add, Turn, Order -/
import Derived.Test.YtckeaibamgkegaaDoorRefL
import Derived.Deep.LoopGhost
set_option linter.all false
namespace Go.Proofs.YtckeaibamgkegaaDoor
open Go.RowKit
set_option maxRecDepth 100000

/-- A number through another one. -/
def IsQ (w : World) (x : Value) (n d : Int) : Prop := ∃ u v, x = .agg #[.bool (decide (n < 0)), u, .bool (decide (d < 0)), v] ∧ Num w u n.natAbs ∧ Num w v d.natAbs
theorem IsQ.later {w w' : World} {x : Value} {n d : Int} (h : IsQ w x n d) (hb : Later w w') : IsQ w' x n d := by
  obtain ⟨a, b, h1, h2, h3⟩ := h; exact ⟨a, b, h1, h2.later hb, h3.later hb⟩
theorem IsQ.open {w : World} {x : Value} {n d : Int} (h : IsQ w x n d) : ∃ p c q e, x = .agg #[.bool (decide (n < 0)), .slice p (nlen n.natAbs) c, .bool (decide (d < 0)), .slice q (nlen d.natAbs) e] ∧
    IsZ w (.agg #[.bool (decide (n < 0)), .slice p (nlen n.natAbs) c]) n ∧ IsZ w (.agg #[.bool (decide (d < 0)), .slice q (nlen d.natAbs) e]) d := by
  obtain ⟨a, b, rfl, h2, h3⟩ := h
  obtain ⟨p, c, rfl⟩ := Row.form h2
  obtain ⟨q, e, rfl⟩ := Row.form h3
  exact ⟨p, c, q, e, rfl, ⟨_, rfl, h2⟩, ⟨_, rfl, h3⟩⟩
theorem IsZ.num {w : World} {s : Bool} {v : Value} {z : Int} (h : IsZ w (.agg #[.bool s, v]) z) : Num w v z.natAbs := by
  obtain ⟨u, h1, h2⟩ := h
  cases h1; exact h2
theorem q_end {w : World} {k n1 n2 : Nat} {v1 v2 y1 y2 : Value} {s1 s2 t1 t2 : Bool} (hc : ∀ i, w.cell? ⟨k, i, none⟩ = #[.bool t1, y1, .bool t2, y2][i]?) (h1 : Num w v1 n1) (h2 : Num w v2 n2) :
    ∃ W : World, ((((w.setCell ⟨k, 0, none⟩ (.bool s1)).setCell ⟨k, 1, none⟩ v1).setCell ⟨k, 2, none⟩ (.bool s2)).setCell ⟨k, 3, none⟩ v2) = W ∧
      W.cell? ⟨k, 0, none⟩ = some (.bool s1) ∧ W.cell? ⟨k, 1, none⟩ = some v1 ∧ W.cell? ⟨k, 2, none⟩ = some (.bool s2) ∧ W.cell? ⟨k, 3, none⟩ = some v2 ∧ Num W v1 n1 ∧ Num W v2 n2 := by
  have e1 := set_own (k := 0) hc (.bool s1) (by simp)
  have e2 := set_own (k := 1) e1 v1 (by simp)
  have e3 := set_own (k := 2) e2 (.bool s2) (by simp)
  have e4 := set_own (k := 3) e3 v2 (by simp)
  have hn : ∀ {v : Value} {n : Nat}, Num w v n → Num ((((w.setCell ⟨k, 0, none⟩ (.bool s1)).setCell ⟨k, 1, none⟩ v1).setCell ⟨k, 2, none⟩ (.bool s2)).setCell ⟨k, 3, none⟩ v2) v n := fun h =>
    ((((h : Row _ _ _ _).set (t := t1) (by rw [hc]; rfl)).set (t := s1) (by rw [e1]; rfl)).set (t := s1) (by rw [e2]; rfl)).set (t := s1) (by rw [e3]; rfl)
  exact ⟨_, rfl, by rw [e4]; rfl, by rw [e4]; rfl, by rw [e4]; rfl, by rw [e4]; rfl, hn h1, hn h2⟩
theorem isQ_mk {w : World} {n d : Int} {v1 v2 : Value} (h1 : Num w v1 n.natAbs) (h2 : Num w v2 d.natAbs) : IsQ w (.agg #[.bool (decide (n < 0)), v1, .bool (decide (d < 0)), v2]) n d :=
  ⟨_, _, rfl, h1, h2⟩
theorem put4 {w w1 : World} {k : Nat} {a b c d : Value} (h : Later w w1) (hk : w.heap.size ≤ k) : Later w ((((w1.setCell ⟨k, 0, none⟩ a).setCell ⟨k, 1, none⟩ b).setCell ⟨k, 2, none⟩ c).setCell ⟨k, 3, none⟩ d) :=
  (((h.putCell hk _).putCell hk _).putCell hk _).putCell hk _

set_option maxHeartbeats 800000 in
theorem qof_any (n d : Int) (w : World) (hn1 : -9223372036854775808 ≤ n) (hn2 : n ≤ 9223372036854775807) (hd1 : -9223372036854775808 ≤ d) (hd2 : d ≤ 9223372036854775807) :
    Calls Tryd.prog 32 #[.agg #[.int .i64 n, .int .i64 d]] w fun e w' => ∃ r, e = .returned r ∧ IsQ w' r n d ∧ Later w w' := by
  go_enter Tryd.func32, Tryd.ntmps32
  go_upto_region 1 with fail
  refine wp_opaque (fun w0 hb0 => ?_)
  have hO := Own.two hb0
  have hw0 : Later w w0 := hb0.un1.un1
  obtain ⟨⟨z1, c1, -⟩, ⟨z2, c2, f2⟩, -⟩ := id hO
  refine wp_region_plan 7 (.one [0, 1, 3, 4] 2 (.one [] 5 (.one [6] 7 (.done [])))) (by kernel_rfl) (by kernel_rfl) (fun _ _ d _ _ h => by cases d <;> exact h) ?_
  repeat' (first
    | (refine plan_done (fun K hK => ?_); (first | (simp only [pick_cons, pick_nil, toList_some_append, List.getElem?_toArray, List.getElem?_cons_zero, List.getElem?_cons_succ]; repeat (go_big_quiet_step (fail))) | simp only [pick_nil]); refine wpQuiet_nil (hK _ ?_); clear hK K)
    | (refine plan_one (by rfl) (fun K hK => ?_); (first | (simp only [pick_cons, pick_nil, toList_some_append, List.getElem?_toArray, List.getElem?_cons_zero, List.getElem?_cons_succ]; repeat (go_big_quiet_step (fail))) | simp only [pick_nil]); refine wpQuiet_nil (hK _ ?_); clear hK K)
    | ((with_reducible refine at_list ?_); go_wp2_with (first | (go_at_call_of 56 (Value.int IntKind.i64 n); go_must (refine (rof_any n _ hn1 hn2).mono ?_; rintro e w1 ⟨r1, rfl, hr1, hb1⟩; replace hb1 := Later.undrew hb1; obtain ⟨p1, k1, er1, hr2⟩ := hr1.open; subst er1; clear c1 z1 c2 z2 f2; obtain ⟨⟨z1, c1, -⟩, ⟨z2, c2, f2⟩, -⟩ := hO.later hb1)) | (go_at_call_of 56 (Value.int IntKind.i64 d); go_must (refine (rof_any d _ hd1 hd2).mono ?_; rintro e w2 ⟨r3, rfl, hr3, hb2⟩; obtain ⟨p2, k2, er3, hr4⟩ := hr3.open; subst er3; clear c1 z1 c2 z2 f2; obtain ⟨⟨z1, c1, -⟩, ⟨z2, c2, f2⟩, -⟩ := hO.later (hb1.trans hb2)))); first | refine behind_store (t := 7) (by decide) ?_ | refine behind (by repeat (first | with_reducible exact Later.refl _ | with_reducible assumption | with_reducible refine Later.ofdrew ?_ | with_reducible refine Later.ofdrewN ?_ | with_reducible refine Later.alloc ?_ _ | with_reducible refine Later.drewN ?_ _ | with_reducible refine Later.drew ?_ | (with_reducible refine Later.trans ?_ (by assumption)))) ?_))
  go_wp2
  obtain ⟨W, hW, e0, e1, e2, e3, hm1, hm2⟩ := q_end (s1 := decide (n < 0)) (s2 := decide (d < 0)) c2 (hr2.later hb2) hr4
  have hLW := put4 (k := w.heap.size + 1) (a := .bool (decide (n < 0))) (b := .slice p1 (nlen n.natAbs) k1) (c := .bool (decide (d < 0))) (d := .slice p2 (nlen d.natAbs) k2) ((hw0.trans hb1).trans hb2) (by omega)
  rw [hW] at hLW ⊢
  exact bodyPost_ret (v := .agg #[.bool (decide (n < 0)), .slice p1 (nlen n.natAbs) k1, .bool (decide (d < 0)), .slice p2 (nlen d.natAbs) k2]) (by simp [results, Tryd.results32, go_sem, e0, e1, e2, e3]) rfl ⟨_, rfl, isQ_mk hm1 hm2, hLW⟩

theorem nlen_imul (a b : Int) : nlen (a * b).natAbs ≤ nlen a.natAbs + nlen b.natAbs := by rw [Int.natAbs_mul]; exact nlen_mul _ _

end Go.Proofs.YtckeaibamgkegaaDoor
