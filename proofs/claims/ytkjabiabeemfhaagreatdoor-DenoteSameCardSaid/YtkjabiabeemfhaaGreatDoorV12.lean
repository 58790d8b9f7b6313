/- walks: chattelref02: Ratio, Check -/
import Derived.Test.YtkjabiabeemfhaaGreatDoorV11
import Derived.Deep.LoopGhost
import Derived.Test.YtkjabiabeemfhaaGreatDoorV8
set_option linter.all false
set_option linter.all false
section
namespace Go.Proofs.YtkjabiabeemfhaaGreatDoor
open Go.RowKit
set_option maxRecDepth 100000
def IsQ (w : World) (x : Value) (n d : Int) : Prop := ∃ u v, x = .agg #[.bool (decide (n < 0)), u, .bool (decide (d < 0)), v] ∧ Num w u n.natAbs ∧ Num w v d.natAbs
theorem IsQ.open {w : World} {x : Value} {n d : Int} (h : IsQ w x n d) : ∃ p c q e, x = .agg #[.bool (decide (n < 0)), .slice p (nlen n.natAbs) c, .bool (decide (d < 0)), .slice q (nlen d.natAbs) e] ∧
    IsZ w (.agg #[.bool (decide (n < 0)), .slice p (nlen n.natAbs) c]) n ∧ IsZ w (.agg #[.bool (decide (d < 0)), .slice q (nlen d.natAbs) e]) d := by
  obtain ⟨a, b, rfl, h2, h3⟩ := h
  obtain ⟨p, c, rfl⟩ := Row.form h2
  obtain ⟨q, e, rfl⟩ := Row.form h3
  exact ⟨p, c, q, e, rfl, ⟨_, rfl, h2⟩, ⟨_, rfl, h3⟩⟩
theorem q_end {w : World} {k n1 n2 : Nat} {v1 v2 y1 y2 : Value} {s1 s2 t1 t2 : Bool} (hc : ∀ i, w.cell? ⟨k, i, none⟩ = #[.bool t1, y1, .bool t2, y2][i]?) (h1 : Num w v1 n1) (h2 : Num w v2 n2) :
    ∃ W : World, ((((w.setCell ⟨k, 0, none⟩ (.bool s1)).setCell ⟨k, 1, none⟩ v1).setCell ⟨k, 2, none⟩ (.bool s2)).setCell ⟨k, 3, none⟩ v2) = W ∧
      W.cell? ⟨k, 0, none⟩ = some (.bool s1) ∧ W.cell? ⟨k, 1, none⟩ = some v1 ∧ W.cell? ⟨k, 2, none⟩ = some (.bool s2) ∧ W.cell? ⟨k, 3, none⟩ = some v2 ∧ Num W v1 n1 ∧ Num W v2 n2 := by
  have e1 := set_own (k := 0) hc (.bool s1) (by simp)
  have e2 := set_own (k := 1) e1 v1 (by simp)
  have e3 := set_own (k := 2) e2 (.bool s2) (by simp)
  have e4 := set_own (k := 3) e3 v2 (by simp)
  have hn : ∀ {v : Value} {n : Nat}, Num w v n → Num ((((w.setCell ⟨k, 0, none⟩ (.bool s1)).setCell ⟨k, 1, none⟩ v1).setCell ⟨k, 2, none⟩ (.bool s2)).setCell ⟨k, 3, none⟩ v2) v n := fun h =>
    ((((h : Row _ _ _ _).set (t := t1) (by rw [hc]; rfl)).set (t := s1) (by rw [e1]; rfl)).set (t := s1) (by rw [e2]; rfl)).set (t := s1) (by rw [e3]; rfl)
  exact ⟨_, rfl, by rw [e4]; rfl, by rw [e4]; rfl, by rw [e4]; rfl, by rw [e4]; rfl, hn h1, hn h2⟩
theorem isQ_mk {w : World} {n d : Int} {v1 v2 : Value} (h1 : Num w v1 n.natAbs) (h2 : Num w v2 d.natAbs) : IsQ w (.agg #[.bool (decide (n < 0)), v1, .bool (decide (d < 0)), v2]) n d :=
  ⟨_, _, rfl, h1, h2⟩
theorem put4 {w w1 : World} {k : Nat} {a b c d : Value} (h : Later w w1) (hk : w.heap.size ≤ k) : Later w ((((w1.setCell ⟨k, 0, none⟩ a).setCell ⟨k, 1, none⟩ b).setCell ⟨k, 2, none⟩ c).setCell ⟨k, 3, none⟩ d) :=
  (((h.putCell hk _).putCell hk _).putCell hk _).putCell hk _
set_option maxHeartbeats 800000 in
theorem qof_any (n d : Int) (w : World) (hn1 : -9223372036854775808 ≤ n) (hn2 : n ≤ 9223372036854775807) (hd1 : -9223372036854775808 ≤ d) (hd2 : d ≤ 9223372036854775807) :
    Calls Tryz.prog 66 #[.agg #[.int .i64 n, .int .i64 d]] w fun e w' => ∃ r, e = .returned r ∧ IsQ w' r n d ∧ Later w w' := by
  go_enter Tryz.func66, Tryz.ntmps66
  go_upto_region 1 with fail
  refine wp_opaque (fun w0 hb0 => ?_)
  have hO := Own.two hb0
  have hw0 : Later w w0 := hb0.un1.un1
  obtain ⟨⟨z1, c1, -⟩, ⟨z2, c2, f2⟩, -⟩ := id hO
  refine wp_region_plan 7 (.one [0, 1, 3, 4] 2 (.one [] 5 (.one [6] 7 (.done [])))) (by kernel_rfl) (by kernel_rfl) (fun _ _ d _ _ h => by cases d <;> exact h) ?_
  repeat' (first
    | (refine plan_done (fun K hK => ?_); (first | (simp only [pick_cons, pick_nil, toList_some_append, List.getElem?_toArray, List.getElem?_cons_zero, List.getElem?_cons_succ]; repeat (go_big_quiet_step (fail))) | simp only [pick_nil]); refine wpQuiet_nil (hK _ ?_); clear hK K)
    | (refine plan_one (by rfl) (fun K hK => ?_); (first | (simp only [pick_cons, pick_nil, toList_some_append, List.getElem?_toArray, List.getElem?_cons_zero, List.getElem?_cons_succ]; repeat (go_big_quiet_step (fail))) | simp only [pick_nil]); refine wpQuiet_nil (hK _ ?_); clear hK K)
    | ((with_reducible refine at_list ?_); go_wp2_with (first | (go_at_call_of 61 (Value.int IntKind.i64 n); go_must (refine (rof_any n _ hn1 hn2).mono ?_; rintro e w1 ⟨r1, rfl, hr1, hb1⟩; replace hb1 := Later.undrew hb1; obtain ⟨p1, k1, er1, hr2⟩ := hr1.open; subst er1; clear c1 z1 c2 z2 f2; obtain ⟨⟨z1, c1, -⟩, ⟨z2, c2, f2⟩, -⟩ := hO.later hb1)) | (go_at_call_of 61 (Value.int IntKind.i64 d); go_must (refine (rof_any d _ hd1 hd2).mono ?_; rintro e w2 ⟨r3, rfl, hr3, hb2⟩; obtain ⟨p2, k2, er3, hr4⟩ := hr3.open; subst er3; clear c1 z1 c2 z2 f2; obtain ⟨⟨z1, c1, -⟩, ⟨z2, c2, f2⟩, -⟩ := hO.later (hb1.trans hb2)))); first | refine behind_store (t := 7) (by decide) ?_ | refine behind (by repeat (first | with_reducible exact Later.refl _ | with_reducible assumption | with_reducible refine Later.ofdrew ?_ | with_reducible refine Later.ofdrewN ?_ | with_reducible refine Later.alloc ?_ _ | with_reducible refine Later.drewN ?_ _ | with_reducible refine Later.drew ?_ | (with_reducible refine Later.trans ?_ (by assumption)))) ?_))
  go_wp2
  obtain ⟨W, hW, e0, e1, e2, e3, hm1, hm2⟩ := q_end (s1 := decide (n < 0)) (s2 := decide (d < 0)) c2 (hr2.later hb2) hr4
  have hLW := put4 (k := w.heap.size + 1) (a := .bool (decide (n < 0))) (b := .slice p1 (nlen n.natAbs) k1) (c := .bool (decide (d < 0))) (d := .slice p2 (nlen d.natAbs) k2) ((hw0.trans hb1).trans hb2) (by omega)
  rw [hW] at hLW ⊢
  exact bodyPost_ret (v := .agg #[.bool (decide (n < 0)), .slice p1 (nlen n.natAbs) k1, .bool (decide (d < 0)), .slice p2 (nlen d.natAbs) k2]) (by simp [results, Tryz.results66, go_sem, e0, e1, e2, e3]) rfl ⟨_, rfl, isQ_mk hm1 hm2, hLW⟩
end Go.Proofs.YtkjabiabeemfhaaGreatDoor
end
section
namespace Go.Proofs.YtkjabiabeemfhaaGreatDoor
open Go.RowKit
set_option maxRecDepth 100000
set_option maxHeartbeats 1600000 in
theorem qcommon_any (x y : Value) (s t : Bool) (a b : Nat) (w : World) (h : IsBig w x s a) (g : IsBig w y t b) (hL : nlen a ≤ 30000) (hM : nlen b ≤ 30000) :
    Calls Tryz.prog 108 #[x, y] w fun e w' => ∃ r, e = .returned r ∧ IsBig w' r false (Nat.gcd a b) ∧ Later w w' := by
  obtain ⟨p, cp, rfl, hv⟩ := h.open
  obtain ⟨q, cq, rfl, hu⟩ := g.open
  clear h g
  go_enter Tryz.func108, Tryz.ntmps108
  go_wp2
  refine wp_opaque (fun w0 hb0 => ?_)
  have hO := Own.three hb0
  have hw0 : Later w w0 := hb0.un1.un1.un1
  replace hv := hv.later hw0
  replace hu := hu.later hw0
  clear hb0
  go_loopg [5, 6] b (fun k s5 s6 wr => ∃ va vb a', Own wr [(w.heap.size, #[.bool false, va])] ∧ Own wr [(w.heap.size + 1, #[.bool false, vb])] ∧ Own wr [(w.heap.size + 1 + 1, #[.bool false, .slice none 0 0])] ∧
    Num wr va a' ∧ Num wr vb k ∧ Nat.gcd a' k = Nat.gcd a b ∧ nlen a' ≤ 30000 ∧ nlen k ≤ 30000 ∧ Later w wr)
  case atStart => exact ⟨_, _, a, ⟨hO.1, trivial⟩, ⟨hO.2.1, trivial⟩, ⟨hO.2.2.1, trivial⟩, hv, hu, rfl, hL, hM, hw0⟩
  case round =>
    obtain ⟨va, vb, a', O0, O1, O2, hva, hvb, hgcd, hLa, hLk, hlat⟩ := hrel
    obtain ⟨pa, ka, rfl⟩ := Row.form hva
    obtain ⟨pb, kb, rfl⟩ := Row.form hvb
    obtain ⟨z0, c0, f0⟩ := own_get O0
    obtain ⟨z1, c1, f1⟩ := own_get O1
    have HG := Lib.hid hgcd
    clear hgcd hv hu hO hw0
    by_cases hk : gk = 0
    · subst hk
      have hz : nlen 0 = 0 := rfl
      rw [hz] at c1
      have hga : a' = Nat.gcd a b := by rw [← HG.out, Nat.gcd_zero_right]
      subst hga
      obtain ⟨z2, c2, f2⟩ := own_get O2
      clear hz O0 O1 O2 hvb
      have HVA := Lib.hid hva
      clear hva
      go_wp2
      obtain ⟨e0, e1, hI⟩ := big_end (s := false) c2 HVA.out
      exact bodyPost_ret (v := .agg #[.bool false, .slice pa (nlen (Nat.gcd a b)) ka]) (by simp [results, Tryz.results108, go_sem, e0, e1]) rfl ⟨_, rfl, hI, (hlat.putCell (by omega) _).putCell (by omega) _⟩
    · have hp : 0 < nlen gk := nlen_pos.2 (by omega)
      have hmod : a' % gk < gk := Nat.mod_lt _ (by omega)
      have hml := nlen_mono (Nat.le_of_lt hmod)
      go_upto_region 5 with (go_at_call 101; go_must (refine (rparts_any _ _ false false a' gk _ ⟨_, rfl, hva⟩ ⟨_, rfl, hvb⟩ (by omega) (by omega) (by omega)).mono ?_; rintro e w1 ⟨qv, rv, rfl, hq, hr, hb1⟩; obtain ⟨pq, kq, eq1, hq1⟩ := hq.open; obtain ⟨pr, kr, er1, hr1⟩ := hr.open; subst eq1; subst er1))
      refine wp_opaque (fun w2 hb2 => ?_)
      have hO2 := Own.two hb2
      have hb3 : Later wr w2 := hb1.trans hb2.un1.un1
      replace hr1 := hr1.later hb2.un1.un1
      replace hvb := hvb.later hb3
      have hsz := Later.size hb1
      obtain ⟨-, ⟨z6, c6, -⟩, -⟩ := id hO2
      have hsz0 := Later.size hlat
      replace O0 := O0.later hb3
      replace O1 := O1.later hb3
      replace O2 := O2.later hb3
      clear c0 c1 f0 f1 z0 z1 hb2 hO2 hq hr hva hq1
      obtain ⟨z0, c0, f0⟩ := own_get O0
      obtain ⟨z1, c1, f1⟩ := own_get O1
      have hrel3 : ∀ (x0 x1 : Value), Own ((((w2.setCell ⟨w.heap.size, 0, none⟩ (.bool false)).setCell ⟨w.heap.size, 1, none⟩ x0).setCell ⟨w.heap.size + 1, 0, none⟩ (.bool false)).setCell ⟨w.heap.size + 1, 1, none⟩ x1) [(w.heap.size, #[.bool false, x0])] ∧
          Own ((((w2.setCell ⟨w.heap.size, 0, none⟩ (.bool false)).setCell ⟨w.heap.size, 1, none⟩ x0).setCell ⟨w.heap.size + 1, 0, none⟩ (.bool false)).setCell ⟨w.heap.size + 1, 1, none⟩ x1) [(w.heap.size + 1, #[.bool false, x1])] ∧
          Own ((((w2.setCell ⟨w.heap.size, 0, none⟩ (.bool false)).setCell ⟨w.heap.size, 1, none⟩ x0).setCell ⟨w.heap.size + 1, 0, none⟩ (.bool false)).setCell ⟨w.heap.size + 1, 1, none⟩ x1) [(w.heap.size + 1 + 1, #[.bool false, .slice none 0 0])] := by
        intro x0 x1
        refine ⟨((own_set2 O0).set_far ?_).set_far ?_, own_set2 ((O1.set_far ?_).set_far ?_), (((O2.set_far ?_).set_far ?_).set_far ?_).set_far ?_⟩ <;> (intro z hz; simp only [List.mem_cons, List.not_mem_nil, or_false] at hz; subst hz; first | (simp; done) | (simp; omega))
      have H3 := Lib.hid hrel3
      clear hrel3 O0 O1 O2
      have HR1 := Lib.hid hr1
      have HVB := Lib.hid hvb
      clear hr1 hvb
      go_wp2
      go_roundg (a' % gk)
      case measure => exact hmod
      case rel =>
        obtain ⟨n0, n1, n2⟩ := H3.out (.slice pb (nlen gk) kb) (.slice pr (nlen (a' % gk)) kr)
        have hc1 : ∀ i, ((w2.setCell ⟨w.heap.size, 0, none⟩ (.bool false)).setCell ⟨w.heap.size, 1, none⟩ (.slice pb (nlen gk) kb)).cell? ⟨w.heap.size + 1, i, none⟩ = #[Value.bool false, .slice pb (nlen gk) kb][i]? := set_far (set_far c1 _ (by omega)) _ (by omega)
        refine ⟨_, _, gk, n0, n1, n2, (HVB.out.set2 c0).set2 hc1, (HR1.out.set2 c0).set2 hc1, ?_, hLk, by omega, ?_⟩
        · rw [← HG.out, Nat.gcd_comm a' gk, Nat.gcd_rec gk a', Nat.gcd_comm]
        · exact ((((hlat.trans hb3).putCell (by omega) _).putCell (by omega) _).putCell (by omega) _).putCell (by omega) _
end Go.Proofs.YtkjabiabeemfhaaGreatDoor
end
section
namespace Go.Proofs.YtkjabiabeemfhaaGreatDoor
open Go.RowKit
set_option maxRecDepth 100000
theorem fitsF (n : Nat) : fitsB false n = decide (n ≤ 9223372036854775807) := by simp [fitsB]
theorem intF {n : Nat} (h : n ≤ 9223372036854775807) : intV false n = n := by simp [intV, fitsF, h]
theorem intF0 {n : Nat} (h : ¬ n ≤ 9223372036854775807) : intV false n = 0 := by simp [intV, fitsF, h]
theorem red_ref (n d : Int) (hd : d ≠ 0) : redD n d = ((d.natAbs / Nat.gcd n.natAbs d.natAbs : Nat) : Int) ∧
    redN n d = (if (decide (n < 0)) = (decide (d < 0)) then ((n.natAbs / Nat.gcd n.natAbs d.natAbs : Nat) : Int) else -((n.natAbs / Nat.gcd n.natAbs d.natAbs : Nat) : Int)) := by
  have hg : gcdI n d = ((Nat.gcd n.natAbs d.natAbs : Nat) : Int) := rfl
  have hp : 0 < Nat.gcd n.natAbs d.natAbs := Nat.gcd_pos_of_pos_right _ (by omega)
  have hdv : Nat.gcd n.natAbs d.natAbs ∣ n.natAbs := Nat.gcd_dvd_left _ _
  unfold redN redD
  rw [hg]
  generalize Nat.gcd n.natAbs d.natAbs = g at *
  refine ⟨by simp, ?_⟩
  obtain ⟨k, hk⟩ := hdv
  rw [hk, Nat.mul_div_cancel_left k hp]
  have hg0 : ((g : Nat) : Int) ≠ 0 := by omega
  have hn : n = ((g * k : Nat) : Int) ∨ n = -((g * k : Nat) : Int) := by omega
  have e1 : ((g * k : Nat) : Int) / (g : Int) = k := by rw [Int.natCast_mul, Int.mul_ediv_cancel_left _ hg0]
  have e2 : (-((g * k : Nat) : Int)) / (g : Int) = -(k : Int) := by rw [Int.natCast_mul, ← Int.mul_neg, Int.mul_ediv_cancel_left _ hg0]
  by_cases h1 : n < 0
  · have hn' : n = -((g * k : Nat) : Int) := by omega
    by_cases h2 : d < 0
    · rw [if_pos h2, if_pos (by simp [h1, h2]), hn', Int.neg_neg, e1]
    · rw [if_neg h2, if_neg (by simp [h1, h2]), hn', e2]
  · have hn' : n = ((g * k : Nat) : Int) := by omega
    by_cases h2 : d < 0
    · rw [if_pos h2, if_neg (by simp [h1, h2]), hn', e2]
    · rw [if_neg h2, if_pos (by simp [h1, h2]), hn', e1]
theorem rE_ref (n d : Int) (hd : d ≠ 0) : rE n d = if n.natAbs / Nat.gcd n.natAbs d.natAbs ≤ 9223372036854775807 ∧ d.natAbs / Nat.gcd n.natAbs d.natAbs ≤ 9223372036854775807 then 0 else 11 := by
  obtain ⟨h1, h2⟩ := red_ref n d hd
  unfold rE
  rw [if_neg hd, h1, h2]
  have e : (if (decide (n < 0)) = (decide (d < 0)) then ((n.natAbs / Nat.gcd n.natAbs d.natAbs : Nat) : Int) else -((n.natAbs / Nat.gcd n.natAbs d.natAbs : Nat) : Int)).natAbs = n.natAbs / Nat.gcd n.natAbs d.natAbs := by generalize n.natAbs / Nat.gcd n.natAbs d.natAbs = k; split <;> omega
  rw [e]
  congr 1
  rw [eq_iff_iff]
  omega
theorem ret_rat {a b c a' b' c' : Int} (h1 : a = a') (h2 : b = b') (h3 : c = c') : Ending.returned (.tuple #[.agg #[.int .i64 a, .int .i64 b], .int .i64 c]) = .returned (.tuple #[.agg #[.int .i64 a', .int .i64 b'], .int .i64 c']) := by rw [h1, h2, h3]
set_option maxHeartbeats 3200000 in
theorem qratio_any (x : Value) (n d : Int) (w : World) (h : IsQ w x n d) (b1 : nlen n.natAbs ≤ 30000) (b2 : nlen d.natAbs ≤ 30000) (hd : d ≠ 0) :
    Calls Tryz.prog 64 #[x] w fun e w' => e = .returned (.tuple #[.agg #[.int .i64 (rN n d), .int .i64 (rD n d)], .int .i64 (rE n d)]) ∧ Later w w' := by
  obtain ⟨p, c, q, e, rfl, hz1, hz2⟩ := h.open
  clear h
  have hgp : 0 < Nat.gcd n.natAbs d.natAbs := Nat.gcd_pos_of_pos_right _ (by omega)
  have hgl : nlen (Nat.gcd n.natAbs d.natAbs) ≤ 30000 := Nat.le_trans (nlen_mono (Nat.gcd_le_right _ (by omega))) b2
  have hE := rE_ref n d hd
  obtain ⟨hD, hN⟩ := red_ref n d hd
  have hND : rN n d = (if rE n d = 0 then redN n d else 0) ∧ rD n d = (if rE n d = 0 then redD n d else 0) := ⟨rfl, rfl⟩
  rw [hD, hN] at hND
  have hl1 := nlen_mono (Nat.div_le_self n.natAbs (Nat.gcd n.natAbs d.natAbs))
  have hl2 := nlen_mono (Nat.div_le_self d.natAbs (Nat.gcd n.natAbs d.natAbs))
  obtain ⟨N, hN'⟩ : ∃ N, n.natAbs / Nat.gcd n.natAbs d.natAbs = N := ⟨_, rfl⟩
  obtain ⟨D, hD'⟩ : ∃ D, d.natAbs / Nat.gcd n.natAbs d.natAbs = D := ⟨_, rfl⟩
  rw [hN', hD'] at hE hND
  replace hz1 : IsBig w _ (decide (n < 0)) n.natAbs := hz1
  replace hz2 : IsBig w _ (decide (d < 0)) d.natAbs := hz2
  generalize decide (n < 0) = s at *
  generalize decide (d < 0) = t at *
  rw [hN'] at hl1
  rw [hD'] at hl2
  have HX := Lib.hid (And.intro hN' hD')
  have HE := Lib.hid hE
  have HND := Lib.hid hND
  clear hN' hD' hE hND hN hD
  have hres : ∀ (r1 r2 r3 : Int) (W : World) (k : Nat), r1 = rN n d → r2 = rD n d → r3 = rE n d → True := fun _ _ _ _ _ _ _ _ => trivial
  clear hres
  obtain ⟨g, hg⟩ : ∃ g, Nat.gcd n.natAbs d.natAbs = g := ⟨_, rfl⟩
  rw [hg] at HX hgp hgl
  have HGc := Lib.hid hg
  clear hg
  go_enter Tryz.func64, Tryz.ntmps64
  go_upto_region 1 with fail
  refine wp_opaque (fun w0 hb0 => ?_)
  have hO := Own.two hb0
  have hw0 : Later w w0 := hb0.un1.un1
  replace hz1 := hz1.later hw0
  replace hz2 := hz2.later hw0
  have hs0 := Later.size hw0
  obtain ⟨⟨z1, c1, -⟩, -⟩ := id hO
  clear hb0
  go_upto_region 2 with (go_at_call 108; go_must (refine (qcommon_any _ _ _ _ _ _ _ hz1 hz2 b1 b2).mono ?_; rw [HGc.out]; rintro e w1 ⟨gv, rfl, hgv, hb1⟩; obtain ⟨pg, kg, eg, -⟩ := hgv.open; subst eg))
  refine wp_opaque (fun w2 hb2 => ?_)
  have h12 := hb2.un1
  have hO4 := Own.one hb2
  have h02 := hb1.trans h12
  have hs1 := Later.size hb1
  replace hO := hO.later h02
  replace hgv := hgv.later h12
  replace hz1 := hz1.later h02
  replace hz2 := hz2.later h02
  clear c1 z1 hb2
  obtain ⟨⟨z1, c1, -⟩, -⟩ := id hO
  obtain ⟨z4, c4, -⟩ := own_get hO4
  go_upto_region 3 with (go_at_call 101; go_must (refine (rparts_any _ _ _ _ _ g _ hz1 hgv (by omega) (by omega) hgp).mono ?_; rw [HX.out.1]; rintro e w3 ⟨q1, r1, rfl, hq1, hr1, hb3⟩; obtain ⟨pa, ka, ea, -⟩ := hq1.open; obtain ⟨pb, kb, eb, -⟩ := hr1.open; subst ea; subst eb))
  refine wp_opaque (fun w4 hb4 => ?_)
  have hO5 := Own.two hb4
  have h34 := hb4.un1.un1
  have h24 := hb3.trans h34
  have hs2 := Later.size h24
  replace hO := hO.later h24
  replace hO4 := hO4.later h24
  replace hgv := hgv.later h24
  replace hz2 := hz2.later h24
  replace hq1 := hq1.later h34
  clear c1 z1 c4 z4 hb4 hz1 hr1
  obtain ⟨⟨z1, c1, -⟩, -⟩ := id hO
  obtain ⟨z4, c4, -⟩ := own_get hO4
  go_upto_region 4 with (go_at_call 101; go_must (refine (rparts_any _ _ _ _ _ g _ hz2 hgv (by omega) (by omega) hgp).mono ?_; rw [HX.out.2]; rintro e w5 ⟨q2, r2, rfl, hq2, hr2, hb5⟩; obtain ⟨pc, kc, ec, -⟩ := hq2.open; obtain ⟨pd, kd, ed, -⟩ := hr2.open; subst ec; subst ed))
  refine wp_opaque (fun w6 hb6 => ?_)
  have hO6 := (own_split (Own.two hb6)).1
  have h56 := hb6.un1.un1
  have h46 := hb5.trans h56
  have hs3 := Later.size h46
  replace hO := hO.later h46
  replace hO5 := (own_split (hO5.later h46)).1
  replace hq1 := hq1.later h46
  replace hq2 := hq2.later h56
  have hlw : Later w w6 := ((hw0.trans h02).trans h24).trans h46
  clear c1 z1 c4 z4 hb6 hz2 hr2 hgv hO4
  obtain ⟨⟨z1, c1, -⟩, ⟨z2, c2, f2⟩, -⟩ := id hO
  obtain ⟨z5, c5, -⟩ := own_get hO5
  obtain ⟨z7, c7, -⟩ := own_get hO6
  obtain ⟨f1, hf1⟩ : ∃ f1, fitsB false N = f1 := ⟨_, rfl⟩
  obtain ⟨f2', hf2⟩ : ∃ f2, fitsB false D = f2 := ⟨_, rfl⟩
  obtain ⟨i1, hi1⟩ : ∃ i1, intV false N = i1 := ⟨_, rfl⟩
  obtain ⟨i2, hi2⟩ : ∃ i2, intV false D = i2 := ⟨_, rfl⟩
  have hi1b : 0 ≤ i1 ∧ i1 ≤ 9223372036854775807 := by
    rw [← hi1]; by_cases hx : N ≤ 9223372036854775807
    · rw [intF hx]; omega
    · rw [intF0 hx]; omega
  have hi10 := hi1b.1
  have hi11 := hi1b.2
  clear hi1b
  have HI1 := Lib.hid (And.intro hf1 hi1)
  have HI2 := Lib.hid (And.intro hf2 hi2)
  clear hf1 hf2 hi1 hi2
  have tok1 : True := trivial
  go_upto_region 6 with (first
    | (go_at_call 59; clear tok1; go_must (refine (rint_any _ false N _ hq1 (by omega)).mono ?_; rw [HI1.out.1, HI1.out.2]; rintro e w7 ⟨rfl, hb7⟩; clear c1 c2 c5 c7 z1 z2 z5 z7 f2; obtain ⟨z7, c7, -⟩ := own_get (hO6.later hb7)))
    | (go_at_call 59; go_must (refine (rint_any _ false D _ (hq2.later hb7) (by omega)).mono ?_; rw [HI2.out.1, HI2.out.2]; rintro e w8 ⟨rfl, hb8⟩; clear c7 z7; obtain ⟨⟨z1, c1, -⟩, ⟨z2, c2, f2⟩, -⟩ := hO.later (hb7.trans hb8))))
  replace hlw := (hlw.trans hb7).trans hb8
  have hend : ∀ (u v : Int), Own ((w8.setCell ⟨w.heap.size + 1, 0, none⟩ (.int .i64 u)).setCell ⟨w.heap.size + 1, 1, none⟩ (.int .i64 v)) [(w.heap.size + 1, #[.int .i64 u, .int .i64 v])] := fun u v => own_set2 (Own.cons z2 c2 f2 trivial)
  have HEND := Lib.hid hend
  have hput : ∀ (u v : Value), Later w ((w8.setCell ⟨w.heap.size + 1, 0, none⟩ u).setCell ⟨w.heap.size + 1, 1, none⟩ v) := fun u v => (hlw.putCell (by omega) _).putCell (by omega) _
  have HPUT := Lib.hid hput
  have hfin : ∀ (a b e0 : Int) (k : Bool), k = (f1 && f2') → (k = true → a = (if s = t then i1 else -i1) ∧ b = i2 ∧ e0 = 0) → (k = false → a = 0 ∧ b = 0 ∧ e0 = 11) → a = rN n d ∧ b = rD n d ∧ e0 = rE n d := by
    intro a b e0 k hk h1 h2
    obtain ⟨g1, g2⟩ := HI1.out
    obtain ⟨g3, g4⟩ := HI2.out
    rw [fitsF] at g1 g3
    rw [HND.out.1, HND.out.2, HE.out]
    by_cases hc : N ≤ 9223372036854775807 ∧ D ≤ 9223372036854775807
    · rw [if_pos hc, if_pos rfl, if_pos rfl]
      have e1 : k = true := by rw [hk, ← g1, ← g3]; simp [hc.1, hc.2]
      rw [intF hc.1] at g2
      rw [intF hc.2] at g4
      have := h1 e1
      rw [← g2, ← g4] at this
      exact this
    · rw [if_neg hc, if_neg (by decide), if_neg (by decide)]
      have e1 : k = false := by rw [hk, ← g1, ← g3, ← Bool.decide_and]; simp only [hc, decide_false]
      exact h2 e1
  have HFIN := Lib.hid hfin
  clear hend hput hfin hO hO5 hO6 hq1 hq2
  have h11 : f1 = true ∧ f2' = true ∨ (f1 && f2') = false := by cases f1 <;> cases f2' <;> simp
  rcases h11 with ⟨rfl, rfl⟩ | h11
  · cases s <;> cases t
    · go_wp2
      have e0 := (HEND.out i1 i2).1.2.1
      have hx := HFIN.out i1 i2 0 true (by rfl) (by simp) (by simp)
      exact bodyPost_ret (v := .tuple #[.agg #[.int .i64 i1, .int .i64 i2], .int .i64 0]) (by simp [results, Tryz.results64, go_sem, e0]) rfl ⟨ret_rat hx.1 hx.2.1 hx.2.2, HPUT.out _ _⟩
    · go_wp2
      have e0 := (HEND.out (-i1) i2).1.2.1
      have hx := HFIN.out (-i1) i2 0 true (by rfl) (by simp) (by simp)
      exact bodyPost_ret (v := .tuple #[.agg #[.int .i64 (-i1), .int .i64 i2], .int .i64 0]) (by simp [results, Tryz.results64, go_sem, e0]) rfl ⟨ret_rat hx.1 hx.2.1 hx.2.2, HPUT.out _ _⟩
    · go_wp2
      have e0 := (HEND.out (-i1) i2).1.2.1
      have hx := HFIN.out (-i1) i2 0 true (by rfl) (by simp) (by simp)
      exact bodyPost_ret (v := .tuple #[.agg #[.int .i64 (-i1), .int .i64 i2], .int .i64 0]) (by simp [results, Tryz.results64, go_sem, e0]) rfl ⟨ret_rat hx.1 hx.2.1 hx.2.2, HPUT.out _ _⟩
    · go_wp2
      have e0 := (HEND.out i1 i2).1.2.1
      have hx := HFIN.out i1 i2 0 true (by rfl) (by simp) (by simp)
      exact bodyPost_ret (v := .tuple #[.agg #[.int .i64 i1, .int .i64 i2], .int .i64 0]) (by simp [results, Tryz.results64, go_sem, e0]) rfl ⟨ret_rat hx.1 hx.2.1 hx.2.2, HPUT.out _ _⟩
  · have hx := HFIN.out 0 0 11 false h11.symm (fun h => by cases h) (fun _ => ⟨rfl, rfl, rfl⟩)
    have HX := Lib.hid hx
    clear hx
    cases f1 <;> cases f2' <;> (try cases h11)
    all_goals
      go_wp2
      have e0 := (HEND.out 0 0).1.2.1
      exact bodyPost_ret (v := .tuple #[.agg #[.int .i64 0, .int .i64 0], .int .i64 11]) (by simp [results, Tryz.results64, go_sem, e0]) rfl ⟨ret_rat HX.out.1 HX.out.2.1 HX.out.2.2, HPUT.out _ _⟩
theorem chk_ref (n d : Int) (n1 : -9223372036854775808 ≤ n) (n2 : n ≤ 9223372036854775807) (d1 : -9223372036854775808 ≤ d) (d2 : d ≤ 9223372036854775807) (hd : d ≠ 0) :
    chkE n d = if rE n d = 0 ∧ rN n d = n ∧ rD n d = d then 0 else 13 := by
  by_cases hv : Valid n d
  · rw [(chk_valid n1 n2 d2).2 hv]
    have h := (r_of (n := n) (d := d) (k := 1) (by omega) hv.d0 (by omega) (by omega) hv.co).1 (by have := hv.n0; omega) (by omega)
    rw [if_pos ⟨h.2.2, h.1, h.2.1⟩]
  · have hc : chkE n d ≠ 0 := fun h => hv ((chk_valid n1 n2 d2).1 h)
    have h13 : chkE n d = 13 := by
      unfold chkE at hc ⊢
      rw [if_neg hd] at hc ⊢
      by_cases h : d < 0 ∨ n = -9223372036854775808 ∨ gcdI n.natAbs d.natAbs ≠ 1
      · exact if_pos h
      · rw [if_neg h] at hc; exact absurd rfl hc
    rw [h13, if_neg]
    rintro ⟨h1, h2, h3⟩
    apply hv
    unfold rN at h2
    unfold rD at h3
    rw [if_pos h1] at h2 h3
    have hE := rE_ref n d hd
    rw [h1] at hE
    obtain ⟨k1, k2⟩ := red_ref n d hd
    have hgp : 0 < Nat.gcd n.natAbs d.natAbs := Nat.gcd_pos_of_pos_right _ (by omega)
    have hdvd : Nat.gcd n.natAbs d.natAbs ∣ d.natAbs := Nat.gcd_dvd_right _ _
    have hfit : n.natAbs / Nat.gcd n.natAbs d.natAbs ≤ 9223372036854775807 ∧ d.natAbs / Nat.gcd n.natAbs d.natAbs ≤ 9223372036854775807 := by
      apply Classical.byContradiction; intro hcn; rw [if_neg hcn] at hE; cases hE
    rw [h2] at k2
    rw [h3] at k1
    clear hE k2 h1 h2 h3 h13 hc
    generalize hG : Nat.gcd n.natAbs d.natAbs = G at *
    have hdp : 0 < d := by
      obtain ⟨c, hc⟩ := hdvd
      rw [hc, Nat.mul_div_cancel_left c hgp] at k1
      rcases Nat.eq_zero_or_pos c with h0 | h0
      · rw [h0] at hc; omega
      · omega
    have hg1 : G = 1 := by
      have hk : d.natAbs / G = d.natAbs := by omega
      obtain ⟨c, hc⟩ := hdvd
      rw [hc, Nat.mul_div_cancel_left c hgp] at hk
      have hc0 : 0 < c := by
        rcases Nat.eq_zero_or_pos c with h0 | h0
        · rw [h0] at hc; omega
        · exact h0
      have : G * c = 1 * c := by omega
      exact Nat.eq_of_mul_eq_mul_right hc0 this
    rw [hg1, Nat.div_one, Nat.div_one] at hfit
    exact ⟨hdp, d2, by have := hfit.1; omega, n2, hG.trans hg1⟩
set_option maxHeartbeats 1600000 in
theorem qcheck_any (n d : Int) (w : World) (n1 : -9223372036854775808 ≤ n) (n2 : n ≤ 9223372036854775807) (d1 : -9223372036854775808 ≤ d) (d2 : d ≤ 9223372036854775807) :
    Calls Tryz.prog 98 #[.agg #[.int .i64 n, .int .i64 d]] w fun e w' => e = .returned (.int .i64 (chkE n d)) ∧ Later w w' := by
  by_cases hd : d = 0
  · subst hd
    have hE : chkE n 0 = 12 := by simp [chkE]
    rw [hE]
    clear hE
    go_enter Tryz.func98, Tryz.ntmps98
    go_wp2
    go_ret
    exact ⟨rfl, by repeat (first | with_reducible exact Later.refl _ | with_reducible assumption | with_reducible refine Later.ofdrew ?_ | with_reducible refine Later.ofdrewN ?_ | with_reducible refine Later.setCell ?_ ?_ _ | with_reducible refine Later.alloc ?_ _ | with_reducible refine Later.drewN ?_ _ | with_reducible refine Later.drew ?_ | (with_reducible refine Later.trans ?_ (by assumption)) | (simp only [World.size_setCell, World.size_alloc, World.heap_drewN]; omega) | (simp; done) | (simp; omega))⟩
  · have hE := chk_ref n d n1 n2 d1 d2 hd
    have hq : ∀ W : World, Hid (∀ x, IsQ W x n d → Calls Tryz.prog 64 #[x] W fun e w' => e = .returned (.tuple #[.agg #[.int .i64 (rN n d), .int .i64 (rD n d)], .int .i64 (rE n d)]) ∧ Later W w') := fun W => Lib.hid fun x hx =>
      qratio_any x n d W hx (Nat.le_trans (nlen_i64 n1 n2) (by omega)) (Nat.le_trans (nlen_i64 d1 d2) (by omega)) hd
    have HQ := Lib.hid hq
    clear hq
    obtain ⟨x, hx⟩ : ∃ x, rN n d = x := ⟨_, rfl⟩
    obtain ⟨y, hy⟩ : ∃ y, rD n d = y := ⟨_, rfl⟩
    obtain ⟨z, hz⟩ : ∃ z, rE n d = z := ⟨_, rfl⟩
    rw [hx, hy, hz] at HQ hE
    rw [hE]
    have hd0 : (d == 0) = false := by simpa using hd
    clear hx hy hz hE hd
    by_cases h1 : z = 0 ∧ x = n ∧ y = d
    · obtain ⟨rfl, rfl, rfl⟩ := h1
      rw [if_pos ⟨rfl, rfl, rfl⟩]
      go_enter Tryz.func98, Tryz.ntmps98
      go_wp2_with (first
        | (go_at_call 66; go_must (refine (qof_any _ _ _ n1 n2 d1 d2).mono ?_; rintro e w1 ⟨r, rfl, hr, hb1⟩))
        | (go_at_call 64; go_must (refine ((HQ.out _).out _ hr).mono ?_; rintro e w2 ⟨rfl, hb2⟩; obtain ⟨⟨z1, c1, -⟩, -⟩ := Own.one (hb1.trans hb2))))
      go_ret
      exact ⟨rfl, by repeat (first | with_reducible exact Later.refl _ | with_reducible assumption | with_reducible refine Later.ofdrew ?_ | with_reducible refine Later.ofdrewN ?_ | with_reducible refine Later.setCell ?_ ?_ _ | with_reducible refine Later.alloc ?_ _ | with_reducible refine Later.drewN ?_ _ | with_reducible refine Later.drew ?_ | (with_reducible refine Later.trans ?_ (by assumption)) | (simp only [World.size_setCell, World.size_alloc, World.heap_drewN]; omega) | (simp; done) | (simp; omega))⟩
    · rw [if_neg h1]
      have H1 := Lib.hid h1
      clear h1
      have hcase : (z != 0) = true ∨ ((z != 0) = false ∧ (x == n) = false) ∨ ((z != 0) = false ∧ (x == n) = true ∧ (y == d) = false) := by
        have := H1.out
        by_cases a : z = 0 <;> by_cases b : x = n <;> by_cases c : y = d <;> simp [a, b, c] <;> (exact this ⟨a, b, c⟩)
      rcases hcase with h | ⟨h, h2⟩ | ⟨h, h2, h3⟩
      all_goals
        go_enter Tryz.func98, Tryz.ntmps98
        go_wp2_with (first
          | (go_at_call 66; go_must (refine (qof_any _ _ _ n1 n2 d1 d2).mono ?_; rintro e w1 ⟨r, rfl, hr, hb1⟩))
          | (go_at_call 64; go_must (refine ((HQ.out _).out _ hr).mono ?_; rintro e w2 ⟨rfl, hb2⟩; obtain ⟨⟨z1, c1, -⟩, -⟩ := Own.one (hb1.trans hb2))))
        go_ret
        exact ⟨rfl, by repeat (first | with_reducible exact Later.refl _ | with_reducible assumption | with_reducible refine Later.ofdrew ?_ | with_reducible refine Later.ofdrewN ?_ | with_reducible refine Later.setCell ?_ ?_ _ | with_reducible refine Later.alloc ?_ _ | with_reducible refine Later.drewN ?_ _ | with_reducible refine Later.drew ?_ | (with_reducible refine Later.trans ?_ (by assumption)) | (simp only [World.size_setCell, World.size_alloc, World.heap_drewN]; omega) | (simp; done) | (simp; omega))⟩
end Go.Proofs.YtkjabiabeemfhaaGreatDoor
end
