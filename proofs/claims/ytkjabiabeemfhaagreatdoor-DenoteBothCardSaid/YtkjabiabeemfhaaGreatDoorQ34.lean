/- facts made of facts that are told, however many -/
import Derived.Test.YtkjabiabeemfhaaGreatDoorQ33
import Derived.Test.YtkjabiabeemfhaaGreatDoorQ31
import Derived.Test.YtkjabiabeemfhaaGreatDoorQ19
import Derived.Test.YtkjabiabeemfhaaGreatDoorQ15
import Derived.Test.YtkjabiabeemfhaaGreatDoorQ13
set_option linter.all false
set_option linter.all false
section
/- chattellaw09.Flows, Waits: whether two lists are the same -/
namespace Go.Proofs.YtkjabiabeemfhaaGreatDoor
open Go.RowKit
set_option maxRecDepth 100000

theorem same_at {α : Type} {xs ys : List α} (hl : xs.length = ys.length) (h : ∀ i (h1 : i < xs.length) (h2 : i < ys.length), xs[i] = ys[i]) : xs = ys := List.ext_getElem hl h
set_option maxHeartbeats 1600000 in
theorem lflows_any (xs ys : List Fl) (u v : Value) (w : World) (hN : IsFlows w u xs) (hM : IsFlows w v ys) (hlen0 : xs.length ≤ 1000000) :
    Calls Tryz.prog 23 #[u, v] w fun e w' => e = .returned (.bool (decide (xs = ys))) ∧ Later w w' := by
  obtain ⟨p, cp, rfl⟩ := hN.form
  obtain ⟨q, cq, rfl⟩ := hM.form
  have HN := Lib.hid hN
  have HM := Lib.hid hM
  obtain ⟨R, hR⟩ : ∃ R, decide (xs = ys) = R := ⟨_, rfl⟩
  rw [hR]
  have HR := Lib.hid hR
  obtain ⟨N, hNL⟩ : ∃ N, xs.length = N := ⟨_, rfl⟩
  obtain ⟨M, hML⟩ : ∃ M, ys.length = M := ⟨_, rfl⟩
  rw [hNL] at HN hlen0 ⊢
  rw [hML] at HM ⊢
  have HL := Lib.hid (show xs.length = N ∧ ys.length = M from ⟨hNL, hML⟩)
  clear hR hN hM hNL hML
  by_cases hlen : N = M
  · subst hlen
    go_enter Tryz.func23, Tryz.ntmps23
    go_wp2
    go_loopw [5] (fun s5 wr => ∃ j : Nat, j ≤ N ∧ s5 = .int .i64 j ∧ Hid (∀ i (h1 : i < xs.length) (h2 : i < ys.length), i < j → xs[i] = ys[i]) ∧ Later w wr) (fun s5 _ => N - (intOf s5).toNat)
    case atStart => exact ⟨0, Nat.zero_le _, rfl, Lib.hid (fun i _ _ h => by omega), Later.refl _⟩
    case round =>
      obtain ⟨j, hj, rfl, hall, hlat⟩ := hrel
      by_cases hlt : j < N
      · have hjx : j < xs.length := by rw [HL.out.1]; exact hlt
        have hjy : j < ys.length := by rw [HL.out.2]; exact hlt
        obtain ⟨b, o, c1, hv, hb, g⟩ := HN.out.full (i := j) hjx
        obtain ⟨b', o', c2, hv', hb', g'⟩ := HM.out.full (i := j) hjy
        rw [HL.out.1] at hv
        rw [HL.out.2] at hv'
        cases hv
        cases hv'
        have e0 := ((bcell hlat).1 _ _ hb).trans (g 0 (by decide))
        have e1 := ((bcell hlat).1 _ _ hb).trans (g 1 (by decide))
        have e2 := ((bcell hlat).1 _ _ hb).trans (g 2 (by decide))
        have f0 := ((bcell hlat).1 _ _ hb').trans (g' 0 (by decide))
        have f1 := ((bcell hlat).1 _ _ hb').trans (g' 1 (by decide))
        have f2 := ((bcell hlat).1 _ _ hb').trans (g' 2 (by decide))
        simp only [flF, Nat.add_zero] at e0 e1 e2 f0 f1 f2
        by_cases heq : xs[j] = ys[j]
        · have HA : Hid (∀ i (h1 : i < xs.length) (h2 : i < ys.length), i < j + 1 → xs[i] = ys[i]) := Lib.hid (fun i h1 h2 h3 => by
            by_cases h : i = j
            · subst h; exact heq
            · exact hall.out i h1 h2 (by omega))
          rw [← heq] at f0 f1 f2
          clear g g' HN HM hall heq
          generalize (xs[j]).day = x0 at *
          generalize (xs[j]).cur = x1 at *
          generalize (xs[j]).amt = x2 at *
          go_upto_region 6 with (fail)
          refine wp_region_plan 9 (.done [0, 1, 2, 3, 4, 5, 6, 7, 8]) (by kernel_rfl) (by kernel_rfl) (fun _ _ d _ _ h => by cases d <;> exact h) ?_
          repeat' (first
            | (refine plan_done (fun K hK => ?_); (first | (simp only [pick_cons, pick_nil, toList_some_append, List.getElem?_toArray, List.getElem?_cons_zero, List.getElem?_cons_succ]; repeat (go_big_quiet_step (fail))) | simp only [pick_nil]); refine wpQuiet_nil (hK _ ?_); clear hK K)
            | ((with_reducible refine at_list ?_); go_wp2_with (fail); first | refine behind_store (t := 9) (by decide) ?_ | refine behind (by repeat (first | with_reducible exact Later.refl _ | with_reducible assumption | with_reducible refine Later.ofdrew ?_ | with_reducible refine Later.ofdrewN ?_ | with_reducible refine Later.alloc ?_ _ | with_reducible refine Later.drewN ?_ _ | with_reducible refine Later.drew ?_ | (with_reducible refine Later.trans ?_ (by assumption)))) ?_))
          go_wp2
          go_roundw
          case rel => exact ⟨j + 1, by omega, by go_num, HA, hlat.drew⟩
          case measure => simp [intOf]; omega
        · have HF : Hid (R = false) := Lib.hid (by rw [← HR.out, decide_eq_false_iff_not]; intro e; exact heq (by simp only [e]))
          have hne : ¬ ((xs[j]).day = (ys[j]).day ∧ (xs[j]).cur = (ys[j]).cur ∧ (xs[j]).amt = (ys[j]).amt) := fun ⟨a, b, c⟩ => heq (by
            cases hx : xs[j]; cases hy : ys[j]; rw [hx, hy] at a b c; simp only at a b c; rw [a, b, c])
          clear g g' HN HM hall heq HR
          generalize (xs[j]).day = x0 at *
          generalize (xs[j]).cur = x1 at *
          generalize (xs[j]).amt = x2 at *
          generalize (ys[j]).day = y0 at *
          generalize (ys[j]).cur = y1 at *
          generalize (ys[j]).amt = y2 at *
          by_cases h0 : x0 = y0
          · subst h0
            by_cases h1 : x1 = y1
            · subst h1
              have h2 : (x2 == y2) = false := by rw [beq_eq_false_iff_ne]; intro e; exact hne ⟨rfl, rfl, e⟩
              clear hne
              go_upto_region 6 with (fail)
              refine wp_region_plan 9 (.done [0, 1, 2, 3, 4, 5, 6, 7, 8]) (by kernel_rfl) (by kernel_rfl) (fun _ _ d _ _ h => by cases d <;> exact h) ?_
              repeat' (first
                | (refine plan_done (fun K hK => ?_); (first | (simp only [pick_cons, pick_nil, toList_some_append, List.getElem?_toArray, List.getElem?_cons_zero, List.getElem?_cons_succ]; repeat (go_big_quiet_step (fail))) | simp only [pick_nil]); refine wpQuiet_nil (hK _ ?_); clear hK K)
                | ((with_reducible refine at_list ?_); go_wp2_with (fail); first | refine behind_store (t := 9) (by decide) ?_ | refine behind (by repeat (first | with_reducible exact Later.refl _ | with_reducible assumption | with_reducible refine Later.ofdrew ?_ | with_reducible refine Later.ofdrewN ?_ | with_reducible refine Later.alloc ?_ _ | with_reducible refine Later.drewN ?_ _ | with_reducible refine Later.drew ?_ | (with_reducible refine Later.trans ?_ (by assumption)))) ?_))
              go_wp2
              go_ret
              exact ⟨by rw [HF.out]; rfl, hlat.drew⟩
            · have h1' : (x1 == y1) = false := by rw [beq_eq_false_iff_ne]; exact h1
              clear hne h1
              go_upto_region 6 with (fail)
              refine wp_region_plan 9 (.done [0, 1, 2, 3, 4, 5, 6, 7, 8]) (by kernel_rfl) (by kernel_rfl) (fun _ _ d _ _ h => by cases d <;> exact h) ?_
              repeat' (first
                | (refine plan_done (fun K hK => ?_); (first | (simp only [pick_cons, pick_nil, toList_some_append, List.getElem?_toArray, List.getElem?_cons_zero, List.getElem?_cons_succ]; repeat (go_big_quiet_step (fail))) | simp only [pick_nil]); refine wpQuiet_nil (hK _ ?_); clear hK K)
                | ((with_reducible refine at_list ?_); go_wp2_with (fail); first | refine behind_store (t := 9) (by decide) ?_ | refine behind (by repeat (first | with_reducible exact Later.refl _ | with_reducible assumption | with_reducible refine Later.ofdrew ?_ | with_reducible refine Later.ofdrewN ?_ | with_reducible refine Later.alloc ?_ _ | with_reducible refine Later.drewN ?_ _ | with_reducible refine Later.drew ?_ | (with_reducible refine Later.trans ?_ (by assumption)))) ?_))
              go_wp2
              go_ret
              exact ⟨by rw [HF.out]; rfl, hlat.drew⟩
          · have h0' : (x0 == y0) = false := by rw [beq_eq_false_iff_ne]; exact h0
            clear hne h0
            go_upto_region 6 with (fail)
            refine wp_region_plan 9 (.done [0, 1, 2, 3, 4, 5, 6, 7, 8]) (by kernel_rfl) (by kernel_rfl) (fun _ _ d _ _ h => by cases d <;> exact h) ?_
            repeat' (first
              | (refine plan_done (fun K hK => ?_); (first | (simp only [pick_cons, pick_nil, toList_some_append, List.getElem?_toArray, List.getElem?_cons_zero, List.getElem?_cons_succ]; repeat (go_big_quiet_step (fail))) | simp only [pick_nil]); refine wpQuiet_nil (hK _ ?_); clear hK K)
              | ((with_reducible refine at_list ?_); go_wp2_with (fail); first | refine behind_store (t := 9) (by decide) ?_ | refine behind (by repeat (first | with_reducible exact Later.refl _ | with_reducible assumption | with_reducible refine Later.ofdrew ?_ | with_reducible refine Later.ofdrewN ?_ | with_reducible refine Later.alloc ?_ _ | with_reducible refine Later.drewN ?_ _ | with_reducible refine Later.drew ?_ | (with_reducible refine Later.trans ?_ (by assumption)))) ?_))
            go_wp2
            go_ret
            exact ⟨by rw [HF.out]; rfl, hlat.drew⟩
      · have HF : Hid (R = true) := Lib.hid (by
          rw [← HR.out, decide_eq_true_iff]
          exact same_at (by rw [HL.out.1, HL.out.2]) (fun i h1 h2 => hall.out i h1 h2 (by rw [HL.out.1] at h1; omega)))
        clear HR hall
        go_wp2
        go_ret
        exact ⟨by rw [HF.out]; rfl, hlat⟩
  · have HF : Hid (R = false) := Lib.hid (by rw [← HR.out, decide_eq_false_iff_not]; intro e; have h1 := HL.out.1; have h2 := HL.out.2; rw [e] at h1; omega)
    have hne : ((N : Int) == (M : Int)) = false := by rw [beq_eq_false_iff_ne]; omega
    clear HR HN HM
    go_enter Tryz.func23, Tryz.ntmps23
    go_wp2
    go_ret
    exact ⟨by rw [HF.out]; rfl, by repeat (first | with_reducible exact Later.refl _ | with_reducible assumption | with_reducible refine Later.ofdrew ?_ | with_reducible refine Later.ofdrewN ?_ | with_reducible refine Later.setCell ?_ ?_ _ | with_reducible refine Later.alloc ?_ _ | with_reducible refine Later.drewN ?_ _ | with_reducible refine Later.drew ?_ | (with_reducible refine Later.trans ?_ (by assumption)) | (simp only [World.size_setCell, World.size_alloc, World.heap_drewN]; omega) | (simp; done) | (simp; omega))⟩
end Go.Proofs.YtkjabiabeemfhaaGreatDoor
end
section
/- terms put together (plain) -/
namespace Go.Proofs.YtkjabiabeemfhaaGreatDoor
open Go.RowKit Go.Sort

section
variable {x : Nd} {l : List Tm}
end
/-! What a contract that is put together comes to -/
section
variable {env : Env} {ts us : List Nd} {T U : Tm} {day tod : Int}
/-- A contract that may be, at days that may be. -/
theorem out_good (hG : Good ts T) (hm : makesI T.root.op = 2) (hr : ¬ (day < 0 ∨ 73048 < day ∨ tod < -1 ∨ 73048 < tod)) : outT env ts day tod = den env tod ⟨T, 0, day, 1, 1⟩ := out_den (ct_of_good hG hm) hr hG.tree
end
end Go.Proofs.YtkjabiabeemfhaaGreatDoor
end
section
/- facts that are told more only (plain) -/
namespace Go.Proofs.YtkjabiabeemfhaaGreatDoor
open Go.RowKit Go.Sort

/-- Facts that may be. -/
structure FcOk (s : FxL × ChL) (n : Nat) : Prop where
  fn : (s.1.map (·.1)).Nodup
  fo : FxOk s.1
  cn : (s.2.map (·.1)).Nodup
  co : ChOk s.2
  cl : s.2.length ≤ n
theorem putA_len {κ β : Type} [DecidableEq κ] (l : List (κ × β)) (k : κ) (v : β) : (putA l k v).length ≤ l.length + 1 := by
  unfold putA
  split
  · simp
  · simp
def tellS (s : FxL × ChL) (x : Td) : FxL × ChL := (tellFx s.1 x, tellCh s.2 x)
theorem FcOk.tell {s : FxL × ChL} {n : Nat} {x : Td} (h : FcOk s n) (hx : x.ok) : FcOk (tellS s x) (n + 1) := by
  refine ⟨tellFx_nodup h.fn, fxOk_step h.fn hx h.fo, tellCh_nodup h.cn, chOk_step h.cn h.co, ?_⟩
  show (tellCh s.2 x).length ≤ n + 1
  have := h.cl
  unfold tellCh chooseL
  split
  · split
    · have := putA_len s.2 (x.k, x.d) x.p; omega
    · omega
  · omega
theorem fcOk_nil : FcOk ([], []) 0 := ⟨List.nodup_nil, fun _ _ h => (by cases h), List.nodup_nil, fun _ _ h => (by cases h), Nat.le_refl _⟩
theorem fcOk_all (l : List Td) (hok : ∀ x ∈ l, x.ok) : ∀ (s : FxL × ChL) (n : Nat), FcOk s n → FcOk (l.foldl tellS s) (n + l.length) := by
  induction l with
  | nil => exact fun _ _ h => h
  | cons x r ih =>
    intro s n h
    have := ih (fun y hy => hok y (List.mem_cons_of_mem _ hy)) (tellS s x) (n + 1) (h.tell (hok x List.mem_cons_self))
    rwa [show n + (x :: r).length = n + 1 + r.length by simp; omega]
theorem tells_made (l : List Td) : ∀ s : FxL × ChL, l.foldl tellS s = (l.foldl tellFx s.1, l.foldl tellCh s.2) := by
  induction l with
  | nil => exact fun _ => rfl
  | cons x r ih => exact fun s => ih _
theorem fcOk_made (l : List Td) (hok : ∀ x ∈ l, x.ok) : FcOk (madeFx l, madeCh l) l.length := by
  have := fcOk_all l hok ([], []) 0 fcOk_nil
  rw [tells_made, Nat.zero_add] at this
  exact this
section
variable {s : FxL × ChL} {n : Nat} {x : Td}
end
/-! More, but none that is there, and no choice of a key of an Any -/
end Go.Proofs.YtkjabiabeemfhaaGreatDoor
end
section
/- denote: the chapter's example -/
namespace Go.Proofs.YtkjabiabeemfhaaGreatDoor
open Go.RowKit
set_option maxRecDepth 100000
open Go.Sort

def ex9 : List Nd := [⟨12, 0, 0, 0, 0⟩, ⟨10, 0, 0, 0, 0⟩, ⟨13, 0, 0, 0, 0⟩, ⟨2, 1, 0, 0, 0⟩, ⟨10, 1, 0, 0, 0⟩]
def exT9 : Tm := .node ⟨12, 0, 0, 0, 0⟩ [.node ⟨10, 0, 0, 0, 0⟩ [], .node ⟨13, 0, 0, 0, 0⟩ [.node ⟨2, 1, 0, 0, 0⟩ [], .node ⟨10, 1, 0, 0, 0⟩ []]]
theorem ex9_tree : treeOf ex9 = some exT9 := treeOf_iff.2 ⟨⟨by decide, rfl, ⟨by decide, rfl, trivial⟩, ⟨by decide, rfl, ⟨by decide, rfl, trivial⟩, ⟨by decide, rfl, trivial⟩, trivial⟩, trivial⟩, rfl⟩
theorem ex9_good : Good ex9 exT9 := ⟨ex9_tree, by decide, by decide +kernel, by decide +kernel, by decide +kernel⟩
theorem ex9_ok : ∀ x ∈ ex9, x.ok := by
  intro x hx
  unfold ex9 at hx
  simp only [List.mem_cons, List.not_mem_nil, or_false] at hx
  rcases hx with rfl | rfl | rfl | rfl | rfl <;> (unfold Nd.ok I64; decide)
theorem ex9_den : den (envT [] []) 9 ⟨exT9, 0, 5, 1, 1⟩ = (0, [⟨5, 0, 1⟩], [⟨false, 1, 5⟩]) := by decide +kernel
theorem ex9_out : outT (envT [] []) ex9 5 9 = (0, [⟨5, 0, 1⟩], [⟨false, 1, 5⟩]) := (out_good ex9_good (by decide) (by decide)).trans ex9_den
theorem ex9_flows : flowsT (envT [] []) ex9 5 9 = [⟨5, 0, 1⟩] := by unfold flowsT; rw [ex9_out]; simp [sortL]
theorem ex9_waits : waitsT (envT [] []) ex9 5 9 = [⟨false, 1, 5⟩] := by unfold waitsT; rw [ex9_out]; simp [waitL, sortL, cmpL]
theorem flows_of_own {w : World} {b : Nat} {x : Fl} (h : Own w [(b, #[.int .i64 x.day, .int .i64 x.cur, .int .i64 x.amt])]) : IsFlows w (.slice (some ⟨b, 0, none⟩) 1 1) [x] := by
  obtain ⟨z, c, -⟩ := own_get h
  refine .inr ⟨b, 0, 1, rfl, z, Nat.le_refl _, by decide, fun i hi j hj => ?_⟩
  obtain rfl : i = 0 := by simpa using hi
  rw [Nat.zero_mul, Nat.add_zero, Nat.zero_add, c, List.getElem?_toArray]
  exact flCs_get x j hj
set_option maxHeartbeats 3200000 in
theorem dawake_any (w : World) (hS : Shapes w) : Calls Tryz.prog 17 #[] w fun e w' => e = .returned (.bool true) ∧ Later w w' := by
  have HNEW := Lib.hid fnew_any
  have HFL := Lib.hid (fun p m1 m2 v W (h : PreAt W ex9 v [] [] p m1 m2) => flows_any h 5 9)
  have HWT := Lib.hid (fun p m1 m2 v W (h : PreAt W ex9 v [] [] p m1 m2) => waits_any h 5 9)
  rw [ex9_out, ex9_flows] at HFL
  rw [ex9_out, ex9_waits] at HWT
  have HPRE := Lib.hid (fun p m1 m2 v W (hS : Shapes W) (hN : IsNodes W v ex9) (hF : FactsAt W p m1 m2 [] []) => (⟨by decide, ex9_ok, hS, hN, hF, fcOk_nil.fo, fcOk_nil.co, List.nodup_nil, by decide⟩ : PreAt W ex9 v [] [] p m1 m2))
  go_enter Tryz.func17, Tryz.ntmps17
  go_upto_region 2 with (first | refine wpList_built (node_build _) rfl rfl rfl ?_ | refine wpList_built (node_build1 _ _) rfl rfl rfl ?_ | refine wpList_builtS (nodes_five _ _ _ _ _ _ _ _ _ _ _ _ _ _ _ _ _ _ _ _ _ _ _ _ _) rfl rfl rfl ?_)
  refine wp_opaque (fun w1 hb1 => ?_)
  have hN1 : IsNodes w1 (.slice (some ⟨w.heap.size, 0, none⟩) 5 5) ex9 := nodes_of_own (Own.one hb1) ex9 rfl (by decide)
  have hl1 := hb1.un1
  have hS1 := hS.later hl1
  clear hb1 hS
  obtain ⟨V, hV⟩ : ∃ V : Value, .slice (some ⟨w.heap.size, 0, none⟩) 5 5 = V := ⟨_, rfl⟩
  rw [hV] at hN1 ⊢
  clear hV
  go_upto_region 3 with (first
    | (go_at_call 36; go_must (refine (HNEW.out _).mono ?_; rintro e w2 ⟨p, m1, m2, rfl, hF2, ge1, ge2, hb2⟩))
    | (go_at_call 18; go_must (refine (HFL.out _ _ _ _ _ (HPRE.out _ _ _ _ _ (hS1.later hb2) (hN1.later hb2) hF2)).mono ?_; rintro e w3 ⟨v3, rfl, hf3, hb3⟩; obtain ⟨q3, c3, rfl⟩ := hf3.form)))
  have hl3 := hb2.trans hb3
  have HF3 := Lib.hid hf3
  have hl03 := hl1.trans hl3
  clear hF2 ge1 ge2 hb2 hb3 hf3 HFL
  go_upto_region 4 with (first
    | (go_at_call 36; go_must (refine (HNEW.out _).mono ?_; rintro e w4 ⟨p4, m3, m4, rfl, hF4, ge1, ge2, hb4⟩))
    | (go_at_call 19; go_must (refine (HWT.out _ _ _ _ _ (HPRE.out _ _ _ _ _ (hS1.later (hl3.trans hb4)) (hN1.later (hl3.trans hb4)) hF4)).mono ?_; rintro e w5 ⟨v5, rfl, hf5, hb5⟩; obtain ⟨b5, o5, c5, hq5, hz5, g5⟩ := hf5.full (i := 0) (by decide); have hq5' : v5 = .slice (some ⟨b5, o5, none⟩) 1 c5 := hq5; subst hq5')))
  have hl5 := hb4.trans hb5
  have g50 := g5 0 (by decide)
  have g51 := g5 1 (by decide)
  have g52 := g5 2 (by decide)
  simp only [wtF, List.getElem_cons_zero, Nat.zero_mul, Nat.add_zero] at g50 g51 g52
  have HF5 := Lib.hid (HF3.out.later hl5)
  have hl05 := hl03.trans hl5
  clear hF4 ge1 ge2 hb4 hb5 hf5 HWT HNEW HPRE hN1 hS1 hl1 hl3 hl03 hl5 HF3 g5
  have HSM := Lib.hid (fun W (hl : Later w5 W) u (hM : IsFlows W u [⟨5, 0, 1⟩]) => lflows_any [⟨5, 0, 1⟩] [⟨5, 0, 1⟩] _ u W (HF5.out.later hl) hM (by decide))
  clear HF5
  go_wp2_with (go_at_call 23; go_must (refine (HSM.out _ ((Later.refl _).alloc _) _ (flows_of_own (x := ⟨5, 0, 1⟩) (own_alloc _ _ _))).mono ?_; rintro e w6 ⟨rfl, hb6⟩; have hl6 : Later w5 w6 := Later.un1 hb6; have i0 := ((bcell hl6).1 _ _ hz5).trans g50; have i1 := ((bcell hl6).1 _ _ hz5).trans g51; have i2 := ((bcell hl6).1 _ _ hz5).trans g52))
  go_ret
  exact ⟨rfl, hl05.trans hl6⟩
set_option maxHeartbeats 1600000 in
theorem lfew_any (ts : List Nd) (l : List Td) (v u : Value) (day tod : Int) (w : World) (hN : IsNodes w v ts) (hT : IsTolds w u l) :
    Calls Tryz.prog 16 #[.agg #[v, .int .i64 day, .int .i64 tod, u]] w fun e w' => e = .returned (.bool (decide (ts.length ≤ 100) && decide (l.length ≤ 60))) ∧ Later w w' := by
  obtain ⟨p, cp, rfl⟩ := hN.form
  obtain ⟨q, cq, rfl⟩ := hT.form
  generalize ts.length = N at *
  generalize l.length = M at *
  clear hN hT
  by_cases h1 : N ≤ 100
  · rw [decide_eq_true h1, Bool.true_and]
    have h1' : (N : Int) ≤ 100 := by omega
    by_cases h2 : M ≤ 60
    · rw [decide_eq_true h2]
      have h2' : (M : Int) ≤ 60 := by omega
      go_enter Tryz.func16, Tryz.ntmps16
      go_wp2
      go_ret
      exact ⟨rfl, by repeat (first | with_reducible exact Later.refl _ | with_reducible assumption | with_reducible refine Later.ofdrew ?_ | with_reducible refine Later.ofdrewN ?_ | with_reducible refine Later.setCell ?_ ?_ _ | with_reducible refine Later.alloc ?_ _ | with_reducible refine Later.drewN ?_ _ | with_reducible refine Later.drew ?_ | (with_reducible refine Later.trans ?_ (by assumption)) | (simp only [World.size_setCell, World.size_alloc, World.heap_drewN]; omega) | (simp; done) | (simp; omega))⟩
    · rw [decide_eq_false h2]
      have h2' : ¬ (M : Int) ≤ 60 := by omega
      go_enter Tryz.func16, Tryz.ntmps16
      go_wp2
      go_ret
      exact ⟨rfl, by repeat (first | with_reducible exact Later.refl _ | with_reducible assumption | with_reducible refine Later.ofdrew ?_ | with_reducible refine Later.ofdrewN ?_ | with_reducible refine Later.setCell ?_ ?_ _ | with_reducible refine Later.alloc ?_ _ | with_reducible refine Later.drewN ?_ _ | with_reducible refine Later.drew ?_ | (with_reducible refine Later.trans ?_ (by assumption)) | (simp only [World.size_setCell, World.size_alloc, World.heap_drewN]; omega) | (simp; done) | (simp; omega))⟩
  · rw [decide_eq_false h1, Bool.false_and]
    have h1' : ¬ (N : Int) ≤ 100 := by omega
    go_enter Tryz.func16, Tryz.ntmps16
    go_wp2
    go_ret
    exact ⟨rfl, by repeat (first | with_reducible exact Later.refl _ | with_reducible assumption | with_reducible refine Later.ofdrew ?_ | with_reducible refine Later.ofdrewN ?_ | with_reducible refine Later.setCell ?_ ?_ _ | with_reducible refine Later.alloc ?_ _ | with_reducible refine Later.drewN ?_ _ | with_reducible refine Later.drew ?_ | (with_reducible refine Later.trans ?_ (by assumption)) | (simp only [World.size_setCell, World.size_alloc, World.heap_drewN]; omega) | (simp; done) | (simp; omega))⟩
end Go.Proofs.YtkjabiabeemfhaaGreatDoor
end
section
/- facts made of facts that are told, however many -/
namespace Go.Proofs.YtkjabiabeemfhaaGreatDoor
open Go.RowKit
set_option maxRecDepth 100000

theorem row_len {α : Type} {sz : Nat} {f : α → Nat → Value} {w : World} {v : Value} {xs : List α} (h : IsRow sz f w v xs) : xs.length ≤ 9223372036854775807 := by
  rcases h with ⟨_, rfl⟩ | ⟨b, o, cap, h1, h2, h3, h4, h5⟩
  · exact Nat.zero_le _
  · unfold maxLen at h4; omega
set_option maxHeartbeats 1600000 in
theorem made_big (l : List Td) (hlen : l.length ≤ 9223372036854775807) (hok : ∀ x ∈ l, x.ok) (v : Value) (w : World) (hN : IsTolds w v l) :
    Calls Tryz.prog 15 #[v] w fun e w' => ∃ p m1 m2, e = .returned (.pointer (some ⟨p, 0, none⟩)) ∧ FactsAt w' p m1 m2 (madeFx l) (madeCh l) ∧ w.heap.size ≤ m1 ∧ w.heap.size ≤ m2 ∧ Later w w' := by
  obtain ⟨p0, cp, rfl⟩ := hN.form
  have HN := Lib.hid hN
  have HNEW := Lib.hid (fnew_any w)
  have HTL := Lib.hid (fun (j : Nat) (h : j < l.length) p m1 m2 fx ch W hF => tell_any p m1 m2 fx ch l[j] W hF (hok _ (List.getElem_mem _)))
  clear hok hN
  obtain ⟨L, hL⟩ : ∃ L, l.length = L := ⟨_, rfl⟩
  rw [hL] at HN hlen ⊢
  have HL := Lib.hid hL
  clear hL
  go_enter Tryz.func15, Tryz.ntmps15
  go_wp2_with (go_at_call 36; go_must (refine HNEW.out.mono ?_; rintro e w1 ⟨p, m1, m2, rfl, hF1, h1, h2, hb1⟩))
  have HF1 := Lib.hid hF1
  clear hF1 HNEW
  go_loopw [4] (fun s4 wr => ∃ j : Nat, j ≤ L ∧ s4 = .int .i64 j ∧ Hid (FactsAt wr p m1 m2 ((l.take j).foldl tellFx []) ((l.take j).foldl tellCh [])) ∧ Later w wr) (fun s4 _ => L - (intOf s4).toNat)
  case atStart => exact ⟨0, Nat.zero_le _, rfl, HF1, hb1⟩
  case round =>
    obtain ⟨j, hj, rfl, hF, hlat⟩ := hrel
    by_cases hlt : j < L
    · have hjl : j < l.length := by rw [HL.out]; exact hlt
      obtain ⟨b, o, cp2, hv, hb, gg⟩ := HN.out.full (i := j) hjl
      rw [HL.out] at hv
      cases hv
      have g0 := ((bcell hlat).1 _ _ hb).trans (gg 0 (by omega))
      have g1 := ((bcell hlat).1 _ _ hb).trans (gg 1 (by omega))
      have g2 := ((bcell hlat).1 _ _ hb).trans (gg 2 (by omega))
      have g3 := ((bcell hlat).1 _ _ hb).trans (gg 3 (by omega))
      have g4 := ((bcell hlat).1 _ _ hb).trans (gg 4 (by omega))
      have g5 := ((bcell hlat).1 _ _ hb).trans (gg 5 (by omega))
      have HC := Lib.hid (HTL.out j hjl p m1 m2 _ _ wr hF.out)
      have ht : l.take (j + 1) = l.take j ++ [l[j]] := List.take_succ_eq_append_getElem hjl
      have HT1 := Lib.hid (show (l.take (j + 1)).foldl tellFx [] = tellFx ((l.take j).foldl tellFx []) l[j] by rw [ht, List.foldl_append]; rfl)
      have HT2 := Lib.hid (show (l.take (j + 1)).foldl tellCh [] = tellCh ((l.take j).foldl tellCh []) l[j] by rw [ht, List.foldl_append]; rfl)
      unfold Td.val at HC
      simp only [Td.cell, Nat.add_zero] at g0 g1 g2 g3 g4 g5
      generalize (l[j]).c = x0 at g0 HC
      generalize (l[j]).k = x1 at g1 HC
      generalize (l[j]).d = x2 at g2 HC
      generalize (l[j]).n = x3 at g3 HC
      generalize (l[j]).m = x4 at g4 HC
      generalize (l[j]).p = x5 at g5 HC
      clear gg ht hF HTL
      go_wp2_with (go_at_call 26; go_must (refine HC.out.mono ?_; rintro e w3 ⟨rfl, hF3, mm, hmm, hg3⟩))
      go_roundw
      case rel => exact ⟨j + 1, by omega, by go_num, Lib.hid (by rw [HT1.out, HT2.out]; exact hF3), Later.grown hlat hg3 (fun k e => by cases e; rcases hmm with rfl | rfl <;> assumption)⟩
      case measure => simp [intOf]; omega
    · have hfin : l.take j = l := List.take_of_length_le (by rw [HL.out]; omega)
      have hFF := hF.out
      rw [hfin] at hFF
      have HFF := Lib.hid hFF
      clear hF hFF hfin
      go_wp2
      go_ret
      exact ⟨p, m1, m2, rfl, HFF.out, h1, h2, hlat⟩
end Go.Proofs.YtkjabiabeemfhaaGreatDoor
end
