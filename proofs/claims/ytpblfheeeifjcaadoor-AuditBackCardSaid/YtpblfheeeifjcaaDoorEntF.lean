/- an entry that mirrors another one; a flow -/
import Derived.Test.YtpblfheeeifjcaaDoorEntE
set_option linter.all false
namespace Go.Proofs.YtpblfheeeifjcaaDoor
open Go.RowKit
set_option maxRecDepth 100000


set_option maxHeartbeats 1600000 in
theorem mirrors_any (con day cur seq per ref : Int) (u : Value) (ls : List Ln) (con' day' cur' seq' per' ref' : Int) (u' : Value) (ls' : List Ln) (hlen : ls.length ≤ 100000) (hlen2 : ls'.length ≤ 100000) (w : World) (hN : IsLines w u ls) (hM : IsLines w u' ls') :
    Calls Tryd.prog 55 #[.agg #[.int .i64 con, .int .i64 day, .int .i64 cur, .int .i64 seq, .int .i64 per, .int .i64 ref, u], .agg #[.int .i64 con', .int .i64 day', .int .i64 cur', .int .i64 seq', .int .i64 per', .int .i64 ref', u']] w fun e w' => e = .returned (.bool (mirE ⟨con, day, cur, seq, per, ref, ls⟩ ⟨con', day', cur', seq', per', ref', ls'⟩)) ∧ Later w w' := by
  have HT := Lib.hid (fun W (hl : Later w W) => turned_any ls hlen u W (IsRow.later hN hl))
  have HE := Lib.hid (fun v W (hl : Later w W) (hv : IsLines W v (turnL ls)) => equal_any (turnL ls) ls' (by unfold turnL; rw [List.length_map]; exact hlen) hlen2 v u' W hv (IsRow.later hM hl))
  obtain ⟨r, hr⟩ : ∃ r, mirE ⟨con, day, cur, seq, per, ref, ls⟩ ⟨con', day', cur', seq', per', ref', ls'⟩ = r := ⟨_, rfl⟩
  rw [hr]
  unfold mirE at hr
  simp only at hr
  generalize decide (turnL ls = ls') = b at *
  obtain ⟨p, cp, rfl⟩ := hN.form
  obtain ⟨q, cq, rfl⟩ := hM.form
  clear hN hM hlen hlen2
  generalize ls'.length = K at *
  have hd : (con = con' ∧ day = day' ∧ cur = cur') ∨ con ≠ con' ∨ (con = con' ∧ day ≠ day') ∨ (con = con' ∧ day = day' ∧ cur ≠ cur') := by
    by_cases e0 : con = con'
    · by_cases e1 : day = day'
      · by_cases e2 : cur = cur'
        · exact .inl ⟨e0, e1, e2⟩
        · exact .inr (.inr (.inr ⟨e0, e1, e2⟩))
      · exact .inr (.inr (.inl ⟨e0, e1⟩))
    · exact .inr (.inl e0)
  rcases hd with ⟨rfl, rfl, rfl⟩ | h | ⟨rfl, h⟩ | ⟨rfl, rfl, h⟩
  · have hr2 : r = b := by rw [← hr]; simp
    subst hr2
    clear hr
    go_enter Tryd.func55, Tryd.ntmps55
    go_upto_region 1 with (fail)
    refine wp_opaque (fun w0 hb0 => ?_)
    have hO := Own.two hb0
    have hO0 := hO
    obtain ⟨⟨z1, c1, -⟩, ⟨z2, c2, -⟩, -⟩ := hO0
    have hb1 := hb0.un1.un1
    clear hb0
    refine wp_region_plan 14 (.one [0, 1, 2, 3, 4, 5, 6, 7, 9, 10] 8 (.one [] 11 (.done [12, 13]))) (by kernel_rfl) (by kernel_rfl) (fun _ _ d _ _ h => by cases d <;> exact h) ?_
    repeat' (first
      | (refine plan_done (fun K hK => ?_); (first | (simp only [pick_cons, pick_nil, toList_some_append, List.getElem?_toArray, List.getElem?_cons_zero, List.getElem?_cons_succ]; repeat (go_big_quiet_step (fail))) | simp only [pick_nil]); refine wpQuiet_nil (hK _ ?_); clear hK K)
      | (refine plan_one (by rfl) (fun K hK => ?_); (first | (simp only [pick_cons, pick_nil, toList_some_append, List.getElem?_toArray, List.getElem?_cons_zero, List.getElem?_cons_succ]; repeat (go_big_quiet_step (fail))) | simp only [pick_nil]); refine wpQuiet_nil (hK _ ?_); clear hK K)
      | ((with_reducible refine at_list ?_); go_wp2_with (first | (go_at_call 70; go_must (refine (HT.out _ (by repeat (first | with_reducible exact Later.refl _ | with_reducible assumption | with_reducible refine Later.ofdrew ?_ | with_reducible refine Later.ofdrewN ?_ | with_reducible refine Later.setCell ?_ ?_ _ | with_reducible refine Later.alloc ?_ _ | with_reducible refine Later.drewN ?_ _ | with_reducible refine Later.drew ?_ | (with_reducible refine Later.trans ?_ (by assumption)) | (simp only [World.size_setCell, World.size_alloc, World.heap_drewN]; omega) | (simp; done) | (simp; omega)))).mono ?_; rintro e w2 ⟨v2, rfl, hR2, hb2⟩; clear c1 z1 c2 z2; obtain ⟨⟨z1, c1, -⟩, ⟨z2, c2, -⟩, -⟩ := hO.later (by repeat (first | with_reducible exact Later.refl _ | with_reducible assumption | with_reducible refine Later.ofdrew ?_ | with_reducible refine Later.ofdrewN ?_ | with_reducible refine Later.setCell ?_ ?_ _ | with_reducible refine Later.alloc ?_ _ | with_reducible refine Later.drewN ?_ _ | with_reducible refine Later.drew ?_ | (with_reducible refine Later.trans ?_ (by assumption)) | (simp only [World.size_setCell, World.size_alloc, World.heap_drewN]; omega) | (simp; done) | (simp; omega))))) | (go_at_call 69; go_must (refine (HE.out _ _ (by repeat (first | with_reducible exact Later.refl _ | with_reducible assumption | with_reducible refine Later.ofdrew ?_ | with_reducible refine Later.ofdrewN ?_ | with_reducible refine Later.setCell ?_ ?_ _ | with_reducible refine Later.alloc ?_ _ | with_reducible refine Later.drewN ?_ _ | with_reducible refine Later.drew ?_ | (with_reducible refine Later.trans ?_ (by assumption)) | (simp only [World.size_setCell, World.size_alloc, World.heap_drewN]; omega) | (simp; done) | (simp; omega))) hR2.1).mono ?_; rintro e w3 ⟨rfl, hb3⟩))); first | refine behind_store (t := 14) (by decide) ?_ | refine behind (by repeat (first | with_reducible exact Later.refl _ | with_reducible assumption | with_reducible refine Later.ofdrew ?_ | with_reducible refine Later.ofdrewN ?_ | with_reducible refine Later.alloc ?_ _ | with_reducible refine Later.drewN ?_ _ | with_reducible refine Later.drew ?_ | (with_reducible refine Later.trans ?_ (by assumption)))) ?_))
    go_wp2
    go_ret
    exact ⟨rfl, by repeat (first | with_reducible exact Later.refl _ | with_reducible assumption | with_reducible refine Later.ofdrew ?_ | with_reducible refine Later.ofdrewN ?_ | with_reducible refine Later.setCell ?_ ?_ _ | with_reducible refine Later.alloc ?_ _ | with_reducible refine Later.drewN ?_ _ | with_reducible refine Later.drew ?_ | (with_reducible refine Later.trans ?_ (by assumption)) | (simp only [World.size_setCell, World.size_alloc, World.heap_drewN]; omega) | (simp; done) | (simp; omega))⟩
  · have hq : (con == con') = false := by simpa using h
    have hr2 : r = false := by rw [← hr]; simp [h]
    subst hr2
    clear hr h HT HE
    go_enter Tryd.func55, Tryd.ntmps55
    go_upto_region 1 with (fail)
    refine wp_opaque (fun w0 hb0 => ?_)
    have hO := Own.two hb0
    have hO0 := hO
    obtain ⟨⟨z1, c1, -⟩, ⟨z2, c2, -⟩, -⟩ := hO0
    have hb1 := hb0.un1.un1
    clear hb0
    refine wp_region_plan 14 (.one [0, 1, 2, 3, 4, 5, 6, 7, 9, 10] 8 (.one [] 11 (.done [12, 13]))) (by kernel_rfl) (by kernel_rfl) (fun _ _ d _ _ h => by cases d <;> exact h) ?_
    repeat' (first
      | (refine plan_done (fun K hK => ?_); (first | (simp only [pick_cons, pick_nil, toList_some_append, List.getElem?_toArray, List.getElem?_cons_zero, List.getElem?_cons_succ]; repeat (go_big_quiet_step (fail))) | simp only [pick_nil]); refine wpQuiet_nil (hK _ ?_); clear hK K)
      | (refine plan_one (by rfl) (fun K hK => ?_); (first | (simp only [pick_cons, pick_nil, toList_some_append, List.getElem?_toArray, List.getElem?_cons_zero, List.getElem?_cons_succ]; repeat (go_big_quiet_step (fail))) | simp only [pick_nil]); refine wpQuiet_nil (hK _ ?_); clear hK K)
      | ((with_reducible refine at_list ?_); go_wp2_with (fail); first | refine behind_store (t := 14) (by decide) ?_ | refine behind (by repeat (first | with_reducible exact Later.refl _ | with_reducible assumption | with_reducible refine Later.ofdrew ?_ | with_reducible refine Later.ofdrewN ?_ | with_reducible refine Later.alloc ?_ _ | with_reducible refine Later.drewN ?_ _ | with_reducible refine Later.drew ?_ | (with_reducible refine Later.trans ?_ (by assumption)))) ?_))
    go_wp2
    go_ret
    exact ⟨rfl, by repeat (first | with_reducible exact Later.refl _ | with_reducible assumption | with_reducible refine Later.ofdrew ?_ | with_reducible refine Later.ofdrewN ?_ | with_reducible refine Later.setCell ?_ ?_ _ | with_reducible refine Later.alloc ?_ _ | with_reducible refine Later.drewN ?_ _ | with_reducible refine Later.drew ?_ | (with_reducible refine Later.trans ?_ (by assumption)) | (simp only [World.size_setCell, World.size_alloc, World.heap_drewN]; omega) | (simp; done) | (simp; omega))⟩
  · have hq : (day == day') = false := by simpa using h
    have hr2 : r = false := by rw [← hr]; simp [h]
    subst hr2
    clear hr h HT HE
    go_enter Tryd.func55, Tryd.ntmps55
    go_upto_region 1 with (fail)
    refine wp_opaque (fun w0 hb0 => ?_)
    have hO := Own.two hb0
    have hO0 := hO
    obtain ⟨⟨z1, c1, -⟩, ⟨z2, c2, -⟩, -⟩ := hO0
    have hb1 := hb0.un1.un1
    clear hb0
    refine wp_region_plan 14 (.one [0, 1, 2, 3, 4, 5, 6, 7, 9, 10] 8 (.one [] 11 (.done [12, 13]))) (by kernel_rfl) (by kernel_rfl) (fun _ _ d _ _ h => by cases d <;> exact h) ?_
    repeat' (first
      | (refine plan_done (fun K hK => ?_); (first | (simp only [pick_cons, pick_nil, toList_some_append, List.getElem?_toArray, List.getElem?_cons_zero, List.getElem?_cons_succ]; repeat (go_big_quiet_step (fail))) | simp only [pick_nil]); refine wpQuiet_nil (hK _ ?_); clear hK K)
      | (refine plan_one (by rfl) (fun K hK => ?_); (first | (simp only [pick_cons, pick_nil, toList_some_append, List.getElem?_toArray, List.getElem?_cons_zero, List.getElem?_cons_succ]; repeat (go_big_quiet_step (fail))) | simp only [pick_nil]); refine wpQuiet_nil (hK _ ?_); clear hK K)
      | ((with_reducible refine at_list ?_); go_wp2_with (fail); first | refine behind_store (t := 14) (by decide) ?_ | refine behind (by repeat (first | with_reducible exact Later.refl _ | with_reducible assumption | with_reducible refine Later.ofdrew ?_ | with_reducible refine Later.ofdrewN ?_ | with_reducible refine Later.alloc ?_ _ | with_reducible refine Later.drewN ?_ _ | with_reducible refine Later.drew ?_ | (with_reducible refine Later.trans ?_ (by assumption)))) ?_))
    go_wp2
    go_ret
    exact ⟨rfl, by repeat (first | with_reducible exact Later.refl _ | with_reducible assumption | with_reducible refine Later.ofdrew ?_ | with_reducible refine Later.ofdrewN ?_ | with_reducible refine Later.setCell ?_ ?_ _ | with_reducible refine Later.alloc ?_ _ | with_reducible refine Later.drewN ?_ _ | with_reducible refine Later.drew ?_ | (with_reducible refine Later.trans ?_ (by assumption)) | (simp only [World.size_setCell, World.size_alloc, World.heap_drewN]; omega) | (simp; done) | (simp; omega))⟩
  · have hq : (cur == cur') = false := by simpa using h
    have hr2 : r = false := by rw [← hr]; simp [h]
    subst hr2
    clear hr h HT HE
    go_enter Tryd.func55, Tryd.ntmps55
    go_upto_region 1 with (fail)
    refine wp_opaque (fun w0 hb0 => ?_)
    have hO := Own.two hb0
    have hO0 := hO
    obtain ⟨⟨z1, c1, -⟩, ⟨z2, c2, -⟩, -⟩ := hO0
    have hb1 := hb0.un1.un1
    clear hb0
    refine wp_region_plan 14 (.one [0, 1, 2, 3, 4, 5, 6, 7, 9, 10] 8 (.one [] 11 (.done [12, 13]))) (by kernel_rfl) (by kernel_rfl) (fun _ _ d _ _ h => by cases d <;> exact h) ?_
    repeat' (first
      | (refine plan_done (fun K hK => ?_); (first | (simp only [pick_cons, pick_nil, toList_some_append, List.getElem?_toArray, List.getElem?_cons_zero, List.getElem?_cons_succ]; repeat (go_big_quiet_step (fail))) | simp only [pick_nil]); refine wpQuiet_nil (hK _ ?_); clear hK K)
      | (refine plan_one (by rfl) (fun K hK => ?_); (first | (simp only [pick_cons, pick_nil, toList_some_append, List.getElem?_toArray, List.getElem?_cons_zero, List.getElem?_cons_succ]; repeat (go_big_quiet_step (fail))) | simp only [pick_nil]); refine wpQuiet_nil (hK _ ?_); clear hK K)
      | ((with_reducible refine at_list ?_); go_wp2_with (fail); first | refine behind_store (t := 14) (by decide) ?_ | refine behind (by repeat (first | with_reducible exact Later.refl _ | with_reducible assumption | with_reducible refine Later.ofdrew ?_ | with_reducible refine Later.ofdrewN ?_ | with_reducible refine Later.alloc ?_ _ | with_reducible refine Later.drewN ?_ _ | with_reducible refine Later.drew ?_ | (with_reducible refine Later.trans ?_ (by assumption)))) ?_))
    go_wp2
    go_ret
    exact ⟨rfl, by repeat (first | with_reducible exact Later.refl _ | with_reducible assumption | with_reducible refine Later.ofdrew ?_ | with_reducible refine Later.ofdrewN ?_ | with_reducible refine Later.setCell ?_ ?_ _ | with_reducible refine Later.alloc ?_ _ | with_reducible refine Later.drewN ?_ _ | with_reducible refine Later.drew ?_ | (with_reducible refine Later.trans ?_ (by assumption)) | (simp only [World.size_setCell, World.size_alloc, World.heap_drewN]; omega) | (simp; done) | (simp; omega))⟩

theorem ln_build (a b c : Int) (w : World) : (Instr.build 41 #[(0, .int .i64 a), (1, .int .i64 b), (2, .int .i64 c)]).run Tryd.prog w = .ok (.agg #[.int .i64 a, .int .i64 b, .int .i64 c]) w := by kernel_rfl
theorem lns_two (a b c a' b' c' : Value) (w : World) :
    (Instr.buildSlice 32 2 #[(0, .agg #[a, b, c]), (1, .agg #[a', b', c'])]).run Tryd.prog w
      = .ok (.slice (some ⟨w.heap.size, 0, none⟩) 2 2) (w.alloc (.cells #[a, b, c, a', b', c'] 41)) := by kernel_rfl
theorem en_build (a b c : Int) (p : Option Addr) (n k : Nat) (w : World) : (Instr.build 34 #[(0, .agg #[.int .i64 a, .int .i64 b, .int .i64 c]), (3, .int .i64 (-1)), (4, .slice p n k)]).run Tryd.prog w
      = .ok (.agg #[.int .i64 a, .int .i64 b, .int .i64 c, .int .i64 0, .int .i64 0, .int .i64 (-1), .slice p n k]) w := by kernel_rfl
theorem lines_new (W : World) (n : Nat) (hn : n = W.heap.size) (a b c a' b' c' : Int) : IsLines (W.alloc (.cells #[.int .i64 a, .int .i64 b, .int .i64 c, .int .i64 a', .int .i64 b', .int .i64 c'] 41)) (.slice (some ⟨n, 0, none⟩) 2 2) [⟨a, b, c⟩, ⟨a', b', c'⟩] := by
  subst hn
  obtain ⟨z, hc, -⟩ := own_get (own_alloc W #[.int .i64 a, .int .i64 b, .int .i64 c, .int .i64 a', .int .i64 b', .int .i64 c'] 41)
  refine .inr ⟨W.heap.size, 0, 2, rfl, z, by simp, by decide, fun i hi j hj => ?_⟩
  rw [Nat.zero_add, hc]
  have hi : i = 0 ∨ i = 1 := by simp at hi; omega
  have hj : j = 0 ∨ j = 1 ∨ j = 2 := by omega
  rcases hi with rfl | rfl <;> rcases hj with rfl | rfl | rfl <;> rfl
set_option maxHeartbeats 1600000 in
theorem flow_any (con day cur am h k : Int) (ht : tagB con day cur = true) (hh : inB h 16 = true) (hk : inB k 16 = true) (hne : h ≠ k) (h0 : am ≠ 0) (h1 : am ≠ -9223372036854775808) (hi : I64 am) (w : World) :
    Calls Tryd.prog 19 #[.agg #[.int .i64 con, .int .i64 day, .int .i64 cur], .int .i64 am, .int .i64 h, .int .i64 k] w fun e w' => ∃ v, e = .returned (.tuple #[.agg #[.int .i64 con, .int .i64 day, .int .i64 cur, .int .i64 0, .int .i64 0, .int .i64 (-1), v], .int .i64 0]) ∧ IsLines w' v [⟨h, cur, am⟩, ⟨k, cur, -am⟩] ∧ Later w w' := by
  have HT := Lib.hid (fun W => ht ▸ tag_any con day cur W)
  have HB1 := Lib.hid (fun W => hh ▸ below_fn h 16 W)
  have HB2 := Lib.hid (fun W => hk ▸ below_fn k 16 W)
  have e1 : (h == k) = false := by simpa using hne
  have e2 : (am == 0) = false := by simpa using h0
  have e3 : (am == -9223372036854775808) = false := by simpa using h1
  have e4 : IntKind.i64.wrap (-am) = -am := IntWalk.i64_in _ (by unfold I64 at hi; omega)
  clear ht hh hk hne h0 h1 hi
  have tok1 : True := trivial
  go_enter Tryd.func19, Tryd.ntmps19
  go_upto_region 1 with (fail)
  refine wp_opaque (fun w0 hb0 => ?_)
  have hO := Own.two hb0
  have hO0 := hO
  obtain ⟨⟨z1, c1, -⟩, ⟨z2, c2, f2⟩, -⟩ := hO0
  have hb1 := hb0.un1.un1
  clear hb0
  go_wp2_with (first
    | (go_at_call 29; go_must (refine (HT.out _).mono ?_; rintro e w2 ⟨rfl, hb2⟩; clear c1 z1 c2 z2 f2; obtain ⟨⟨z1, c1, -⟩, ⟨z2, c2, f2⟩, -⟩ := hO.later hb2))
    | (go_at_call 30; clear tok1; go_must (refine (HB1.out _).mono ?_; rintro e w2 ⟨rfl, rfl⟩))
    | (go_at_call 30; go_must (refine (HB2.out _).mono ?_; rintro e w2 ⟨rfl, rfl⟩))
    | refine wpList_built (ln_build _ _ _ _) rfl rfl rfl ?_
    | refine wpList_builtS (lns_two _ _ _ _ _ _ _) rfl rfl rfl ?_
    | refine wpList_built (en_build _ _ _ _ _ _ _) rfl rfl rfl ?_)
  refine bodyPost_ret (v := .tuple #[.agg #[.int .i64 con, .int .i64 day, .int .i64 cur, .int .i64 0, .int .i64 0, .int .i64 (-1), .slice (some ⟨w2.heap.size, 0, none⟩) 2 2], .int .i64 0]) (by simp [results, Tryd.results19, go_sem, c2, z2]) rfl ⟨_, rfl, lines_new _ _ (by simp) _ _ _ _ _ _, ?_⟩
  repeat (first | with_reducible exact Later.refl _ | with_reducible assumption | with_reducible refine Later.ofdrew ?_ | with_reducible refine Later.ofdrewN ?_ | with_reducible refine Later.setCell ?_ ?_ _ | with_reducible refine Later.alloc ?_ _ | with_reducible refine Later.drewN ?_ _ | with_reducible refine Later.drew ?_ | (with_reducible refine Later.trans ?_ (by assumption)) | (simp only [World.size_setCell, World.size_alloc, World.heap_drewN]; omega) | (simp; done) | (simp; omega))
end Go.Proofs.YtpblfheeeifjcaaDoor
