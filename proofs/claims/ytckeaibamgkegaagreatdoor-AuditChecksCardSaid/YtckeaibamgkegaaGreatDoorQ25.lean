/- audit.own: what is wrong with an entry by itself -/
import Derived.Test.YtckeaibamgkegaaGreatDoorQ22
set_option linter.all false
set_option linter.all false
section
/- audit.own: what is wrong with an entry by itself -/
namespace Go.Proofs.YtckeaibamgkegaaGreatDoor
open Go.RowKit
set_option maxRecDepth 100000

theorem fit_cases (s : Int) : (s = 0 ∧ fitN s = 0 ∧ fitE s = 0) ∨ (s ≠ 0 ∧ fitN s ≠ 0 ∧ fitE s = 0) ∨ (s ≠ 0 ∧ fitN s = 0 ∧ fitE s = 11) := by
  unfold fitN fitE
  by_cases h : -9223372036854775808 ≤ s ∧ s ≤ 9223372036854775807
  · simp only [if_pos h]
    by_cases h0 : s = 0
    · exact .inl ⟨h0, h0, by trivial⟩
    · exact .inr (.inl ⟨h0, h0, by trivial⟩)
  · simp only [if_neg h]
    exact .inr (.inr ⟨fun e => h (by subst e; omega), by trivial, by trivial⟩)
/-- Groups whose rows are words. -/
def GrOk (gs : List (List Rw)) : Prop := gs.length ≤ 10000 ∧ ∀ g ∈ gs, g.length ≤ 10000 ∧ ∀ r ∈ g, r.ok
theorem groups_ok (l : List Rw) (hlen : l.length ≤ 10000) (hw : ∀ r ∈ l, r.ok) : GrOk (groups l) := by
  have hf := (groups_sum l).2
  refine ⟨?_, fun g hg => ⟨?_, fun r hr => hw r ?_⟩⟩
  · have := groups_bd l []
    simp at this
    unfold groups
    omega
  · have : g.length ≤ (groups l).flatten.length := by
      obtain ⟨s, t, e⟩ := List.append_of_mem hg
      rw [e, List.flatten_append, List.flatten_cons, List.length_append, List.length_append]; omega
    rw [hf] at this; omega
  · rw [← hf]; exact List.mem_flatten.2 ⟨g, hg, hr⟩


set_option maxHeartbeats 8000000 in
theorem own_any (gs : List (List Rw)) (i : Nat) (hi : i < gs.length) (hok : GrOk gs) (v : Value) (w : World) (hG : GrAt w v gs) :
    Calls Tryz.prog 19 #[v, .int .i64 i] w fun e w' => e = .returned (.int .i64 (ownG gs i)) ∧ Later w w' := by
  have hmf : ∀ (fn : Fn) (first cap : Array Value) (w : World), (Instr.makeFunc fn first cap).run Tryz.prog w = .ok (.func fn first cap) w := fun _ _ _ _ => rfl
  obtain ⟨r, hr⟩ : ∃ r, ownG gs i = r := ⟨_, rfl⟩
  rw [hr]
  unfold ownG at hr
  rw [getD_at hi] at hr
  have hx := hok.2 _ (List.getElem_mem hi)
  obtain ⟨b, o, cap, u, rfl, hb, hcu, hne, hR⟩ := hG.full hi
  obtain ⟨b2, o2, cap2, rfl, hzb, hl2, g⟩ := hd_cell hR hne
  have HCON := Lib.hid (fun W (hl : Later w W) (B : Nat) (hc : W.cell? ⟨B, 0, none⟩ = some (.slice (some ⟨b2, o2, none⟩) gs[i].length cap2)) => own1_con B _ gs[i] gs[i] hne (by omega) _ W (hR.later hl) hc (hR.later hl))
  have HSUM := Lib.hid (fun W (hl : Later w W) => sum_all gs[i] hx.1 (fun r hr => (hx.2 r hr).2.2.2.2.2.2.2.2) _ W (hR.later hl))
  have g0 := g 0 (by omega)
  have g1 := g 1 (by omega)
  simp only [rwF, Rw.nums, List.getD_cons_zero, List.getD_cons_succ, Nat.add_zero] at g0 g1
  have HG0 := Lib.hid (fun W (hl : Later w W) => ((bcell hl).1 _ _ hzb).trans g0)
  have HG1 := Lib.hid (fun W (hl : Later w W) => ((bcell hl).1 _ _ hzb).trans g1)
  have hil : i < 10000 := Nat.lt_of_lt_of_le hi hok.1
  have hft : gs[i].filter (fun _ => true) = gs[i] := by simp
  rw [hft] at HSUM
  clear g g0 g1 hft hx
  by_cases hi0 : i = 0
  · subst hi0
    simp only [Nat.add_zero] at hcu
    rw [if_neg (show ¬ (0 < 0 ∧ _) by omega)] at hr
    clear hG hR
    generalize sumI (gs[0].map (·.amt)) = s at *
    generalize gs[0].any (fun r => decide (r.head ≠ (hd gs[0]).head)) = ot at *
    generalize (hd gs[0]).no = no at *
    generalize (hd gs[0]).seq = sq at *
    generalize gs[0].length = xl at *
    clear hok hne
    obtain ⟨gl, hgl⟩ : ∃ n, gs.length = n := ⟨_, rfl⟩
    rw [hgl] at hi ⊢
    clear hgl
    by_cases hno : no = 0
    · subst hno
      cases ot
      ·
        rcases fit_cases s with ⟨hs0, hn, he⟩ | ⟨hs0, hn, he⟩ | ⟨hs0, hn, he⟩
        · have hrv : r = 0 := by rw [← hr]; simp [*]
          subst hrv
          rw [hn, he] at HSUM
          clear hr hs0
          go_enter Tryz.func19, Tryz.ntmps19
          go_upto_region 2 with (fail)
          refine wp_opaque (fun W8 hb8 => ?_)
          obtain ⟨⟨z8, d8, f8⟩, -⟩ := Own.one hb8
          have hb9 := hb8.un1
          go_upto_region 5 with ((go_at_call 46; go_must (refine (HCON.out W8 hb9 _ (d8 0)).mono ?_; rintro e w2 ⟨rfl, hb2⟩; obtain ⟨⟨z2, d2, f2⟩, -⟩ := (Own.one hb8).later hb2; have hw2 := hb9.trans hb2; have e0 := HG0.out w2 hw2; have e1 := HG1.out w2 hw2; have zb2 := Nat.lt_of_lt_of_le hzb (Later.size hw2))))
          refine wp_opaque (fun W5 hb5 => ?_)
          have hw5 := hw2.trans hb5
          obtain ⟨⟨z5, d5, f5⟩, -⟩ := ((Own.one hb8).later hb2).later hb5
          clear e0 e1 z2 d2 f2 z8 d8 f8
          have e1 := HG1.out W5 hw5
          have zb5 := Nat.lt_of_lt_of_le hzb (Later.size hw5)
          refine wp_region_plan 18 (.done [0, 1, 2, 3, 4, 5, 6, 7, 8, 9, 10, 11, 12, 13, 14, 15, 16, 17]) (by kernel_rfl) (by kernel_rfl) (fun _ _ d _ _ h => by cases d <;> exact h) ?_
          repeat' (first
            | (refine plan_done (fun K hK => ?_); (first | (simp only [pick_cons, pick_nil, toList_some_append, List.getElem?_toArray, List.getElem?_cons_zero, List.getElem?_cons_succ]; repeat (go_big_quiet_step (fail))) | simp only [pick_nil]); refine wpQuiet_nil (hK _ ?_); clear hK K)
            | ((with_reducible refine at_list ?_); go_wp2_with (fail); first | refine behind_store (t := 18) (by decide) ?_ | refine behind (by repeat (first | with_reducible exact Later.refl _ | with_reducible assumption | with_reducible refine Later.ofdrew ?_ | with_reducible refine Later.ofdrewN ?_ | with_reducible refine Later.alloc ?_ _ | with_reducible refine Later.drewN ?_ _ | with_reducible refine Later.drew ?_ | (with_reducible refine Later.trans ?_ (by assumption)))) ?_))
          all_goals
            go_wp2_with ((go_at_call 24; go_must (refine (HSUM.out _ (by repeat (first | with_reducible exact Later.refl _ | with_reducible assumption | with_reducible refine Later.ofdrew ?_ | with_reducible refine Later.ofdrewN ?_ | with_reducible refine Later.setCell ?_ ?_ _ | with_reducible refine Later.alloc ?_ _ | with_reducible refine Later.drewN ?_ _ | with_reducible refine Later.drew ?_ | (with_reducible refine Later.trans ?_ (by assumption)) | (simp only [World.size_setCell, World.size_alloc, World.heap_drewN]; omega) | (simp; done) | (simp; omega)))).mono ?_; rintro e w6 ⟨rfl, hb6⟩)))
            go_ret
            exact ⟨rfl, by repeat (first | with_reducible exact Later.refl _ | with_reducible assumption | with_reducible refine Later.ofdrew ?_ | with_reducible refine Later.ofdrewN ?_ | with_reducible refine Later.setCell ?_ ?_ _ | with_reducible refine Later.alloc ?_ _ | with_reducible refine Later.drewN ?_ _ | with_reducible refine Later.drew ?_ | (with_reducible refine Later.trans ?_ (by assumption)) | (simp only [World.size_setCell, World.size_alloc, World.heap_drewN]; omega) | (simp; done) | (simp; omega))⟩
        · have hrv : r = 20 := by rw [← hr]; simp [*]
          subst hrv
          obtain ⟨n, hnn⟩ : ∃ n, fitN s = n := ⟨_, rfl⟩
          rw [hnn] at hn HSUM
          rw [he] at HSUM
          have hnb : (n != 0) = true := by simpa using hn
          have hnc : (n == 0) = false := by simpa using hn
          clear hr hs0
          go_enter Tryz.func19, Tryz.ntmps19
          go_upto_region 2 with (fail)
          refine wp_opaque (fun W8 hb8 => ?_)
          obtain ⟨⟨z8, d8, f8⟩, -⟩ := Own.one hb8
          have hb9 := hb8.un1
          go_upto_region 5 with ((go_at_call 46; go_must (refine (HCON.out W8 hb9 _ (d8 0)).mono ?_; rintro e w2 ⟨rfl, hb2⟩; obtain ⟨⟨z2, d2, f2⟩, -⟩ := (Own.one hb8).later hb2; have hw2 := hb9.trans hb2; have e0 := HG0.out w2 hw2; have e1 := HG1.out w2 hw2; have zb2 := Nat.lt_of_lt_of_le hzb (Later.size hw2))))
          refine wp_opaque (fun W5 hb5 => ?_)
          have hw5 := hw2.trans hb5
          obtain ⟨⟨z5, d5, f5⟩, -⟩ := ((Own.one hb8).later hb2).later hb5
          clear e0 e1 z2 d2 f2 z8 d8 f8
          have e1 := HG1.out W5 hw5
          have zb5 := Nat.lt_of_lt_of_le hzb (Later.size hw5)
          refine wp_region_plan 18 (.done [0, 1, 2, 3, 4, 5, 6, 7, 8, 9, 10, 11, 12, 13, 14, 15, 16, 17]) (by kernel_rfl) (by kernel_rfl) (fun _ _ d _ _ h => by cases d <;> exact h) ?_
          repeat' (first
            | (refine plan_done (fun K hK => ?_); (first | (simp only [pick_cons, pick_nil, toList_some_append, List.getElem?_toArray, List.getElem?_cons_zero, List.getElem?_cons_succ]; repeat (go_big_quiet_step (fail))) | simp only [pick_nil]); refine wpQuiet_nil (hK _ ?_); clear hK K)
            | ((with_reducible refine at_list ?_); go_wp2_with (fail); first | refine behind_store (t := 18) (by decide) ?_ | refine behind (by repeat (first | with_reducible exact Later.refl _ | with_reducible assumption | with_reducible refine Later.ofdrew ?_ | with_reducible refine Later.ofdrewN ?_ | with_reducible refine Later.alloc ?_ _ | with_reducible refine Later.drewN ?_ _ | with_reducible refine Later.drew ?_ | (with_reducible refine Later.trans ?_ (by assumption)))) ?_))
          all_goals
            go_wp2_with ((go_at_call 24; go_must (refine (HSUM.out _ (by repeat (first | with_reducible exact Later.refl _ | with_reducible assumption | with_reducible refine Later.ofdrew ?_ | with_reducible refine Later.ofdrewN ?_ | with_reducible refine Later.setCell ?_ ?_ _ | with_reducible refine Later.alloc ?_ _ | with_reducible refine Later.drewN ?_ _ | with_reducible refine Later.drew ?_ | (with_reducible refine Later.trans ?_ (by assumption)) | (simp only [World.size_setCell, World.size_alloc, World.heap_drewN]; omega) | (simp; done) | (simp; omega)))).mono ?_; rintro e w6 ⟨rfl, hb6⟩)))
            go_ret
            exact ⟨rfl, by repeat (first | with_reducible exact Later.refl _ | with_reducible assumption | with_reducible refine Later.ofdrew ?_ | with_reducible refine Later.ofdrewN ?_ | with_reducible refine Later.setCell ?_ ?_ _ | with_reducible refine Later.alloc ?_ _ | with_reducible refine Later.drewN ?_ _ | with_reducible refine Later.drew ?_ | (with_reducible refine Later.trans ?_ (by assumption)) | (simp only [World.size_setCell, World.size_alloc, World.heap_drewN]; omega) | (simp; done) | (simp; omega))⟩
        · have hrv : r = 20 := by rw [← hr]; simp [*]
          subst hrv
          rw [hn, he] at HSUM
          clear hr hs0
          go_enter Tryz.func19, Tryz.ntmps19
          go_upto_region 2 with (fail)
          refine wp_opaque (fun W8 hb8 => ?_)
          obtain ⟨⟨z8, d8, f8⟩, -⟩ := Own.one hb8
          have hb9 := hb8.un1
          go_upto_region 5 with ((go_at_call 46; go_must (refine (HCON.out W8 hb9 _ (d8 0)).mono ?_; rintro e w2 ⟨rfl, hb2⟩; obtain ⟨⟨z2, d2, f2⟩, -⟩ := (Own.one hb8).later hb2; have hw2 := hb9.trans hb2; have e0 := HG0.out w2 hw2; have e1 := HG1.out w2 hw2; have zb2 := Nat.lt_of_lt_of_le hzb (Later.size hw2))))
          refine wp_opaque (fun W5 hb5 => ?_)
          have hw5 := hw2.trans hb5
          obtain ⟨⟨z5, d5, f5⟩, -⟩ := ((Own.one hb8).later hb2).later hb5
          clear e0 e1 z2 d2 f2 z8 d8 f8
          have e1 := HG1.out W5 hw5
          have zb5 := Nat.lt_of_lt_of_le hzb (Later.size hw5)
          refine wp_region_plan 18 (.done [0, 1, 2, 3, 4, 5, 6, 7, 8, 9, 10, 11, 12, 13, 14, 15, 16, 17]) (by kernel_rfl) (by kernel_rfl) (fun _ _ d _ _ h => by cases d <;> exact h) ?_
          repeat' (first
            | (refine plan_done (fun K hK => ?_); (first | (simp only [pick_cons, pick_nil, toList_some_append, List.getElem?_toArray, List.getElem?_cons_zero, List.getElem?_cons_succ]; repeat (go_big_quiet_step (fail))) | simp only [pick_nil]); refine wpQuiet_nil (hK _ ?_); clear hK K)
            | ((with_reducible refine at_list ?_); go_wp2_with (fail); first | refine behind_store (t := 18) (by decide) ?_ | refine behind (by repeat (first | with_reducible exact Later.refl _ | with_reducible assumption | with_reducible refine Later.ofdrew ?_ | with_reducible refine Later.ofdrewN ?_ | with_reducible refine Later.alloc ?_ _ | with_reducible refine Later.drewN ?_ _ | with_reducible refine Later.drew ?_ | (with_reducible refine Later.trans ?_ (by assumption)))) ?_))
          all_goals
            go_wp2_with ((go_at_call 24; go_must (refine (HSUM.out _ (by repeat (first | with_reducible exact Later.refl _ | with_reducible assumption | with_reducible refine Later.ofdrew ?_ | with_reducible refine Later.ofdrewN ?_ | with_reducible refine Later.setCell ?_ ?_ _ | with_reducible refine Later.alloc ?_ _ | with_reducible refine Later.drewN ?_ _ | with_reducible refine Later.drew ?_ | (with_reducible refine Later.trans ?_ (by assumption)) | (simp only [World.size_setCell, World.size_alloc, World.heap_drewN]; omega) | (simp; done) | (simp; omega)))).mono ?_; rintro e w6 ⟨rfl, hb6⟩)))
            go_ret
            exact ⟨rfl, by repeat (first | with_reducible exact Later.refl _ | with_reducible assumption | with_reducible refine Later.ofdrew ?_ | with_reducible refine Later.ofdrewN ?_ | with_reducible refine Later.setCell ?_ ?_ _ | with_reducible refine Later.alloc ?_ _ | with_reducible refine Later.drewN ?_ _ | with_reducible refine Later.drew ?_ | (with_reducible refine Later.trans ?_ (by assumption)) | (simp only [World.size_setCell, World.size_alloc, World.heap_drewN]; omega) | (simp; done) | (simp; omega))⟩
      ·
        have hrv : r = 13 := by rw [← hr]; simp [*]
        subst hrv
        clear hr
        go_enter Tryz.func19, Tryz.ntmps19
        go_upto_region 2 with (fail)
        refine wp_opaque (fun W8 hb8 => ?_)
        obtain ⟨⟨z8, d8, f8⟩, -⟩ := Own.one hb8
        have hb9 := hb8.un1
        go_wp2_with ((go_at_call 46; go_must (refine (HCON.out W8 hb9 _ (d8 0)).mono ?_; rintro e w2 ⟨rfl, hb2⟩; obtain ⟨⟨z2, d2, f2⟩, -⟩ := (Own.one hb8).later hb2; have hw2 := hb9.trans hb2; have e0 := HG0.out w2 hw2; have e1 := HG1.out w2 hw2; have zb2 := Nat.lt_of_lt_of_le hzb (Later.size hw2))))
        go_ret
        exact ⟨rfl, by repeat (first | with_reducible exact Later.refl _ | with_reducible assumption | with_reducible refine Later.ofdrew ?_ | with_reducible refine Later.ofdrewN ?_ | with_reducible refine Later.setCell ?_ ?_ _ | with_reducible refine Later.alloc ?_ _ | with_reducible refine Later.drewN ?_ _ | with_reducible refine Later.drew ?_ | (with_reducible refine Later.trans ?_ (by assumption)) | (simp only [World.size_setCell, World.size_alloc, World.heap_drewN]; omega) | (simp; done) | (simp; omega))⟩
    · have hnb : (no != 0) = true := by simpa using hno
      have hnc : (no == 0) = false := by simpa using hno
      have hrv : r = 13 := by rw [← hr]; simp [*]
      subst hrv
      clear hr
      go_enter Tryz.func19, Tryz.ntmps19
      go_upto_region 2 with (fail)
      refine wp_opaque (fun W8 hb8 => ?_)
      obtain ⟨⟨z8, d8, f8⟩, -⟩ := Own.one hb8
      have hb9 := hb8.un1
      go_wp2_with ((go_at_call 46; go_must (refine (HCON.out W8 hb9 _ (d8 0)).mono ?_; rintro e w2 ⟨rfl, hb2⟩; obtain ⟨⟨z2, d2, f2⟩, -⟩ := (Own.one hb8).later hb2; have hw2 := hb9.trans hb2; have e0 := HG0.out w2 hw2; have e1 := HG1.out w2 hw2; have zb2 := Nat.lt_of_lt_of_le hzb (Later.size hw2))))
      go_ret
      exact ⟨rfl, by repeat (first | with_reducible exact Later.refl _ | with_reducible assumption | with_reducible refine Later.ofdrew ?_ | with_reducible refine Later.ofdrewN ?_ | with_reducible refine Later.setCell ?_ ?_ _ | with_reducible refine Later.alloc ?_ _ | with_reducible refine Later.drewN ?_ _ | with_reducible refine Later.drew ?_ | (with_reducible refine Later.trans ?_ (by assumption)) | (simp only [World.size_setCell, World.size_alloc, World.heap_drewN]; omega) | (simp; done) | (simp; omega))⟩
  · obtain ⟨k, rfl⟩ : ∃ k, i = k + 1 := ⟨i - 1, by omega⟩
    rw [getD_at (show k + 1 - 1 < gs.length by omega)] at hr
    simp only [Nat.add_sub_cancel] at hr
    obtain ⟨bp, op, capp, up, hvp, hbp', hcup, hnep, hRp⟩ := hG.full (i := k) (by omega)
    cases hvp
    obtain ⟨b3, o3, cap3, rfl, hbp, hl3, gp⟩ := hd_cell hRp hnep
    have p1 := gp 1 (by omega)
    simp only [rwF, Rw.nums, List.getD_cons_zero, List.getD_cons_succ, Nat.add_zero] at p1
    have HP0 := Lib.hid (fun W (hl : Later w W) => ((bcell hl).1 _ _ hb).trans hcup)
    have HP1 := Lib.hid (fun W (hl : Later w W) => ((bcell hl).1 _ _ hbp).trans p1)
    have hwr : IntKind.i64.wrap (((k + 1 : Nat) : Int) - 1) = k := by rw [show ((k + 1 : Nat) : Int) - 1 = k by omega]; exact IntWalk.i64_in _ (by omega)
    clear hG hR hRp gp p1 hcup
    generalize sumI (gs[k + 1].map (·.amt)) = s at *
    generalize gs[k + 1].any (fun r => decide (r.head ≠ (hd gs[k + 1]).head)) = ot at *
    generalize (hd gs[k + 1]).no = no at *
    generalize (hd gs[k + 1]).seq = sq at *
    generalize (hd gs[k]).seq = ps at *
    generalize gs[k + 1].length = xl at *
    generalize gs[k].length = xk at *
    clear hok hne hnep hi0
    obtain ⟨gl, hgl⟩ : ∃ n, gs.length = n := ⟨_, rfl⟩
    rw [hgl] at hi ⊢
    clear hgl
    have hj0 : (0 : Int) < ((k + 1 : Nat) : Int) := by omega
    by_cases hno : no = ((k + 1 : Nat) : Int)
    · subst hno
      cases ot
      · by_cases hsq : sq < ps
        · have hrv : r = 24 := by rw [← hr]; simp [*]
          subst hrv
          clear hr
          go_enter Tryz.func19, Tryz.ntmps19
          go_upto_region 2 with (fail)
          refine wp_opaque (fun W8 hb8 => ?_)
          obtain ⟨⟨z8, d8, f8⟩, -⟩ := Own.one hb8
          have hb9 := hb8.un1
          go_upto_region 5 with ((go_at_call 46; go_must (refine (HCON.out W8 hb9 _ (d8 0)).mono ?_; rintro e w2 ⟨rfl, hb2⟩; obtain ⟨⟨z2, d2, f2⟩, -⟩ := (Own.one hb8).later hb2; have hw2 := hb9.trans hb2; have e0 := HG0.out w2 hw2; have e1 := HG1.out w2 hw2; have zb2 := Nat.lt_of_lt_of_le hzb (Later.size hw2))))
          refine wp_opaque (fun W5 hb5 => ?_)
          have hw5 := hw2.trans hb5
          obtain ⟨⟨z5, d5, f5⟩, -⟩ := ((Own.one hb8).later hb2).later hb5
          clear e0 e1 z2 d2 f2 z8 d8 f8
          have e1 := HG1.out W5 hw5
          have zb5 := Nat.lt_of_lt_of_le hzb (Later.size hw5)
          have p0 := HP0.out W5 hw5
          have p1 := HP1.out W5 hw5
          have zp0 := Nat.lt_of_lt_of_le hb (Later.size hw5)
          have zp1 := Nat.lt_of_lt_of_le hbp (Later.size hw5)
          refine wp_region_plan 18 (.done [0, 1, 2, 3, 4, 5, 6, 7, 8, 9, 10, 11, 12, 13, 14, 15, 16, 17]) (by kernel_rfl) (by kernel_rfl) (fun _ _ d _ _ h => by cases d <;> exact h) ?_
          repeat' (first
            | (refine plan_done (fun K hK => ?_); (first | (simp only [pick_cons, pick_nil, toList_some_append, List.getElem?_toArray, List.getElem?_cons_zero, List.getElem?_cons_succ]; repeat (go_big_quiet_step (fail))) | simp only [pick_nil]); refine wpQuiet_nil (hK _ ?_); clear hK K)
            | ((with_reducible refine at_list ?_); go_wp2_with (fail); first | refine behind_store (t := 18) (by decide) ?_ | refine behind (by repeat (first | with_reducible exact Later.refl _ | with_reducible assumption | with_reducible refine Later.ofdrew ?_ | with_reducible refine Later.ofdrewN ?_ | with_reducible refine Later.alloc ?_ _ | with_reducible refine Later.drewN ?_ _ | with_reducible refine Later.drew ?_ | (with_reducible refine Later.trans ?_ (by assumption)))) ?_))
          all_goals
            go_wp2
            go_ret
            exact ⟨rfl, by repeat (first | with_reducible exact Later.refl _ | with_reducible assumption | with_reducible refine Later.ofdrew ?_ | with_reducible refine Later.ofdrewN ?_ | with_reducible refine Later.setCell ?_ ?_ _ | with_reducible refine Later.alloc ?_ _ | with_reducible refine Later.drewN ?_ _ | with_reducible refine Later.drew ?_ | (with_reducible refine Later.trans ?_ (by assumption)) | (simp only [World.size_setCell, World.size_alloc, World.heap_drewN]; omega) | (simp; done) | (simp; omega))⟩
        ·
          rcases fit_cases s with ⟨hs0, hn, he⟩ | ⟨hs0, hn, he⟩ | ⟨hs0, hn, he⟩
          · have hrv : r = 0 := by rw [← hr]; simp [*]
            subst hrv
            rw [hn, he] at HSUM
            clear hr hs0
            go_enter Tryz.func19, Tryz.ntmps19
            go_upto_region 2 with (fail)
            refine wp_opaque (fun W8 hb8 => ?_)
            obtain ⟨⟨z8, d8, f8⟩, -⟩ := Own.one hb8
            have hb9 := hb8.un1
            go_upto_region 5 with ((go_at_call 46; go_must (refine (HCON.out W8 hb9 _ (d8 0)).mono ?_; rintro e w2 ⟨rfl, hb2⟩; obtain ⟨⟨z2, d2, f2⟩, -⟩ := (Own.one hb8).later hb2; have hw2 := hb9.trans hb2; have e0 := HG0.out w2 hw2; have e1 := HG1.out w2 hw2; have zb2 := Nat.lt_of_lt_of_le hzb (Later.size hw2))))
            refine wp_opaque (fun W5 hb5 => ?_)
            have hw5 := hw2.trans hb5
            obtain ⟨⟨z5, d5, f5⟩, -⟩ := ((Own.one hb8).later hb2).later hb5
            clear e0 e1 z2 d2 f2 z8 d8 f8
            have e1 := HG1.out W5 hw5
            have zb5 := Nat.lt_of_lt_of_le hzb (Later.size hw5)
            have p0 := HP0.out W5 hw5
            have p1 := HP1.out W5 hw5
            have zp0 := Nat.lt_of_lt_of_le hb (Later.size hw5)
            have zp1 := Nat.lt_of_lt_of_le hbp (Later.size hw5)
            refine wp_region_plan 18 (.done [0, 1, 2, 3, 4, 5, 6, 7, 8, 9, 10, 11, 12, 13, 14, 15, 16, 17]) (by kernel_rfl) (by kernel_rfl) (fun _ _ d _ _ h => by cases d <;> exact h) ?_
            repeat' (first
              | (refine plan_done (fun K hK => ?_); (first | (simp only [pick_cons, pick_nil, toList_some_append, List.getElem?_toArray, List.getElem?_cons_zero, List.getElem?_cons_succ]; repeat (go_big_quiet_step (fail))) | simp only [pick_nil]); refine wpQuiet_nil (hK _ ?_); clear hK K)
              | ((with_reducible refine at_list ?_); go_wp2_with (fail); first | refine behind_store (t := 18) (by decide) ?_ | refine behind (by repeat (first | with_reducible exact Later.refl _ | with_reducible assumption | with_reducible refine Later.ofdrew ?_ | with_reducible refine Later.ofdrewN ?_ | with_reducible refine Later.alloc ?_ _ | with_reducible refine Later.drewN ?_ _ | with_reducible refine Later.drew ?_ | (with_reducible refine Later.trans ?_ (by assumption)))) ?_))
            all_goals
              go_wp2_with ((go_at_call 24; go_must (refine (HSUM.out _ (by repeat (first | with_reducible exact Later.refl _ | with_reducible assumption | with_reducible refine Later.ofdrew ?_ | with_reducible refine Later.ofdrewN ?_ | with_reducible refine Later.setCell ?_ ?_ _ | with_reducible refine Later.alloc ?_ _ | with_reducible refine Later.drewN ?_ _ | with_reducible refine Later.drew ?_ | (with_reducible refine Later.trans ?_ (by assumption)) | (simp only [World.size_setCell, World.size_alloc, World.heap_drewN]; omega) | (simp; done) | (simp; omega)))).mono ?_; rintro e w6 ⟨rfl, hb6⟩)))
              go_ret
              exact ⟨rfl, by repeat (first | with_reducible exact Later.refl _ | with_reducible assumption | with_reducible refine Later.ofdrew ?_ | with_reducible refine Later.ofdrewN ?_ | with_reducible refine Later.setCell ?_ ?_ _ | with_reducible refine Later.alloc ?_ _ | with_reducible refine Later.drewN ?_ _ | with_reducible refine Later.drew ?_ | (with_reducible refine Later.trans ?_ (by assumption)) | (simp only [World.size_setCell, World.size_alloc, World.heap_drewN]; omega) | (simp; done) | (simp; omega))⟩
          · have hrv : r = 20 := by rw [← hr]; simp [*]
            subst hrv
            obtain ⟨n, hnn⟩ : ∃ n, fitN s = n := ⟨_, rfl⟩
            rw [hnn] at hn HSUM
            rw [he] at HSUM
            have hnb : (n != 0) = true := by simpa using hn
            have hnc : (n == 0) = false := by simpa using hn
            clear hr hs0
            go_enter Tryz.func19, Tryz.ntmps19
            go_upto_region 2 with (fail)
            refine wp_opaque (fun W8 hb8 => ?_)
            obtain ⟨⟨z8, d8, f8⟩, -⟩ := Own.one hb8
            have hb9 := hb8.un1
            go_upto_region 5 with ((go_at_call 46; go_must (refine (HCON.out W8 hb9 _ (d8 0)).mono ?_; rintro e w2 ⟨rfl, hb2⟩; obtain ⟨⟨z2, d2, f2⟩, -⟩ := (Own.one hb8).later hb2; have hw2 := hb9.trans hb2; have e0 := HG0.out w2 hw2; have e1 := HG1.out w2 hw2; have zb2 := Nat.lt_of_lt_of_le hzb (Later.size hw2))))
            refine wp_opaque (fun W5 hb5 => ?_)
            have hw5 := hw2.trans hb5
            obtain ⟨⟨z5, d5, f5⟩, -⟩ := ((Own.one hb8).later hb2).later hb5
            clear e0 e1 z2 d2 f2 z8 d8 f8
            have e1 := HG1.out W5 hw5
            have zb5 := Nat.lt_of_lt_of_le hzb (Later.size hw5)
            have p0 := HP0.out W5 hw5
            have p1 := HP1.out W5 hw5
            have zp0 := Nat.lt_of_lt_of_le hb (Later.size hw5)
            have zp1 := Nat.lt_of_lt_of_le hbp (Later.size hw5)
            refine wp_region_plan 18 (.done [0, 1, 2, 3, 4, 5, 6, 7, 8, 9, 10, 11, 12, 13, 14, 15, 16, 17]) (by kernel_rfl) (by kernel_rfl) (fun _ _ d _ _ h => by cases d <;> exact h) ?_
            repeat' (first
              | (refine plan_done (fun K hK => ?_); (first | (simp only [pick_cons, pick_nil, toList_some_append, List.getElem?_toArray, List.getElem?_cons_zero, List.getElem?_cons_succ]; repeat (go_big_quiet_step (fail))) | simp only [pick_nil]); refine wpQuiet_nil (hK _ ?_); clear hK K)
              | ((with_reducible refine at_list ?_); go_wp2_with (fail); first | refine behind_store (t := 18) (by decide) ?_ | refine behind (by repeat (first | with_reducible exact Later.refl _ | with_reducible assumption | with_reducible refine Later.ofdrew ?_ | with_reducible refine Later.ofdrewN ?_ | with_reducible refine Later.alloc ?_ _ | with_reducible refine Later.drewN ?_ _ | with_reducible refine Later.drew ?_ | (with_reducible refine Later.trans ?_ (by assumption)))) ?_))
            all_goals
              go_wp2_with ((go_at_call 24; go_must (refine (HSUM.out _ (by repeat (first | with_reducible exact Later.refl _ | with_reducible assumption | with_reducible refine Later.ofdrew ?_ | with_reducible refine Later.ofdrewN ?_ | with_reducible refine Later.setCell ?_ ?_ _ | with_reducible refine Later.alloc ?_ _ | with_reducible refine Later.drewN ?_ _ | with_reducible refine Later.drew ?_ | (with_reducible refine Later.trans ?_ (by assumption)) | (simp only [World.size_setCell, World.size_alloc, World.heap_drewN]; omega) | (simp; done) | (simp; omega)))).mono ?_; rintro e w6 ⟨rfl, hb6⟩)))
              go_ret
              exact ⟨rfl, by repeat (first | with_reducible exact Later.refl _ | with_reducible assumption | with_reducible refine Later.ofdrew ?_ | with_reducible refine Later.ofdrewN ?_ | with_reducible refine Later.setCell ?_ ?_ _ | with_reducible refine Later.alloc ?_ _ | with_reducible refine Later.drewN ?_ _ | with_reducible refine Later.drew ?_ | (with_reducible refine Later.trans ?_ (by assumption)) | (simp only [World.size_setCell, World.size_alloc, World.heap_drewN]; omega) | (simp; done) | (simp; omega))⟩
          · have hrv : r = 20 := by rw [← hr]; simp [*]
            subst hrv
            rw [hn, he] at HSUM
            clear hr hs0
            go_enter Tryz.func19, Tryz.ntmps19
            go_upto_region 2 with (fail)
            refine wp_opaque (fun W8 hb8 => ?_)
            obtain ⟨⟨z8, d8, f8⟩, -⟩ := Own.one hb8
            have hb9 := hb8.un1
            go_upto_region 5 with ((go_at_call 46; go_must (refine (HCON.out W8 hb9 _ (d8 0)).mono ?_; rintro e w2 ⟨rfl, hb2⟩; obtain ⟨⟨z2, d2, f2⟩, -⟩ := (Own.one hb8).later hb2; have hw2 := hb9.trans hb2; have e0 := HG0.out w2 hw2; have e1 := HG1.out w2 hw2; have zb2 := Nat.lt_of_lt_of_le hzb (Later.size hw2))))
            refine wp_opaque (fun W5 hb5 => ?_)
            have hw5 := hw2.trans hb5
            obtain ⟨⟨z5, d5, f5⟩, -⟩ := ((Own.one hb8).later hb2).later hb5
            clear e0 e1 z2 d2 f2 z8 d8 f8
            have e1 := HG1.out W5 hw5
            have zb5 := Nat.lt_of_lt_of_le hzb (Later.size hw5)
            have p0 := HP0.out W5 hw5
            have p1 := HP1.out W5 hw5
            have zp0 := Nat.lt_of_lt_of_le hb (Later.size hw5)
            have zp1 := Nat.lt_of_lt_of_le hbp (Later.size hw5)
            refine wp_region_plan 18 (.done [0, 1, 2, 3, 4, 5, 6, 7, 8, 9, 10, 11, 12, 13, 14, 15, 16, 17]) (by kernel_rfl) (by kernel_rfl) (fun _ _ d _ _ h => by cases d <;> exact h) ?_
            repeat' (first
              | (refine plan_done (fun K hK => ?_); (first | (simp only [pick_cons, pick_nil, toList_some_append, List.getElem?_toArray, List.getElem?_cons_zero, List.getElem?_cons_succ]; repeat (go_big_quiet_step (fail))) | simp only [pick_nil]); refine wpQuiet_nil (hK _ ?_); clear hK K)
              | ((with_reducible refine at_list ?_); go_wp2_with (fail); first | refine behind_store (t := 18) (by decide) ?_ | refine behind (by repeat (first | with_reducible exact Later.refl _ | with_reducible assumption | with_reducible refine Later.ofdrew ?_ | with_reducible refine Later.ofdrewN ?_ | with_reducible refine Later.alloc ?_ _ | with_reducible refine Later.drewN ?_ _ | with_reducible refine Later.drew ?_ | (with_reducible refine Later.trans ?_ (by assumption)))) ?_))
            all_goals
              go_wp2_with ((go_at_call 24; go_must (refine (HSUM.out _ (by repeat (first | with_reducible exact Later.refl _ | with_reducible assumption | with_reducible refine Later.ofdrew ?_ | with_reducible refine Later.ofdrewN ?_ | with_reducible refine Later.setCell ?_ ?_ _ | with_reducible refine Later.alloc ?_ _ | with_reducible refine Later.drewN ?_ _ | with_reducible refine Later.drew ?_ | (with_reducible refine Later.trans ?_ (by assumption)) | (simp only [World.size_setCell, World.size_alloc, World.heap_drewN]; omega) | (simp; done) | (simp; omega)))).mono ?_; rintro e w6 ⟨rfl, hb6⟩)))
              go_ret
              exact ⟨rfl, by repeat (first | with_reducible exact Later.refl _ | with_reducible assumption | with_reducible refine Later.ofdrew ?_ | with_reducible refine Later.ofdrewN ?_ | with_reducible refine Later.setCell ?_ ?_ _ | with_reducible refine Later.alloc ?_ _ | with_reducible refine Later.drewN ?_ _ | with_reducible refine Later.drew ?_ | (with_reducible refine Later.trans ?_ (by assumption)) | (simp only [World.size_setCell, World.size_alloc, World.heap_drewN]; omega) | (simp; done) | (simp; omega))⟩
      ·
        have hrv : r = 13 := by rw [← hr]; simp [*]
        subst hrv
        clear hr
        go_enter Tryz.func19, Tryz.ntmps19
        go_upto_region 2 with (fail)
        refine wp_opaque (fun W8 hb8 => ?_)
        obtain ⟨⟨z8, d8, f8⟩, -⟩ := Own.one hb8
        have hb9 := hb8.un1
        go_wp2_with ((go_at_call 46; go_must (refine (HCON.out W8 hb9 _ (d8 0)).mono ?_; rintro e w2 ⟨rfl, hb2⟩; obtain ⟨⟨z2, d2, f2⟩, -⟩ := (Own.one hb8).later hb2; have hw2 := hb9.trans hb2; have e0 := HG0.out w2 hw2; have e1 := HG1.out w2 hw2; have zb2 := Nat.lt_of_lt_of_le hzb (Later.size hw2))))
        go_ret
        exact ⟨rfl, by repeat (first | with_reducible exact Later.refl _ | with_reducible assumption | with_reducible refine Later.ofdrew ?_ | with_reducible refine Later.ofdrewN ?_ | with_reducible refine Later.setCell ?_ ?_ _ | with_reducible refine Later.alloc ?_ _ | with_reducible refine Later.drewN ?_ _ | with_reducible refine Later.drew ?_ | (with_reducible refine Later.trans ?_ (by assumption)) | (simp only [World.size_setCell, World.size_alloc, World.heap_drewN]; omega) | (simp; done) | (simp; omega))⟩
    · have hnb : (no != ((k + 1 : Nat) : Int)) = true := by simpa using hno
      have hnc : (no == ((k + 1 : Nat) : Int)) = false := by simpa using hno
      have hrv : r = 13 := by rw [← hr, if_pos (.inl hno)]
      subst hrv
      clear hr
      go_enter Tryz.func19, Tryz.ntmps19
      go_upto_region 2 with (fail)
      refine wp_opaque (fun W8 hb8 => ?_)
      obtain ⟨⟨z8, d8, f8⟩, -⟩ := Own.one hb8
      have hb9 := hb8.un1
      go_wp2_with ((go_at_call 46; go_must (refine (HCON.out W8 hb9 _ (d8 0)).mono ?_; rintro e w2 ⟨rfl, hb2⟩; obtain ⟨⟨z2, d2, f2⟩, -⟩ := (Own.one hb8).later hb2; have hw2 := hb9.trans hb2; have e0 := HG0.out w2 hw2; have e1 := HG1.out w2 hw2; have zb2 := Nat.lt_of_lt_of_le hzb (Later.size hw2))))
      go_ret
      exact ⟨rfl, by repeat (first | with_reducible exact Later.refl _ | with_reducible assumption | with_reducible refine Later.ofdrew ?_ | with_reducible refine Later.ofdrewN ?_ | with_reducible refine Later.setCell ?_ ?_ _ | with_reducible refine Later.alloc ?_ _ | with_reducible refine Later.drewN ?_ _ | with_reducible refine Later.drew ?_ | (with_reducible refine Later.trans ?_ (by assumption)) | (simp only [World.size_setCell, World.size_alloc, World.heap_drewN]; omega) | (simp; done) | (simp; omega))⟩

end Go.Proofs.YtckeaibamgkegaaGreatDoor
end
