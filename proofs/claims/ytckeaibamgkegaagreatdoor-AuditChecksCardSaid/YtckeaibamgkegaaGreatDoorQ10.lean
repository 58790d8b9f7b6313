/- what is wrong with an entry for books -/
import Derived.Test.YtckeaibamgkegaaGreatDoorQ9
set_option linter.all false
set_option linter.all false
section
/- what is wrong with an entry for books -/
namespace Go.Proofs.YtckeaibamgkegaaGreatDoor
open Go.RowKit
set_option maxRecDepth 100000

theorem getA_isSome {κ β : Type} [DecidableEq κ] (l : List (κ × β)) (k : κ) : (getA l k).isSome = l.any (fun p => decide (p.1 = k)) := by
  unfold getA
  rw [Option.isSome_map]
  induction l with
  | nil => rfl
  | cons a t ih =>
    rw [List.find?_cons, List.any_cons]
    by_cases h : a.1 = k
    · simp [h]
    · simp [h, ih]
theorem by_some {es : List En} {r : Int} (hr : r ≠ -1) : (getA (byL es) r).isSome = es.any (fun y => decide (y.ref = r)) := by
  rw [getA_isSome]
  unfold byL
  refine Bool.eq_iff_iff.2 ?_
  rw [List.any_eq_true, List.any_eq_true]
  constructor
  · rintro ⟨p, hp, h⟩
    obtain ⟨⟨y, i⟩, hy, h2⟩ := List.mem_filterMap.1 hp
    simp only at h2
    by_cases e : y.ref = -1
    · rw [if_pos e] at h2; cases h2
    · rw [if_neg e] at h2
      cases h2
      exact ⟨y, (List.mem_zipIdx hy).2.2 ▸ List.getElem_mem _, h⟩
  · rintro ⟨y, hy, h⟩
    obtain ⟨i, hi, rfl⟩ := List.getElem_of_mem hy
    have h := of_decide_eq_true h
    refine ⟨(es[i].ref, (i : Int)), List.mem_filterMap.2 ⟨(es[i], i), ?_, ?_⟩, by simp [h]⟩
    · rw [List.mk_mem_zipIdx_iff_getElem?, List.getElem?_eq_getElem hi]
    · simp only; rw [if_neg (by rw [h]; exact hr)]


set_option maxHeartbeats 1600000 in
theorem lcheck_any (con day cur seq per ref : Int) (u : Value) (ls : List Ln) (hlen : ls.length ≤ 100000) (hwd : ∀ y ∈ ls, y.ok) (q : Nat) (es : List En) (hel : es.length ≤ 100000) (hew : ∀ y ∈ es, y.ok) (hri : I64 ref) (w : World) (hN : IsLines w u ls) (hL : Led w q es) (hR : RulesAt w) :
    Calls Tryz.prog 40 #[.pointer (some ⟨q, 0, none⟩), .agg #[.int .i64 con, .int .i64 day, .int .i64 cur, .int .i64 seq, .int .i64 per, .int .i64 ref, u]] w fun e w' => e = .returned (.int .i64 (chkE es ⟨con, day, cur, seq, per, ref, ls⟩)) ∧ Later w w' := by
  have hlen' := hlen
  have HC := Lib.hid (fun W (hl : Later w W) => check_any con day cur seq per ref u ls hlen W (IsRow.later hN hl) hwd (hR.later hl))
  obtain ⟨v, m, hbk, hrow, hby⟩ := hL
  have HL := Lib.hid (fun W (hl : Later w W) => Led.later ⟨v, m, hbk, hrow, hby⟩ hl)
  have HK := Lib.hid (fun W (hl : Later w W) => hbk.later hl)
  have HB := Lib.hid (fun W (hl : Later w W) => by_lookup (MapL.later hby hl) hri)
  have HNW := Lib.hid (fun W (hl : Later w W) => IsRow.later hN hl)
  obtain ⟨r, hr⟩ : ∃ r, chkE es ⟨con, day, cur, seq, per, ref, ls⟩ = r := ⟨_, rfl⟩
  rw [hr]
  have zq := hbk.lt
  clear hbk hrow hby hR
  obtain ⟨p, cp, rfl⟩ := hN.form
  clear hN hlen hwd
  unfold chkE at hr
  simp only at hr
  by_cases h0 : entryE ⟨con, day, cur, seq, per, ref, ls⟩ = 0
  · rw [h0] at HC
    rw [if_neg (by simpa using h0)] at hr
    by_cases h1 : ref = -1
    · subst h1
      rw [if_pos rfl] at hr
      subst hr
      clear HL HB HNW h0
      go_enter Tryz.func40, Tryz.ntmps40
      go_upto_region 1 with (fail)
      refine wp_opaque (fun w0 hb0 => ?_)
      have hO := Own.one hb0
      have hO0 := hO
      obtain ⟨⟨z1, d1, f1⟩, -⟩ := hO0
      have hb1 := hb0.un1
      clear hb0
      go_wp2_with (first | (go_at_call 63; go_must (refine (HC.out _ (by repeat (first | with_reducible exact Later.refl _ | with_reducible assumption | with_reducible refine Later.ofdrew ?_ | with_reducible refine Later.ofdrewN ?_ | with_reducible refine Later.setCell ?_ ?_ _ | with_reducible refine Later.alloc ?_ _ | with_reducible refine Later.drewN ?_ _ | with_reducible refine Later.drew ?_ | (with_reducible refine Later.trans ?_ (by assumption)) | (simp only [World.size_setCell, World.size_alloc, World.heap_drewN]; omega) | (simp; done) | (simp; omega)))).mono ?_; rintro e w2 ⟨rfl, hb2⟩; clear z1 d1 f1; obtain ⟨⟨z1, d1, f1⟩, -⟩ := hO.later hb2; have c1 := (HK.out w2 (by repeat (first | with_reducible exact Later.refl _ | with_reducible assumption | with_reducible refine Later.ofdrew ?_ | with_reducible refine Later.ofdrewN ?_ | with_reducible refine Later.setCell ?_ ?_ _ | with_reducible refine Later.alloc ?_ _ | with_reducible refine Later.drewN ?_ _ | with_reducible refine Later.drew ?_ | (with_reducible refine Later.trans ?_ (by assumption)) | (simp only [World.size_setCell, World.size_alloc, World.heap_drewN]; omega) | (simp; done) | (simp; omega)))).c1)))
      go_ret
      exact ⟨rfl, by repeat (first | with_reducible exact Later.refl _ | with_reducible assumption | with_reducible refine Later.ofdrew ?_ | with_reducible refine Later.ofdrewN ?_ | with_reducible refine Later.setCell ?_ ?_ _ | with_reducible refine Later.alloc ?_ _ | with_reducible refine Later.drewN ?_ _ | with_reducible refine Later.drew ?_ | (with_reducible refine Later.trans ?_ (by assumption)) | (simp only [World.size_setCell, World.size_alloc, World.heap_drewN]; omega) | (simp; done) | (simp; omega))⟩
    · rw [if_neg h1] at hr
      have hra := (entryE_ok.1 h0).1
      unfold rangesB at hra
      simp only [Bool.and_eq_true, decide_eq_true_eq] at hra
      have hr0 : 0 ≤ ref := by omega
      have hsm := by_some (es := es) h1
      obtain ⟨n, hn⟩ : ∃ n : Nat, ref = n := ⟨ref.toNat, by omega⟩
      subst hn
      rw [Int.toNat_natCast] at hr
      have hq1 : ((n : Int) == -1) = false := by simpa using h1
      clear h0 hra hr0 h1
      cases hx : es[n]? with
      | none =>
        rw [hx] at hr
        simp only at hr
        subst hr
        have HE := Lib.hid (fun W (hl : Later w W) => entry_none n q es hel W (HL.out W hl) (.inr (by have := List.getElem?_eq_none_iff.1 hx; omega)))
        clear hsm hx hew hel HL HNW
        go_enter Tryz.func40, Tryz.ntmps40
        go_upto_region 1 with (fail)
        refine wp_opaque (fun w0 hb0 => ?_)
        have hO := Own.one hb0
        have hO0 := hO
        obtain ⟨⟨z1, d1, f1⟩, -⟩ := hO0
        have hb1 := hb0.un1
        clear hb0
        go_upto_region 7 with (first | (go_at_call 63; go_must (refine (HC.out _ (by repeat (first | with_reducible exact Later.refl _ | with_reducible assumption | with_reducible refine Later.ofdrew ?_ | with_reducible refine Later.ofdrewN ?_ | with_reducible refine Later.setCell ?_ ?_ _ | with_reducible refine Later.alloc ?_ _ | with_reducible refine Later.drewN ?_ _ | with_reducible refine Later.drew ?_ | (with_reducible refine Later.trans ?_ (by assumption)) | (simp only [World.size_setCell, World.size_alloc, World.heap_drewN]; omega) | (simp; done) | (simp; omega)))).mono ?_; rintro e w2 ⟨rfl, hb2⟩; clear z1 d1 f1; obtain ⟨⟨z1, d1, f1⟩, -⟩ := hO.later hb2; have c1 := (HK.out w2 (by repeat (first | with_reducible exact Later.refl _ | with_reducible assumption | with_reducible refine Later.ofdrew ?_ | with_reducible refine Later.ofdrewN ?_ | with_reducible refine Later.setCell ?_ ?_ _ | with_reducible refine Later.alloc ?_ _ | with_reducible refine Later.drewN ?_ _ | with_reducible refine Later.drew ?_ | (with_reducible refine Later.trans ?_ (by assumption)) | (simp only [World.size_setCell, World.size_alloc, World.heap_drewN]; omega) | (simp; done) | (simp; omega)))).c1)) | (go_at_call 64; go_must (refine (HE.out _ (by repeat (first | with_reducible exact Later.refl _ | with_reducible assumption | with_reducible refine Later.ofdrew ?_ | with_reducible refine Later.ofdrewN ?_ | with_reducible refine Later.setCell ?_ ?_ _ | with_reducible refine Later.alloc ?_ _ | with_reducible refine Later.drewN ?_ _ | with_reducible refine Later.drew ?_ | (with_reducible refine Later.trans ?_ (by assumption)) | (simp only [World.size_setCell, World.size_alloc, World.heap_drewN]; omega) | (simp; done) | (simp; omega)))).mono ?_; rintro e w3 ⟨rfl, hb3⟩; clear z1 d1 f1 c1; obtain ⟨⟨z1, d1, f1⟩, -⟩ := hO.later (hb2.trans hb3); have c1 := (HK.out w3 (by repeat (first | with_reducible exact Later.refl _ | with_reducible assumption | with_reducible refine Later.ofdrew ?_ | with_reducible refine Later.ofdrewN ?_ | with_reducible refine Later.setCell ?_ ?_ _ | with_reducible refine Later.alloc ?_ _ | with_reducible refine Later.drewN ?_ _ | with_reducible refine Later.drew ?_ | (with_reducible refine Later.trans ?_ (by assumption)) | (simp only [World.size_setCell, World.size_alloc, World.heap_drewN]; omega) | (simp; done) | (simp; omega)))).c1)))
        refine wp_opaque (fun w4 hb4 => ?_)
        obtain ⟨⟨z2, d2, f2⟩, -⟩ := Own.one hb4
        clear z1 d1 f1 c1
        obtain ⟨⟨z1, d1, f1⟩, -⟩ := hO.later ((show Later w0 w3 by repeat (first | with_reducible exact Later.refl _ | with_reducible assumption | with_reducible refine Later.ofdrew ?_ | with_reducible refine Later.ofdrewN ?_ | with_reducible refine Later.setCell ?_ ?_ _ | with_reducible refine Later.alloc ?_ _ | with_reducible refine Later.drewN ?_ _ | with_reducible refine Later.drew ?_ | (with_reducible refine Later.trans ?_ (by assumption)) | (simp only [World.size_setCell, World.size_alloc, World.heap_drewN]; omega) | (simp; done) | (simp; omega))).trans hb4.un1)
        have hbw := (show Later w w3 by repeat (first | with_reducible exact Later.refl _ | with_reducible assumption | with_reducible refine Later.ofdrew ?_ | with_reducible refine Later.ofdrewN ?_ | with_reducible refine Later.setCell ?_ ?_ _ | with_reducible refine Later.alloc ?_ _ | with_reducible refine Later.drewN ?_ _ | with_reducible refine Later.drew ?_ | (with_reducible refine Later.trans ?_ (by assumption)) | (simp only [World.size_setCell, World.size_alloc, World.heap_drewN]; omega) | (simp; done) | (simp; omega))).trans hb4.un1
        have c1 := (HK.out w4 hbw).c1
        have zq4 := Nat.lt_of_lt_of_le zq (Later.size hbw)
        have HBW := fun U => HB.out (after w4.drew U) ((show Later w w4.drew by repeat (first | with_reducible exact Later.refl _ | with_reducible assumption | with_reducible refine Later.ofdrew ?_ | with_reducible refine Later.ofdrewN ?_ | with_reducible refine Later.setCell ?_ ?_ _ | with_reducible refine Later.alloc ?_ _ | with_reducible refine Later.drewN ?_ _ | with_reducible refine Later.drew ?_ | (with_reducible refine Later.trans ?_ (by assumption)) | (simp only [World.size_setCell, World.size_alloc, World.heap_drewN]; omega) | (simp; done) | (simp; omega))).trans (after_later _ _))
        clear hb1 hb2 hb3 hO HB hb4
        refine wp_region_plan 12 (.one [0, 4, 5] 1 (.done [2, 3, 6, 7, 8, 9, 10, 11])) (by kernel_rfl) (by kernel_rfl) (fun _ _ d _ _ h => by cases d <;> exact h) ?_
        repeat' (first
          | (refine plan_done (fun K hK => ?_); (first | (simp only [pick_cons, pick_nil, toList_some_append, List.getElem?_toArray, List.getElem?_cons_zero, List.getElem?_cons_succ]; repeat (go_big_quiet_step (fail))) | simp only [pick_nil]); refine wpQuiet_nil (hK _ ?_); clear hK K)
          | (refine plan_one (by rfl) (fun K hK => ?_); (first | (simp only [pick_cons, pick_nil, toList_some_append, List.getElem?_toArray, List.getElem?_cons_zero, List.getElem?_cons_succ]; repeat (go_big_quiet_step (fail))) | simp only [pick_nil]); refine wpQuiet_nil (hK _ ?_); clear hK K)
          | ((with_reducible refine at_list ?_); go_wp2_with (fail); first | refine behind_store (t := 12) (by decide) ?_ | refine behind (by repeat (first | with_reducible exact Later.refl _ | with_reducible assumption | with_reducible refine Later.ofdrew ?_ | with_reducible refine Later.ofdrewN ?_ | with_reducible refine Later.alloc ?_ _ | with_reducible refine Later.drewN ?_ _ | with_reducible refine Later.drew ?_ | (with_reducible refine Later.trans ?_ (by assumption)))) ?_))
        go_wp2
        go_ret
        exact ⟨rfl, by repeat (first | with_reducible exact Later.refl _ | with_reducible assumption | with_reducible refine Later.ofdrew ?_ | with_reducible refine Later.ofdrewN ?_ | with_reducible refine Later.setCell ?_ ?_ _ | with_reducible refine Later.alloc ?_ _ | with_reducible refine Later.drewN ?_ _ | with_reducible refine Later.drew ?_ | (with_reducible refine Later.trans ?_ (by assumption)) | (simp only [World.size_setCell, World.size_alloc, World.heap_drewN]; omega) | (simp; done) | (simp; omega))⟩
      | some old =>
        have hol : old ∈ es := List.mem_of_getElem? hx
        have how := hew old hol
        have HE := Lib.hid (fun W (hl : Later w W) => entry_any n old q es hel W (HL.out W hl) hx how.2.2.2.2.2.2.2)
        rw [hx] at hr
        simp only at hr
        clear hx hew hel HL hol
        generalize (getA (byL es) (n : Int)).getD 0 = gd at *
        rw [hsm] at HB
        generalize es.any _ = bt at *
        clear hsm
        have how := Lib.hid how
        obtain ⟨ocon, oday, ocur, oseq, oper, oref, ols⟩ := old
        simp only at hr HE
        have HM := Lib.hid (fun (v : Value) W (hl : Later w W) (hv : IsLines W v ols) => mirrors_any ocon oday ocur oseq oper oref v ols con day cur seq per n (.slice p ls.length cp) ls how.out.2.2.2.2.2.2.2 hlen' W hv (HNW.out W hl))
        generalize mirE _ _ = bm at *
        cases bt with
        | true =>
          simp only [if_true] at hr
          subst hr
          clear HM how
          go_enter Tryz.func40, Tryz.ntmps40
          go_upto_region 1 with (fail)
          refine wp_opaque (fun w0 hb0 => ?_)
          have hO := Own.one hb0
          have hO0 := hO
          obtain ⟨⟨z1, d1, f1⟩, -⟩ := hO0
          have hb1 := hb0.un1
          clear hb0
          go_upto_region 7 with (first | (go_at_call 63; go_must (refine (HC.out _ (by repeat (first | with_reducible exact Later.refl _ | with_reducible assumption | with_reducible refine Later.ofdrew ?_ | with_reducible refine Later.ofdrewN ?_ | with_reducible refine Later.setCell ?_ ?_ _ | with_reducible refine Later.alloc ?_ _ | with_reducible refine Later.drewN ?_ _ | with_reducible refine Later.drew ?_ | (with_reducible refine Later.trans ?_ (by assumption)) | (simp only [World.size_setCell, World.size_alloc, World.heap_drewN]; omega) | (simp; done) | (simp; omega)))).mono ?_; rintro e w2 ⟨rfl, hb2⟩; clear z1 d1 f1; obtain ⟨⟨z1, d1, f1⟩, -⟩ := hO.later hb2; have c1 := (HK.out w2 (by repeat (first | with_reducible exact Later.refl _ | with_reducible assumption | with_reducible refine Later.ofdrew ?_ | with_reducible refine Later.ofdrewN ?_ | with_reducible refine Later.setCell ?_ ?_ _ | with_reducible refine Later.alloc ?_ _ | with_reducible refine Later.drewN ?_ _ | with_reducible refine Later.drew ?_ | (with_reducible refine Later.trans ?_ (by assumption)) | (simp only [World.size_setCell, World.size_alloc, World.heap_drewN]; omega) | (simp; done) | (simp; omega)))).c1)) | (go_at_call 64; go_must (refine (HE.out _ (by repeat (first | with_reducible exact Later.refl _ | with_reducible assumption | with_reducible refine Later.ofdrew ?_ | with_reducible refine Later.ofdrewN ?_ | with_reducible refine Later.setCell ?_ ?_ _ | with_reducible refine Later.alloc ?_ _ | with_reducible refine Later.drewN ?_ _ | with_reducible refine Later.drew ?_ | (with_reducible refine Later.trans ?_ (by assumption)) | (simp only [World.size_setCell, World.size_alloc, World.heap_drewN]; omega) | (simp; done) | (simp; omega)))).mono ?_; rintro e w3 ⟨v3, rfl, hR3, -, hb3⟩; obtain ⟨p3, cp3, rfl⟩ := hR3.1.form; clear z1 d1 f1 c1; obtain ⟨⟨z1, d1, f1⟩, -⟩ := hO.later (hb2.trans hb3); have c1 := (HK.out w3 (by repeat (first | with_reducible exact Later.refl _ | with_reducible assumption | with_reducible refine Later.ofdrew ?_ | with_reducible refine Later.ofdrewN ?_ | with_reducible refine Later.setCell ?_ ?_ _ | with_reducible refine Later.alloc ?_ _ | with_reducible refine Later.drewN ?_ _ | with_reducible refine Later.drew ?_ | (with_reducible refine Later.trans ?_ (by assumption)) | (simp only [World.size_setCell, World.size_alloc, World.heap_drewN]; omega) | (simp; done) | (simp; omega)))).c1)))
          refine wp_opaque (fun w4 hb4 => ?_)
          obtain ⟨⟨z2, d2, f2⟩, -⟩ := Own.one hb4
          clear z1 d1 f1 c1
          obtain ⟨⟨z1, d1, f1⟩, -⟩ := hO.later ((show Later w0 w3 by repeat (first | with_reducible exact Later.refl _ | with_reducible assumption | with_reducible refine Later.ofdrew ?_ | with_reducible refine Later.ofdrewN ?_ | with_reducible refine Later.setCell ?_ ?_ _ | with_reducible refine Later.alloc ?_ _ | with_reducible refine Later.drewN ?_ _ | with_reducible refine Later.drew ?_ | (with_reducible refine Later.trans ?_ (by assumption)) | (simp only [World.size_setCell, World.size_alloc, World.heap_drewN]; omega) | (simp; done) | (simp; omega))).trans hb4.un1)
          have hbw := (show Later w w3 by repeat (first | with_reducible exact Later.refl _ | with_reducible assumption | with_reducible refine Later.ofdrew ?_ | with_reducible refine Later.ofdrewN ?_ | with_reducible refine Later.setCell ?_ ?_ _ | with_reducible refine Later.alloc ?_ _ | with_reducible refine Later.drewN ?_ _ | with_reducible refine Later.drew ?_ | (with_reducible refine Later.trans ?_ (by assumption)) | (simp only [World.size_setCell, World.size_alloc, World.heap_drewN]; omega) | (simp; done) | (simp; omega))).trans hb4.un1
          have c1 := (HK.out w4 hbw).c1
          have zq4 := Nat.lt_of_lt_of_le zq (Later.size hbw)
          have HBW := fun U => HB.out (after w4.drew U) ((show Later w w4.drew by repeat (first | with_reducible exact Later.refl _ | with_reducible assumption | with_reducible refine Later.ofdrew ?_ | with_reducible refine Later.ofdrewN ?_ | with_reducible refine Later.setCell ?_ ?_ _ | with_reducible refine Later.alloc ?_ _ | with_reducible refine Later.drewN ?_ _ | with_reducible refine Later.drew ?_ | (with_reducible refine Later.trans ?_ (by assumption)) | (simp only [World.size_setCell, World.size_alloc, World.heap_drewN]; omega) | (simp; done) | (simp; omega))).trans (after_later _ _))
          clear hb1 hb2 hb3 hO HB hb4
          refine wp_region_plan 12 (.one [0, 4, 5] 1 (.done [2, 3, 6, 7, 8, 9, 10, 11])) (by kernel_rfl) (by kernel_rfl) (fun _ _ d _ _ h => by cases d <;> exact h) ?_
          repeat' (first
            | (refine plan_done (fun K hK => ?_); (first | (simp only [pick_cons, pick_nil, toList_some_append, List.getElem?_toArray, List.getElem?_cons_zero, List.getElem?_cons_succ]; repeat (go_big_quiet_step (fail))) | simp only [pick_nil]); refine wpQuiet_nil (hK _ ?_); clear hK K)
            | (refine plan_one (by rfl) (fun K hK => ?_); (first | (simp only [pick_cons, pick_nil, toList_some_append, List.getElem?_toArray, List.getElem?_cons_zero, List.getElem?_cons_succ]; repeat (go_big_quiet_step (fail))) | simp only [pick_nil]); refine wpQuiet_nil (hK _ ?_); clear hK K)
            | ((with_reducible refine at_list ?_); go_wp2_with (fail); first | refine behind_store (t := 12) (by decide) ?_ | refine behind (by repeat (first | with_reducible exact Later.refl _ | with_reducible assumption | with_reducible refine Later.ofdrew ?_ | with_reducible refine Later.ofdrewN ?_ | with_reducible refine Later.alloc ?_ _ | with_reducible refine Later.drewN ?_ _ | with_reducible refine Later.drew ?_ | (with_reducible refine Later.trans ?_ (by assumption)))) ?_))
          go_wp2
          go_ret
          exact ⟨rfl, by repeat (first | with_reducible exact Later.refl _ | with_reducible assumption | with_reducible refine Later.ofdrew ?_ | with_reducible refine Later.ofdrewN ?_ | with_reducible refine Later.setCell ?_ ?_ _ | with_reducible refine Later.alloc ?_ _ | with_reducible refine Later.drewN ?_ _ | with_reducible refine Later.drew ?_ | (with_reducible refine Later.trans ?_ (by assumption)) | (simp only [World.size_setCell, World.size_alloc, World.heap_drewN]; omega) | (simp; done) | (simp; omega))⟩
        | false =>
          simp only [Bool.false_eq_true, if_false] at hr
          by_cases h2 : oref = -1
          · subst h2
            simp only [ne_eq, not_true_eq_false, if_false] at hr
            cases bm with
            | false =>
              simp only [if_true] at hr
              subst hr
              go_enter Tryz.func40, Tryz.ntmps40
              go_upto_region 1 with (fail)
              refine wp_opaque (fun w0 hb0 => ?_)
              have hO := Own.one hb0
              have hO0 := hO
              obtain ⟨⟨z1, d1, f1⟩, -⟩ := hO0
              have hb1 := hb0.un1
              clear hb0
              go_upto_region 7 with (first | (go_at_call 63; go_must (refine (HC.out _ (by repeat (first | with_reducible exact Later.refl _ | with_reducible assumption | with_reducible refine Later.ofdrew ?_ | with_reducible refine Later.ofdrewN ?_ | with_reducible refine Later.setCell ?_ ?_ _ | with_reducible refine Later.alloc ?_ _ | with_reducible refine Later.drewN ?_ _ | with_reducible refine Later.drew ?_ | (with_reducible refine Later.trans ?_ (by assumption)) | (simp only [World.size_setCell, World.size_alloc, World.heap_drewN]; omega) | (simp; done) | (simp; omega)))).mono ?_; rintro e w2 ⟨rfl, hb2⟩; clear z1 d1 f1; obtain ⟨⟨z1, d1, f1⟩, -⟩ := hO.later hb2; have c1 := (HK.out w2 (by repeat (first | with_reducible exact Later.refl _ | with_reducible assumption | with_reducible refine Later.ofdrew ?_ | with_reducible refine Later.ofdrewN ?_ | with_reducible refine Later.setCell ?_ ?_ _ | with_reducible refine Later.alloc ?_ _ | with_reducible refine Later.drewN ?_ _ | with_reducible refine Later.drew ?_ | (with_reducible refine Later.trans ?_ (by assumption)) | (simp only [World.size_setCell, World.size_alloc, World.heap_drewN]; omega) | (simp; done) | (simp; omega)))).c1)) | (go_at_call 64; go_must (refine (HE.out _ (by repeat (first | with_reducible exact Later.refl _ | with_reducible assumption | with_reducible refine Later.ofdrew ?_ | with_reducible refine Later.ofdrewN ?_ | with_reducible refine Later.setCell ?_ ?_ _ | with_reducible refine Later.alloc ?_ _ | with_reducible refine Later.drewN ?_ _ | with_reducible refine Later.drew ?_ | (with_reducible refine Later.trans ?_ (by assumption)) | (simp only [World.size_setCell, World.size_alloc, World.heap_drewN]; omega) | (simp; done) | (simp; omega)))).mono ?_; rintro e w3 ⟨v3, rfl, hR3, -, hb3⟩; obtain ⟨p3, cp3, rfl⟩ := hR3.1.form; clear z1 d1 f1 c1; obtain ⟨⟨z1, d1, f1⟩, -⟩ := hO.later (hb2.trans hb3); have c1 := (HK.out w3 (by repeat (first | with_reducible exact Later.refl _ | with_reducible assumption | with_reducible refine Later.ofdrew ?_ | with_reducible refine Later.ofdrewN ?_ | with_reducible refine Later.setCell ?_ ?_ _ | with_reducible refine Later.alloc ?_ _ | with_reducible refine Later.drewN ?_ _ | with_reducible refine Later.drew ?_ | (with_reducible refine Later.trans ?_ (by assumption)) | (simp only [World.size_setCell, World.size_alloc, World.heap_drewN]; omega) | (simp; done) | (simp; omega)))).c1)))
              refine wp_opaque (fun w4 hb4 => ?_)
              obtain ⟨⟨z2, d2, f2⟩, -⟩ := Own.one hb4
              have hR4 := hR3.1.later hb4.un1
              clear z1 d1 f1 c1
              obtain ⟨⟨z1, d1, f1⟩, -⟩ := hO.later ((show Later w0 w3 by repeat (first | with_reducible exact Later.refl _ | with_reducible assumption | with_reducible refine Later.ofdrew ?_ | with_reducible refine Later.ofdrewN ?_ | with_reducible refine Later.setCell ?_ ?_ _ | with_reducible refine Later.alloc ?_ _ | with_reducible refine Later.drewN ?_ _ | with_reducible refine Later.drew ?_ | (with_reducible refine Later.trans ?_ (by assumption)) | (simp only [World.size_setCell, World.size_alloc, World.heap_drewN]; omega) | (simp; done) | (simp; omega))).trans hb4.un1)
              have hbw := (show Later w w3 by repeat (first | with_reducible exact Later.refl _ | with_reducible assumption | with_reducible refine Later.ofdrew ?_ | with_reducible refine Later.ofdrewN ?_ | with_reducible refine Later.setCell ?_ ?_ _ | with_reducible refine Later.alloc ?_ _ | with_reducible refine Later.drewN ?_ _ | with_reducible refine Later.drew ?_ | (with_reducible refine Later.trans ?_ (by assumption)) | (simp only [World.size_setCell, World.size_alloc, World.heap_drewN]; omega) | (simp; done) | (simp; omega))).trans hb4.un1
              have c1 := (HK.out w4 hbw).c1
              have zq4 := Nat.lt_of_lt_of_le zq (Later.size hbw)
              have HBW := fun U => HB.out (after w4.drew U) ((show Later w w4.drew by repeat (first | with_reducible exact Later.refl _ | with_reducible assumption | with_reducible refine Later.ofdrew ?_ | with_reducible refine Later.ofdrewN ?_ | with_reducible refine Later.setCell ?_ ?_ _ | with_reducible refine Later.alloc ?_ _ | with_reducible refine Later.drewN ?_ _ | with_reducible refine Later.drew ?_ | (with_reducible refine Later.trans ?_ (by assumption)) | (simp only [World.size_setCell, World.size_alloc, World.heap_drewN]; omega) | (simp; done) | (simp; omega))).trans (after_later _ _))
              clear hb1 hb2 hb3 hO HB hb4
              refine wp_region_plan 12 (.one [0, 4, 5] 1 (.done [2, 3, 6, 7, 8, 9, 10, 11])) (by kernel_rfl) (by kernel_rfl) (fun _ _ d _ _ h => by cases d <;> exact h) ?_
              repeat' (first
                | (refine plan_done (fun K hK => ?_); (first | (simp only [pick_cons, pick_nil, toList_some_append, List.getElem?_toArray, List.getElem?_cons_zero, List.getElem?_cons_succ]; repeat (go_big_quiet_step (fail))) | simp only [pick_nil]); refine wpQuiet_nil (hK _ ?_); clear hK K)
                | (refine plan_one (by rfl) (fun K hK => ?_); (first | (simp only [pick_cons, pick_nil, toList_some_append, List.getElem?_toArray, List.getElem?_cons_zero, List.getElem?_cons_succ]; repeat (go_big_quiet_step (fail))) | simp only [pick_nil]); refine wpQuiet_nil (hK _ ?_); clear hK K)
                | ((with_reducible refine at_list ?_); go_wp2_with (fail); first | refine behind_store (t := 12) (by decide) ?_ | refine behind (by repeat (first | with_reducible exact Later.refl _ | with_reducible assumption | with_reducible refine Later.ofdrew ?_ | with_reducible refine Later.ofdrewN ?_ | with_reducible refine Later.alloc ?_ _ | with_reducible refine Later.drewN ?_ _ | with_reducible refine Later.drew ?_ | (with_reducible refine Later.trans ?_ (by assumption)))) ?_))
              go_wp2_with (go_at_call 65; go_must (refine (HM.out _ _ (by repeat (first | with_reducible exact Later.refl _ | with_reducible assumption | with_reducible refine Later.ofdrew ?_ | with_reducible refine Later.ofdrewN ?_ | with_reducible refine Later.setCell ?_ ?_ _ | with_reducible refine Later.alloc ?_ _ | with_reducible refine Later.drewN ?_ _ | with_reducible refine Later.drew ?_ | (with_reducible refine Later.trans ?_ (by assumption)) | (simp only [World.size_setCell, World.size_alloc, World.heap_drewN]; omega) | (simp; done) | (simp; omega))) (IsRow.later hR4 (by repeat (first | with_reducible exact Later.refl _ | with_reducible assumption | with_reducible refine Later.ofdrew ?_ | with_reducible refine Later.ofdrewN ?_ | with_reducible refine Later.setCell ?_ ?_ _ | with_reducible refine Later.alloc ?_ _ | with_reducible refine Later.drewN ?_ _ | with_reducible refine Later.drew ?_ | (with_reducible refine Later.trans ?_ (by assumption)) | (simp only [World.size_setCell, World.size_alloc, World.heap_drewN]; omega) | (simp; done) | (simp; omega))))).mono ?_; rintro e w5 ⟨rfl, hb5⟩))
              go_ret
              exact ⟨rfl, by repeat (first | with_reducible exact Later.refl _ | with_reducible assumption | with_reducible refine Later.ofdrew ?_ | with_reducible refine Later.ofdrewN ?_ | with_reducible refine Later.setCell ?_ ?_ _ | with_reducible refine Later.alloc ?_ _ | with_reducible refine Later.drewN ?_ _ | with_reducible refine Later.drew ?_ | (with_reducible refine Later.trans ?_ (by assumption)) | (simp only [World.size_setCell, World.size_alloc, World.heap_drewN]; omega) | (simp; done) | (simp; omega))⟩
            | true =>
              simp only [Bool.true_eq_false, if_false] at hr
              subst hr
              go_enter Tryz.func40, Tryz.ntmps40
              go_upto_region 1 with (fail)
              refine wp_opaque (fun w0 hb0 => ?_)
              have hO := Own.one hb0
              have hO0 := hO
              obtain ⟨⟨z1, d1, f1⟩, -⟩ := hO0
              have hb1 := hb0.un1
              clear hb0
              go_upto_region 7 with (first | (go_at_call 63; go_must (refine (HC.out _ (by repeat (first | with_reducible exact Later.refl _ | with_reducible assumption | with_reducible refine Later.ofdrew ?_ | with_reducible refine Later.ofdrewN ?_ | with_reducible refine Later.setCell ?_ ?_ _ | with_reducible refine Later.alloc ?_ _ | with_reducible refine Later.drewN ?_ _ | with_reducible refine Later.drew ?_ | (with_reducible refine Later.trans ?_ (by assumption)) | (simp only [World.size_setCell, World.size_alloc, World.heap_drewN]; omega) | (simp; done) | (simp; omega)))).mono ?_; rintro e w2 ⟨rfl, hb2⟩; clear z1 d1 f1; obtain ⟨⟨z1, d1, f1⟩, -⟩ := hO.later hb2; have c1 := (HK.out w2 (by repeat (first | with_reducible exact Later.refl _ | with_reducible assumption | with_reducible refine Later.ofdrew ?_ | with_reducible refine Later.ofdrewN ?_ | with_reducible refine Later.setCell ?_ ?_ _ | with_reducible refine Later.alloc ?_ _ | with_reducible refine Later.drewN ?_ _ | with_reducible refine Later.drew ?_ | (with_reducible refine Later.trans ?_ (by assumption)) | (simp only [World.size_setCell, World.size_alloc, World.heap_drewN]; omega) | (simp; done) | (simp; omega)))).c1)) | (go_at_call 64; go_must (refine (HE.out _ (by repeat (first | with_reducible exact Later.refl _ | with_reducible assumption | with_reducible refine Later.ofdrew ?_ | with_reducible refine Later.ofdrewN ?_ | with_reducible refine Later.setCell ?_ ?_ _ | with_reducible refine Later.alloc ?_ _ | with_reducible refine Later.drewN ?_ _ | with_reducible refine Later.drew ?_ | (with_reducible refine Later.trans ?_ (by assumption)) | (simp only [World.size_setCell, World.size_alloc, World.heap_drewN]; omega) | (simp; done) | (simp; omega)))).mono ?_; rintro e w3 ⟨v3, rfl, hR3, -, hb3⟩; obtain ⟨p3, cp3, rfl⟩ := hR3.1.form; clear z1 d1 f1 c1; obtain ⟨⟨z1, d1, f1⟩, -⟩ := hO.later (hb2.trans hb3); have c1 := (HK.out w3 (by repeat (first | with_reducible exact Later.refl _ | with_reducible assumption | with_reducible refine Later.ofdrew ?_ | with_reducible refine Later.ofdrewN ?_ | with_reducible refine Later.setCell ?_ ?_ _ | with_reducible refine Later.alloc ?_ _ | with_reducible refine Later.drewN ?_ _ | with_reducible refine Later.drew ?_ | (with_reducible refine Later.trans ?_ (by assumption)) | (simp only [World.size_setCell, World.size_alloc, World.heap_drewN]; omega) | (simp; done) | (simp; omega)))).c1)))
              refine wp_opaque (fun w4 hb4 => ?_)
              obtain ⟨⟨z2, d2, f2⟩, -⟩ := Own.one hb4
              have hR4 := hR3.1.later hb4.un1
              clear z1 d1 f1 c1
              obtain ⟨⟨z1, d1, f1⟩, -⟩ := hO.later ((show Later w0 w3 by repeat (first | with_reducible exact Later.refl _ | with_reducible assumption | with_reducible refine Later.ofdrew ?_ | with_reducible refine Later.ofdrewN ?_ | with_reducible refine Later.setCell ?_ ?_ _ | with_reducible refine Later.alloc ?_ _ | with_reducible refine Later.drewN ?_ _ | with_reducible refine Later.drew ?_ | (with_reducible refine Later.trans ?_ (by assumption)) | (simp only [World.size_setCell, World.size_alloc, World.heap_drewN]; omega) | (simp; done) | (simp; omega))).trans hb4.un1)
              have hbw := (show Later w w3 by repeat (first | with_reducible exact Later.refl _ | with_reducible assumption | with_reducible refine Later.ofdrew ?_ | with_reducible refine Later.ofdrewN ?_ | with_reducible refine Later.setCell ?_ ?_ _ | with_reducible refine Later.alloc ?_ _ | with_reducible refine Later.drewN ?_ _ | with_reducible refine Later.drew ?_ | (with_reducible refine Later.trans ?_ (by assumption)) | (simp only [World.size_setCell, World.size_alloc, World.heap_drewN]; omega) | (simp; done) | (simp; omega))).trans hb4.un1
              have c1 := (HK.out w4 hbw).c1
              have zq4 := Nat.lt_of_lt_of_le zq (Later.size hbw)
              have HBW := fun U => HB.out (after w4.drew U) ((show Later w w4.drew by repeat (first | with_reducible exact Later.refl _ | with_reducible assumption | with_reducible refine Later.ofdrew ?_ | with_reducible refine Later.ofdrewN ?_ | with_reducible refine Later.setCell ?_ ?_ _ | with_reducible refine Later.alloc ?_ _ | with_reducible refine Later.drewN ?_ _ | with_reducible refine Later.drew ?_ | (with_reducible refine Later.trans ?_ (by assumption)) | (simp only [World.size_setCell, World.size_alloc, World.heap_drewN]; omega) | (simp; done) | (simp; omega))).trans (after_later _ _))
              clear hb1 hb2 hb3 hO HB hb4
              refine wp_region_plan 12 (.one [0, 4, 5] 1 (.done [2, 3, 6, 7, 8, 9, 10, 11])) (by kernel_rfl) (by kernel_rfl) (fun _ _ d _ _ h => by cases d <;> exact h) ?_
              repeat' (first
                | (refine plan_done (fun K hK => ?_); (first | (simp only [pick_cons, pick_nil, toList_some_append, List.getElem?_toArray, List.getElem?_cons_zero, List.getElem?_cons_succ]; repeat (go_big_quiet_step (fail))) | simp only [pick_nil]); refine wpQuiet_nil (hK _ ?_); clear hK K)
                | (refine plan_one (by rfl) (fun K hK => ?_); (first | (simp only [pick_cons, pick_nil, toList_some_append, List.getElem?_toArray, List.getElem?_cons_zero, List.getElem?_cons_succ]; repeat (go_big_quiet_step (fail))) | simp only [pick_nil]); refine wpQuiet_nil (hK _ ?_); clear hK K)
                | ((with_reducible refine at_list ?_); go_wp2_with (fail); first | refine behind_store (t := 12) (by decide) ?_ | refine behind (by repeat (first | with_reducible exact Later.refl _ | with_reducible assumption | with_reducible refine Later.ofdrew ?_ | with_reducible refine Later.ofdrewN ?_ | with_reducible refine Later.alloc ?_ _ | with_reducible refine Later.drewN ?_ _ | with_reducible refine Later.drew ?_ | (with_reducible refine Later.trans ?_ (by assumption)))) ?_))
              go_wp2_with (go_at_call 65; go_must (refine (HM.out _ _ (by repeat (first | with_reducible exact Later.refl _ | with_reducible assumption | with_reducible refine Later.ofdrew ?_ | with_reducible refine Later.ofdrewN ?_ | with_reducible refine Later.setCell ?_ ?_ _ | with_reducible refine Later.alloc ?_ _ | with_reducible refine Later.drewN ?_ _ | with_reducible refine Later.drew ?_ | (with_reducible refine Later.trans ?_ (by assumption)) | (simp only [World.size_setCell, World.size_alloc, World.heap_drewN]; omega) | (simp; done) | (simp; omega))) (IsRow.later hR4 (by repeat (first | with_reducible exact Later.refl _ | with_reducible assumption | with_reducible refine Later.ofdrew ?_ | with_reducible refine Later.ofdrewN ?_ | with_reducible refine Later.setCell ?_ ?_ _ | with_reducible refine Later.alloc ?_ _ | with_reducible refine Later.drewN ?_ _ | with_reducible refine Later.drew ?_ | (with_reducible refine Later.trans ?_ (by assumption)) | (simp only [World.size_setCell, World.size_alloc, World.heap_drewN]; omega) | (simp; done) | (simp; omega))))).mono ?_; rintro e w5 ⟨rfl, hb5⟩))
              go_ret
              exact ⟨rfl, by repeat (first | with_reducible exact Later.refl _ | with_reducible assumption | with_reducible refine Later.ofdrew ?_ | with_reducible refine Later.ofdrewN ?_ | with_reducible refine Later.setCell ?_ ?_ _ | with_reducible refine Later.alloc ?_ _ | with_reducible refine Later.drewN ?_ _ | with_reducible refine Later.drew ?_ | (with_reducible refine Later.trans ?_ (by assumption)) | (simp only [World.size_setCell, World.size_alloc, World.heap_drewN]; omega) | (simp; done) | (simp; omega))⟩
          · simp only [ne_eq, h2, not_false_eq_true, if_true] at hr
            subst hr
            have hq2 : (oref == -1) = false := by simpa using h2
            have hq3 : (oref != -1) = true := by simpa using h2
            clear HM how
            go_enter Tryz.func40, Tryz.ntmps40
            go_upto_region 1 with (fail)
            refine wp_opaque (fun w0 hb0 => ?_)
            have hO := Own.one hb0
            have hO0 := hO
            obtain ⟨⟨z1, d1, f1⟩, -⟩ := hO0
            have hb1 := hb0.un1
            clear hb0
            go_upto_region 7 with (first | (go_at_call 63; go_must (refine (HC.out _ (by repeat (first | with_reducible exact Later.refl _ | with_reducible assumption | with_reducible refine Later.ofdrew ?_ | with_reducible refine Later.ofdrewN ?_ | with_reducible refine Later.setCell ?_ ?_ _ | with_reducible refine Later.alloc ?_ _ | with_reducible refine Later.drewN ?_ _ | with_reducible refine Later.drew ?_ | (with_reducible refine Later.trans ?_ (by assumption)) | (simp only [World.size_setCell, World.size_alloc, World.heap_drewN]; omega) | (simp; done) | (simp; omega)))).mono ?_; rintro e w2 ⟨rfl, hb2⟩; clear z1 d1 f1; obtain ⟨⟨z1, d1, f1⟩, -⟩ := hO.later hb2; have c1 := (HK.out w2 (by repeat (first | with_reducible exact Later.refl _ | with_reducible assumption | with_reducible refine Later.ofdrew ?_ | with_reducible refine Later.ofdrewN ?_ | with_reducible refine Later.setCell ?_ ?_ _ | with_reducible refine Later.alloc ?_ _ | with_reducible refine Later.drewN ?_ _ | with_reducible refine Later.drew ?_ | (with_reducible refine Later.trans ?_ (by assumption)) | (simp only [World.size_setCell, World.size_alloc, World.heap_drewN]; omega) | (simp; done) | (simp; omega)))).c1)) | (go_at_call 64; go_must (refine (HE.out _ (by repeat (first | with_reducible exact Later.refl _ | with_reducible assumption | with_reducible refine Later.ofdrew ?_ | with_reducible refine Later.ofdrewN ?_ | with_reducible refine Later.setCell ?_ ?_ _ | with_reducible refine Later.alloc ?_ _ | with_reducible refine Later.drewN ?_ _ | with_reducible refine Later.drew ?_ | (with_reducible refine Later.trans ?_ (by assumption)) | (simp only [World.size_setCell, World.size_alloc, World.heap_drewN]; omega) | (simp; done) | (simp; omega)))).mono ?_; rintro e w3 ⟨v3, rfl, hR3, -, hb3⟩; obtain ⟨p3, cp3, rfl⟩ := hR3.1.form; clear z1 d1 f1 c1; obtain ⟨⟨z1, d1, f1⟩, -⟩ := hO.later (hb2.trans hb3); have c1 := (HK.out w3 (by repeat (first | with_reducible exact Later.refl _ | with_reducible assumption | with_reducible refine Later.ofdrew ?_ | with_reducible refine Later.ofdrewN ?_ | with_reducible refine Later.setCell ?_ ?_ _ | with_reducible refine Later.alloc ?_ _ | with_reducible refine Later.drewN ?_ _ | with_reducible refine Later.drew ?_ | (with_reducible refine Later.trans ?_ (by assumption)) | (simp only [World.size_setCell, World.size_alloc, World.heap_drewN]; omega) | (simp; done) | (simp; omega)))).c1)))
            refine wp_opaque (fun w4 hb4 => ?_)
            obtain ⟨⟨z2, d2, f2⟩, -⟩ := Own.one hb4
            clear z1 d1 f1 c1
            obtain ⟨⟨z1, d1, f1⟩, -⟩ := hO.later ((show Later w0 w3 by repeat (first | with_reducible exact Later.refl _ | with_reducible assumption | with_reducible refine Later.ofdrew ?_ | with_reducible refine Later.ofdrewN ?_ | with_reducible refine Later.setCell ?_ ?_ _ | with_reducible refine Later.alloc ?_ _ | with_reducible refine Later.drewN ?_ _ | with_reducible refine Later.drew ?_ | (with_reducible refine Later.trans ?_ (by assumption)) | (simp only [World.size_setCell, World.size_alloc, World.heap_drewN]; omega) | (simp; done) | (simp; omega))).trans hb4.un1)
            have hbw := (show Later w w3 by repeat (first | with_reducible exact Later.refl _ | with_reducible assumption | with_reducible refine Later.ofdrew ?_ | with_reducible refine Later.ofdrewN ?_ | with_reducible refine Later.setCell ?_ ?_ _ | with_reducible refine Later.alloc ?_ _ | with_reducible refine Later.drewN ?_ _ | with_reducible refine Later.drew ?_ | (with_reducible refine Later.trans ?_ (by assumption)) | (simp only [World.size_setCell, World.size_alloc, World.heap_drewN]; omega) | (simp; done) | (simp; omega))).trans hb4.un1
            have c1 := (HK.out w4 hbw).c1
            have zq4 := Nat.lt_of_lt_of_le zq (Later.size hbw)
            have HBW := fun U => HB.out (after w4.drew U) ((show Later w w4.drew by repeat (first | with_reducible exact Later.refl _ | with_reducible assumption | with_reducible refine Later.ofdrew ?_ | with_reducible refine Later.ofdrewN ?_ | with_reducible refine Later.setCell ?_ ?_ _ | with_reducible refine Later.alloc ?_ _ | with_reducible refine Later.drewN ?_ _ | with_reducible refine Later.drew ?_ | (with_reducible refine Later.trans ?_ (by assumption)) | (simp only [World.size_setCell, World.size_alloc, World.heap_drewN]; omega) | (simp; done) | (simp; omega))).trans (after_later _ _))
            clear hb1 hb2 hb3 hO HB hb4
            refine wp_region_plan 12 (.one [0, 4, 5] 1 (.done [2, 3, 6, 7, 8, 9, 10, 11])) (by kernel_rfl) (by kernel_rfl) (fun _ _ d _ _ h => by cases d <;> exact h) ?_
            repeat' (first
              | (refine plan_done (fun K hK => ?_); (first | (simp only [pick_cons, pick_nil, toList_some_append, List.getElem?_toArray, List.getElem?_cons_zero, List.getElem?_cons_succ]; repeat (go_big_quiet_step (fail))) | simp only [pick_nil]); refine wpQuiet_nil (hK _ ?_); clear hK K)
              | (refine plan_one (by rfl) (fun K hK => ?_); (first | (simp only [pick_cons, pick_nil, toList_some_append, List.getElem?_toArray, List.getElem?_cons_zero, List.getElem?_cons_succ]; repeat (go_big_quiet_step (fail))) | simp only [pick_nil]); refine wpQuiet_nil (hK _ ?_); clear hK K)
              | ((with_reducible refine at_list ?_); go_wp2_with (fail); first | refine behind_store (t := 12) (by decide) ?_ | refine behind (by repeat (first | with_reducible exact Later.refl _ | with_reducible assumption | with_reducible refine Later.ofdrew ?_ | with_reducible refine Later.ofdrewN ?_ | with_reducible refine Later.alloc ?_ _ | with_reducible refine Later.drewN ?_ _ | with_reducible refine Later.drew ?_ | (with_reducible refine Later.trans ?_ (by assumption)))) ?_))
            go_wp2
            go_ret
            exact ⟨rfl, by repeat (first | with_reducible exact Later.refl _ | with_reducible assumption | with_reducible refine Later.ofdrew ?_ | with_reducible refine Later.ofdrewN ?_ | with_reducible refine Later.setCell ?_ ?_ _ | with_reducible refine Later.alloc ?_ _ | with_reducible refine Later.drewN ?_ _ | with_reducible refine Later.drew ?_ | (with_reducible refine Later.trans ?_ (by assumption)) | (simp only [World.size_setCell, World.size_alloc, World.heap_drewN]; omega) | (simp; done) | (simp; omega))⟩
  · rw [if_pos h0] at hr
    subst hr
    have h1 : (entryE ⟨con, day, cur, seq, per, ref, ls⟩ == 0) = false := by simpa using h0
    have h2 : (entryE ⟨con, day, cur, seq, per, ref, ls⟩ != 0) = true := by simpa using h0
    generalize entryE ⟨con, day, cur, seq, per, ref, ls⟩ = ee at *
    clear HL HB HNW h0
    go_enter Tryz.func40, Tryz.ntmps40
    go_upto_region 1 with (fail)
    refine wp_opaque (fun w0 hb0 => ?_)
    have hO := Own.one hb0
    have hO0 := hO
    obtain ⟨⟨z1, d1, f1⟩, -⟩ := hO0
    have hb1 := hb0.un1
    clear hb0
    go_wp2_with (first | (go_at_call 63; go_must (refine (HC.out _ (by repeat (first | with_reducible exact Later.refl _ | with_reducible assumption | with_reducible refine Later.ofdrew ?_ | with_reducible refine Later.ofdrewN ?_ | with_reducible refine Later.setCell ?_ ?_ _ | with_reducible refine Later.alloc ?_ _ | with_reducible refine Later.drewN ?_ _ | with_reducible refine Later.drew ?_ | (with_reducible refine Later.trans ?_ (by assumption)) | (simp only [World.size_setCell, World.size_alloc, World.heap_drewN]; omega) | (simp; done) | (simp; omega)))).mono ?_; rintro e w2 ⟨rfl, hb2⟩; clear z1 d1 f1; obtain ⟨⟨z1, d1, f1⟩, -⟩ := hO.later hb2; have c1 := (HK.out w2 (by repeat (first | with_reducible exact Later.refl _ | with_reducible assumption | with_reducible refine Later.ofdrew ?_ | with_reducible refine Later.ofdrewN ?_ | with_reducible refine Later.setCell ?_ ?_ _ | with_reducible refine Later.alloc ?_ _ | with_reducible refine Later.drewN ?_ _ | with_reducible refine Later.drew ?_ | (with_reducible refine Later.trans ?_ (by assumption)) | (simp only [World.size_setCell, World.size_alloc, World.heap_drewN]; omega) | (simp; done) | (simp; omega)))).c1)))
    go_ret
    exact ⟨rfl, by repeat (first | with_reducible exact Later.refl _ | with_reducible assumption | with_reducible refine Later.ofdrew ?_ | with_reducible refine Later.ofdrewN ?_ | with_reducible refine Later.setCell ?_ ?_ _ | with_reducible refine Later.alloc ?_ _ | with_reducible refine Later.drewN ?_ _ | with_reducible refine Later.drew ?_ | (with_reducible refine Later.trans ?_ (by assumption)) | (simp only [World.size_setCell, World.size_alloc, World.heap_drewN]; omega) | (simp; done) | (simp; omega))⟩

end Go.Proofs.YtckeaibamgkegaaGreatDoor
end
