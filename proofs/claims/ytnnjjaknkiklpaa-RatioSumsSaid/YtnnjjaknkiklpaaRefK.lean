/- walks: chattelref01: Near -/
import Derived.Test.YtnnjjaknkiklpaaRefJ
namespace Go.Proofs.Ytnnjjaknkiklpaa
open Go.RowKit

/-- The nearest whole number of a through b, an even one of two. -/
def nearN (a b : Nat) : Nat := if b < 2 * (a % b) ∨ (2 * (a % b) = b ∧ a / b % 2 = 1) then a / b + 1 else a / b
theorem cmpN_self (n : Nat) : cmpN n n = 0 := by simp [cmpN]
theorem cmpN_gt {n m : Nat} (h : m < n) : cmpN n m = 1 := by unfold cmpN; rw [if_neg (by omega), if_neg (by omega)]
theorem own_split {w : World} {p q : Nat × Array Value} {l : List (Nat × Array Value)} (h : Own w (p :: q :: l)) : Own w [p] ∧ Own w (q :: l) := by
  obtain ⟨b, A⟩ := p
  exact ⟨⟨h.1, trivial⟩, h.2⟩
theorem rof_one (w : World) : Calls Try.prog 21 #[.int .i64 1] w fun e w' => ∃ r, e = .returned r ∧ IsZ w' r 1 ∧ Later w w' := rof_any 1 w (by omega) (by omega)

theorem isZ_nat {w : World} {x : Value} {n : Nat} (h : IsBig w x false n) : IsZ w x (n : Int) := by
  unfold IsZ
  rw [show decide ((n : Int) < 0) = false by simp, Int.natAbs_natCast]; exact h
theorem isBig_nat {w : World} {x : Value} {n : Nat} (h : IsZ w x (n : Int)) : IsBig w x false n := by
  unfold IsZ at h
  rw [show decide ((n : Int) < 0) = false by simp, Int.natAbs_natCast] at h; exact h
theorem at_zero (v : Value) (n L : Nat) (w : World) (h : Row w v n L) (hL : L ≤ 100000) :
    Calls Try.prog 43 #[v, .int .i64 0] w fun e w' => e = .returned (.int .i64 (bit n 0)) ∧ w = w' := at_any v n L 0 w h hL (by omega)

set_option maxHeartbeats 3200000 in
theorem rnear_any (x y : Value) (s t : Bool) (a b : Nat) (w : World) (h : IsBig w x s a) (g : IsBig w y t b) (hL : nlen a ≤ 40000) (hM : nlen b ≤ 40000) (hb : 0 < b) :
    Calls Try.prog 20 #[x, y] w fun e w' => ∃ r, e = .returned r ∧ IsBig w' r (xor s t && decide (0 < nearN a b)) (nearN a b) ∧ Later w w' := by
  obtain ⟨p, cp, rfl, hv⟩ := h.open
  obtain ⟨q, cq, rfl, hu⟩ := g.open
  have hqb := nlen_mono (Nat.div_le_self a b)
  have hrb := nlen_mono (Nat.le_of_lt (Nat.mod_lt a hb))
  have hr2 := nlen_add (a % b) (a % b)
  go_enter Try.func20, Try.ntmps20
  go_upto_region 1 with fail
  refine wp_opaque (fun w0 hb0 => ?_)
  have hO := Own.three hb0
  have hw0 : Later w w0 := hb0.un1.un1.un1
  have hs0 := Later.size hw0
  have hz3 : w.heap.size + 1 + 1 < w0.heap.size := hO.2.2.1.1
  replace h := h.later hw0
  replace g := g.later hw0
  obtain ⟨⟨z0, c0, -⟩, ⟨z1, c1, -⟩, -⟩ := id hO
  clear hv hb0
  go_upto_region 2 with (go_at_call 33; go_must (refine (rparts_any _ _ _ _ a b _ h g (by omega) (by omega) hb).mono ?_; rintro e w1 ⟨qv, rv, rfl, hq, hr, hb1⟩; obtain ⟨pq, kq, eq1, hq1⟩ := hq.open; obtain ⟨pr, kr, er1, hr1⟩ := hr.open; subst eq1; subst er1; clear c0 c1 z0 z1))
  refine wp_opaque (fun w2 hb2 => ?_)
  have hO2 := Own.two hb2
  have hb12 : Later w1 w2 := hb2.un1.un1
  have hO3 := hO.later (hb1.trans hb12)
  have hl2 := (hw0.trans hb1).trans hb12
  have hs1 := Later.size hb1
  replace hq1 := hq1.later hb12
  replace hr1 := hr1.later hb12
  replace hu := (hu.later hw0).later (hb1.trans hb12)
  obtain ⟨⟨z5, c5, f5⟩, ⟨z6, c6, -⟩, -⟩ := id hO2
  obtain ⟨-, ⟨z1, c1, -⟩, -⟩ := id hO3
  clear hb2 hO hq hr h g
  have hcm : ∃ cm, cmpN (a % b + a % b) b = cm := ⟨_, rfl⟩
  obtain ⟨cm, hcm⟩ := hcm
  have HC := Lib.hid hcm
  clear hcm
  have HB := Lib.hid hb
  clear hb
  go_cut [7] (fun s7 wx => s7 = .int .i64 cm ∧ Later w2 wx)
  case first =>
    refine wp_region_plan 9 (.one [0, 1, 2, 3, 5, 6] 4 (.one [] 7 (.done [8]))) (by kernel_rfl) (by kernel_rfl) (fun _ _ d _ _ h => by cases d <;> exact h) ?_
    repeat' (first
      | (refine plan_done (fun K hK => ?_); (first | (simp only [pick_cons, pick_nil, toList_some_append, List.getElem?_toArray, List.getElem?_cons_zero, List.getElem?_cons_succ]; repeat (go_big_quiet_step (fail))) | simp only [pick_nil]); refine wpQuiet_nil (hK _ ?_); clear hK K)
      | (refine plan_one (by rfl) (fun K hK => ?_); (first | (simp only [pick_cons, pick_nil, toList_some_append, List.getElem?_toArray, List.getElem?_cons_zero, List.getElem?_cons_succ]; repeat (go_big_quiet_step (fail))) | simp only [pick_nil]); refine wpQuiet_nil (hK _ ?_); clear hK K)
      | ((with_reducible refine at_list ?_); go_wp2_with (first | (go_at_call 42; go_must (refine (plus_num _ _ _ _ _ (hr1.later (by repeat (first | with_reducible exact Later.refl _ | with_reducible assumption | with_reducible refine Later.ofdrew ?_ | with_reducible refine Later.ofdrewN ?_ | with_reducible refine Later.setCell ?_ ?_ _ | with_reducible refine Later.alloc ?_ _ | with_reducible refine Later.drewN ?_ _ | with_reducible refine Later.drew ?_ | (with_reducible refine Later.trans ?_ (by assumption)) | (simp only [World.size_setCell, World.size_alloc, World.heap_drewN]; omega) | (simp; done) | (simp; omega)))) (hr1.later (by repeat (first | with_reducible exact Later.refl _ | with_reducible assumption | with_reducible refine Later.ofdrew ?_ | with_reducible refine Later.ofdrewN ?_ | with_reducible refine Later.setCell ?_ ?_ _ | with_reducible refine Later.alloc ?_ _ | with_reducible refine Later.drewN ?_ _ | with_reducible refine Later.drew ?_ | (with_reducible refine Later.trans ?_ (by assumption)) | (simp only [World.size_setCell, World.size_alloc, World.heap_drewN]; omega) | (simp; done) | (simp; omega)))) (by omega) (by omega)).mono ?_; rintro e w3 ⟨r, rfl, hr3, hb3⟩; clear c1 c6 z1 z6; obtain ⟨-, ⟨z1, c1, -⟩, -⟩ := hO3.later ((Later.refl _).drew.trans hb3))) | (go_at_call 41; go_must (refine (order_any _ _ _ _ _ hr3 (hu.later (by repeat (first | with_reducible exact Later.refl _ | with_reducible assumption | with_reducible refine Later.ofdrew ?_ | with_reducible refine Later.ofdrewN ?_ | with_reducible refine Later.setCell ?_ ?_ _ | with_reducible refine Later.alloc ?_ _ | with_reducible refine Later.drewN ?_ _ | with_reducible refine Later.drew ?_ | (with_reducible refine Later.trans ?_ (by assumption)) | (simp only [World.size_setCell, World.size_alloc, World.heap_drewN]; omega) | (simp; done) | (simp; omega)))) (by omega) (by omega)).mono ?_; rintro e w4 ⟨rfl, hb4⟩; rw [HC.out]))); first | refine behind_store (t := 9) (by decide) ?_ | refine behind (by repeat (first | with_reducible exact Later.refl _ | with_reducible assumption | with_reducible refine Later.ofdrew ?_ | with_reducible refine Later.ofdrewN ?_ | with_reducible refine Later.alloc ?_ _ | with_reducible refine Later.drewN ?_ _ | with_reducible refine Later.drew ?_ | (with_reducible refine Later.trans ?_ (by assumption)))) ?_))
    go_wp2_with fail
    go_meet
    exact ⟨rfl, by repeat (first | with_reducible exact Later.refl _ | with_reducible assumption | with_reducible refine Later.ofdrew ?_ | with_reducible refine Later.ofdrewN ?_ | with_reducible refine Later.setCell ?_ ?_ _ | with_reducible refine Later.alloc ?_ _ | with_reducible refine Later.drewN ?_ _ | with_reducible refine Later.drew ?_ | (with_reducible refine Later.trans ?_ (by assumption)) | (simp only [World.size_setCell, World.size_alloc, World.heap_drewN]; omega) | (simp; done) | (simp; omega))⟩
  case rest =>
    obtain ⟨rfl, hlat⟩ := hcut
    obtain ⟨wa, rfl⟩ : ∃ wa, wa = wc := ⟨_, rfl⟩
    have hcase : (cm = 1 ∧ nearN a b = a / b + 1) ∨ (cm = 0 ∧ bit (a / b) 0 = 1 ∧ nearN a b = a / b + 1) ∨ (cm = 0 ∧ bit (a / b) 0 = 0 ∧ nearN a b = a / b) ∨ (cm = -1 ∧ nearN a b = a / b) := by
      have hbit : bit (a / b) 0 = ((a / b % 2 : Nat) : Int) := by unfold bit; rw [Nat.pow_zero, Nat.div_one]
      have hC := HC.out
      unfold nearN
      rcases Nat.lt_trichotomy (a % b + a % b) b with hc | hc | hc
      · rw [cmpN_lt hc] at hC
        exact .inr (.inr (.inr ⟨hC.symm, if_neg (by omega)⟩))
      · rw [hc, cmpN_self] at hC
        rcases Nat.mod_two_eq_zero_or_one (a / b) with hp | hp
        · exact .inr (.inr (.inl ⟨hC.symm, by rw [hbit, hp]; rfl, if_neg (by omega)⟩))
        · exact .inr (.inl ⟨hC.symm, by rw [hbit, hp]; rfl, if_pos (by omega)⟩)
      · rw [cmpN_gt hc] at hC
        exact .inl ⟨hC.symm, if_pos (by omega)⟩
    clear HC hr1 c1 c5 c6 f5 z1 z5 z6
    replace hq1 := hq1.later hlat
    obtain ⟨z5, c5, f5⟩ := own_get ((own_split hO2).1.later hlat)
    go_upto_region 3 with fail
    go_cut [33] (fun s33 wx => ∃ up : Bool, s33 = .bool up ∧ nearN a b = (if up then a / b + 1 else a / b) ∧ Later wa wx)
    case first =>
      rcases hcase with ⟨rfl, hN⟩ | ⟨rfl, hbit, hN⟩ | ⟨rfl, hbit, hN⟩ | ⟨rfl, hN⟩
      all_goals
        have HN := Lib.hid hN
        clear hN
        (try have HBT := Lib.hid hbit)
        (try clear hbit)
        go_wp2_with (go_at_call 43; go_must (refine (at_zero _ _ _ _ hq1 (by omega)).mono ?_; rintro e w3 ⟨rfl, rfl⟩; rw [HBT.out]))
        go_meet
        exact ⟨_, rfl, HN.out, Later.refl _⟩
    case rest =>
      obtain ⟨up, rfl, hN, hl3⟩ := hcut
      obtain ⟨wb, rfl⟩ : ∃ wb, wb = wc := ⟨_, rfl⟩
      have HN := Lib.hid hN
      have hslen : nlen (nearN a b) ≤ 50000 := by
        have := nlen_add (a / b) 1
        have e1 : nlen 1 = 1 := rfl
        rw [hN]; split <;> omega
      clear hN hcase c5 z5 f5
      have hlat2 := hlat.trans hl3
      have hlw := hl2.trans hlat2
      have hO3' := hO3.later hlat2
      have hO2' := (own_split hO2).1.later hlat2
      replace hq1 := hq1.later hl3
      have hqZ : IsZ wb (.agg #[.bool false, .slice pq (nlen (a / b)) kq]) ((a / b : Nat) : Int) := isZ_nat ⟨_, rfl, hq1⟩
      obtain ⟨z5, c5, f5⟩ := own_get hO2'
      have hs3 := Later.size hlw
      clear hO2 hO3 hu hl2 hlat hl3 hlat2 hb1 hb12 hw0 HB
      go_upto_if 33 with fail
      go_cut [7] (fun s7 wx => ∃ pk kk, Own wx [(w1.heap.size, #[.bool false, .slice pk (nlen (nearN a b)) kk])] ∧ Num wx (.slice pk (nlen (nearN a b)) kk) (nearN a b) ∧
        Own wx [(w.heap.size, #[.bool s, .slice p (nlen a) cp]), (w.heap.size + 1, #[.bool t, .slice q (nlen b) cq]), (w.heap.size + 1 + 1, #[.bool false, .slice none 0 0])] ∧ Later w wx)
      case first =>
        cases up
        · have hE : nearN a b = a / b := HN.out
          have HE := Lib.hid hE
          clear hE
          go_wp2_with fail
          go_meet
          exact ⟨pq, kq, by rw [HE.out]; exact hO2', by rw [HE.out]; exact hq1, hO3', hlw⟩
        · have hE : nearN a b = a / b + 1 := HN.out
          have HE := Lib.hid hE
          clear hE
          go_upto_region 4 with fail
          refine wp_region_plan 3 (.one [0] 1 (.one [] 2 (.one [] 3 (.done [])))) (by kernel_rfl) (by kernel_rfl) (fun _ _ d _ _ h => by cases d <;> exact h) ?_
          repeat' (first
            | (refine plan_done (fun K hK => ?_); (first | (simp only [pick_cons, pick_nil, toList_some_append, List.getElem?_toArray, List.getElem?_cons_zero, List.getElem?_cons_succ]; repeat (go_big_quiet_step (fail))) | simp only [pick_nil]); refine wpQuiet_nil (hK _ ?_); clear hK K)
            | (refine plan_one (by rfl) (fun K hK => ?_); (first | (simp only [pick_cons, pick_nil, toList_some_append, List.getElem?_toArray, List.getElem?_cons_zero, List.getElem?_cons_succ]; repeat (go_big_quiet_step (fail))) | simp only [pick_nil]); refine wpQuiet_nil (hK _ ?_); clear hK K)
            | ((with_reducible refine at_list ?_); go_wp2_with (first | (go_at_call 21; go_must (refine (rof_one _).mono ?_; rintro e w3 ⟨r, rfl, hr3, hb3⟩; have hO4 := hO2'.later (Later.undrew hb3))) | (go_at_call 44; go_must (refine (radd_any _ _ _ _ _ (hqZ.later (by repeat (first | with_reducible exact Later.refl _ | with_reducible assumption | with_reducible refine Later.ofdrew ?_ | with_reducible refine Later.ofdrewN ?_ | with_reducible refine Later.setCell ?_ ?_ _ | with_reducible refine Later.alloc ?_ _ | with_reducible refine Later.drewN ?_ _ | with_reducible refine Later.drew ?_ | (with_reducible refine Later.trans ?_ (by assumption)) | (simp only [World.size_setCell, World.size_alloc, World.heap_drewN]; omega) | (simp; done) | (simp; omega)))) hr3 (by rw [Int.natAbs_natCast]; omega) (by decide)).mono ?_; rintro e w4 ⟨r, rfl, hr4, hb4⟩; rw [← Int.natCast_one, ← Int.natCast_add] at hr4; obtain ⟨pk, kk, er4, hr5⟩ := (isBig_nat hr4).open; subst er4; clear c5 z5 f5; obtain ⟨z5, c5, f5⟩ := own_get (hO4.later hb4)))); first | refine behind_store (t := 3) (by decide) ?_ | refine behind (by repeat (first | with_reducible exact Later.refl _ | with_reducible assumption | with_reducible refine Later.ofdrew ?_ | with_reducible refine Later.ofdrewN ?_ | with_reducible refine Later.alloc ?_ _ | with_reducible refine Later.drewN ?_ _ | with_reducible refine Later.drew ?_ | (with_reducible refine Later.trans ?_ (by assumption)))) ?_))
          go_wp2_with fail
          go_meet
          have hfar : ∀ z : Nat × Array Value, z ∈ [(w.heap.size, #[Value.bool s, .slice p (nlen a) cp]), (w.heap.size + 1, #[.bool t, .slice q (nlen b) cq]), (w.heap.size + 1 + 1, #[.bool false, .slice none 0 0])] → z.1 ≠ w1.heap.size := by
            intro z hz; simp only [List.mem_cons, List.not_mem_nil, or_false] at hz; rcases hz with rfl | rfl | rfl <;> simp <;> omega
          have hb4' := (Later.undrew hb3).trans hb4
          rw [HE.out]
          exact ⟨pk, kk, own_set2 (Own.cons z5 c5 f5 trivial), hr5.set2 c5, ((hO3'.later hb4').set_far hfar).set_far hfar, ((hlw.trans hb4').putCell (by omega) _).putCell (by omega) _⟩
      case rest =>
        obtain ⟨pk, kk, hO5, hN5, hO6, hl5⟩ := hcut
        obtain ⟨z5, c5, f5⟩ := own_get hO5
        obtain ⟨⟨z0, c0, -⟩, ⟨z1, c1, -⟩, ⟨z2, c2, f2⟩, -⟩ := id hO6
        have key : ∀ r : Bool, r = (xor s t && decide (0 < nlen (nearN a b))) → r = (xor s t && decide (0 < nearN a b)) := by intro r hr; rw [hr]; simp only [nlen_pos]
        have HK := Lib.hid key
        have HN5 := Lib.hid hN5
        have HO5 := Lib.hid hO5
        clear key hO2' hO3' hq1 hqZ HN hr2 hN5 hO5 hO6
        by_cases hpos : 0 < nlen (nearN a b)
        all_goals
          cases s <;> cases t
          all_goals
            go_wp2_with fail
            first
              | (have hx := HK.out false (by simp [hpos])
                 have hN6 := (HN5.out.set (t := false) (i := 0) (x := .bool false) (by rw [c5]; rfl))
                 have hc2 := fun i => set_far (k := 0) c2 (Value.bool false) (show w1.heap.size ≠ w.heap.size + 1 + 1 by omega) i
                 obtain ⟨e0, e1, hI⟩ := big_end (s := false) hc2 hN6
                 exact bodyPost_ret (v := .agg #[.bool false, .slice pk (nlen (nearN a b)) kk]) (by simp [results, Try.results20, go_sem, e0, e1]) rfl ⟨_, rfl, by rw [← hx]; exact hI, ((hl5.putCell (by omega) _).putCell (by omega) _).putCell (by omega) _⟩)
              | (have hx := HK.out true (by simp [hpos])
                 have hN6 := (HN5.out.set (t := false) (i := 0) (x := .bool true) (by rw [c5]; rfl))
                 have hc2 := fun i => set_far (k := 0) c2 (Value.bool true) (show w1.heap.size ≠ w.heap.size + 1 + 1 by omega) i
                 obtain ⟨e0, e1, hI⟩ := big_end (s := true) hc2 hN6
                 exact bodyPost_ret (v := .agg #[.bool true, .slice pk (nlen (nearN a b)) kk]) (by simp [results, Try.results20, go_sem, e0, e1]) rfl ⟨_, rfl, by rw [← hx]; exact hI, ((hl5.putCell (by omega) _).putCell (by omega) _).putCell (by omega) _⟩)
end Go.Proofs.Ytnnjjaknkiklpaa
