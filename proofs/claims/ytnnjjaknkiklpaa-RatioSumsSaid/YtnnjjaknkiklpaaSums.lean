/- RatioSums: its walk -/
import Derived.Test.YtnnjjaknkiklpaaRefO
import Derived.Test.YtnnjjaknkiklpaaRatAwake
import Derived.Test.YtnnjjaknkiklpaaRatTotal
import Derived.Test.YtnnjjaknkiklpaaRegionU
namespace Go.Proofs.Ytnnjjaknkiklpaa
open Go.RowKit

set_option maxRecDepth 100000 in
set_option maxHeartbeats 6400000 in
theorem sums_bad (an ad bn bd E1 E2 E : Int) (w : World)
    (HAdd : Hid (∀ W, Calls Try.prog 17 #[.agg #[.int .i64 an, .int .i64 ad], .agg #[.int .i64 bn, .int .i64 bd]] W fun e w' => e = .returned (.tuple #[.agg #[.int .i64 0, .int .i64 0], .int .i64 E]) ∧ Later W w'))
    (HSub : Hid (∀ W, Calls Try.prog 16 #[.agg #[.int .i64 an, .int .i64 ad], .agg #[.int .i64 bn, .int .i64 bd]] W fun e w' => e = .returned (.tuple #[.agg #[.int .i64 0, .int .i64 0], .int .i64 E]) ∧ Later W w'))
    (HMul : Hid (∀ W, Calls Try.prog 23 #[.agg #[.int .i64 an, .int .i64 ad], .agg #[.int .i64 bn, .int .i64 bd]] W fun e w' => e = .returned (.tuple #[.agg #[.int .i64 0, .int .i64 0], .int .i64 E]) ∧ Later W w'))
    (HDiv : Hid (∀ W, Calls Try.prog 24 #[.agg #[.int .i64 an, .int .i64 ad], .agg #[.int .i64 bn, .int .i64 bd]] W fun e w' => e = .returned (.tuple #[.agg #[.int .i64 0, .int .i64 0], .int .i64 E]) ∧ Later W w'))
    (HC1 : Hid (∀ W, Calls Try.prog 10 #[.agg #[.int .i64 an, .int .i64 ad]] W fun e w' => e = .returned (.int .i64 E1) ∧ Later W w'))
    (HC2 : Hid (∀ W, Calls Try.prog 10 #[.agg #[.int .i64 bn, .int .i64 bd]] W fun e w' => e = .returned (.int .i64 E2) ∧ Later W w'))
    (hE : (E1 = E ∧ E ≠ 0) ∨ (E1 = 0 ∧ E2 = E ∧ E ≠ 0)) :
    Calls Try.prog 6 #[.agg #[.int .i64 an, .int .i64 ad], .agg #[.int .i64 bn, .int .i64 bd]] w fun e w' => e = .returned (.bool true) ∧ Later w w' := by
  have HA := Lib.hid awake_any
  have HE := Lib.hid hE
  clear hE
  go_enter Try.func6, Try.ntmps6
  go_upto_region 2 with (go_at_call 17; go_must (refine (HAdd.out _).mono ?_; rintro e u1 ⟨rfl, hu1⟩))
  refine wp_opaque (fun w1 hw1 => ?_)
  have o5 := Own.one hw1
  have ob := (Own.two hu1).later hw1.un1
  have hl : Later w w1 := hu1.un1.un1.trans hw1.un1
  clear hu1 hw1
  obtain ⟨⟨z2, c2, -⟩, ⟨z3, c3, -⟩, -⟩ := id ob
  go_upto_region 3 with (go_at_call 16; go_must (refine (HSub.out _).mono ?_; rintro e u2 ⟨rfl, hu2⟩))
  refine wp_opaque (fun w2 hw2 => ?_)
  have o7 := Own.one hw2
  have hn2 := hu2.trans hw2.un1
  replace hl := hl.trans hn2
  replace ob := ob.later hn2
  replace o5 := o5.later hn2
  clear c2 c3 z2 z3
  clear hn2
  clear hu2 hw2
  obtain ⟨⟨z2, c2, -⟩, ⟨z3, c3, -⟩, -⟩ := id ob
  go_upto_region 4 with (go_at_call 23; go_must (refine (HMul.out _).mono ?_; rintro e u3 ⟨rfl, hu3⟩))
  refine wp_opaque (fun w3 hw3 => ?_)
  have o9 := Own.one hw3
  have hn3 := hu3.trans hw3.un1
  replace hl := hl.trans hn3
  replace ob := ob.later hn3
  replace o5 := o5.later hn3
  replace o7 := o7.later hn3
  clear c2 c3 z2 z3
  clear hn3
  clear hu3 hw3
  obtain ⟨⟨z2, c2, -⟩, ⟨z3, c3, -⟩, -⟩ := id ob
  go_upto_region 5 with (go_at_call 24; go_must (refine (HDiv.out _).mono ?_; rintro e u4 ⟨rfl, hu4⟩))
  refine wp_opaque (fun w4 hw4 => ?_)
  have o11 := Own.one hw4
  have hn4 := hu4.trans hw4.un1
  replace hl := hl.trans hn4
  replace ob := ob.later hn4
  replace o5 := o5.later hn4
  replace o7 := o7.later hn4
  replace o9 := o9.later hn4
  clear c2 c3 z2 z3
  clear hn4
  clear hu4 hw4
  obtain ⟨⟨z2, c2, -⟩, ⟨z3, c3, -⟩, -⟩ := id ob
  rcases HE.out with ⟨rfl, h0⟩ | ⟨rfl, rfl, h0⟩
  · have he0 : (E1 == 0) = false := by simpa using h0
    have he1 : (E1 != 0) = true := by simpa using h0
    clear h0 HE
    go_wp2_with (first
      | (go_at_call 10; go_must (refine (HC1.out _).mono ?_; rintro e u5 ⟨rfl, hu5⟩; clear c2 c3 z2 z3; obtain ⟨z5, c5, -⟩ := own_get (o5.later hu5); obtain ⟨z7, c7, -⟩ := own_get (o7.later hu5); obtain ⟨z9, c9, -⟩ := own_get (o9.later hu5); obtain ⟨z11, c11, -⟩ := own_get (o11.later hu5)))
      | (go_at_call 11; go_must (refine (HA.out _).mono ?_; rintro e we ⟨rfl, hbe⟩)))
    go_ret
    exact ⟨rfl, (hl.trans hu5).trans hbe.un1⟩
  · have he1 : (E2 != 0) = true := by simpa using h0
    clear h0 HE
    have tok1 : True := trivial
    go_wp2_with (first
      | (go_at_call 10; clear tok1; go_must (refine (HC1.out _).mono ?_; rintro e u5 ⟨rfl, hu5⟩; clear c2 c3 z2 z3; obtain ⟨-, ⟨z3, c3, -⟩, -⟩ := ob.later hu5))
      | (go_at_call 10; go_must (refine (HC2.out _).mono ?_; rintro e u6 ⟨rfl, hu6⟩; clear c3 z3; have hu56 := hu5.trans hu6; obtain ⟨z5, c5, -⟩ := own_get (o5.later hu56); obtain ⟨z7, c7, -⟩ := own_get (o7.later hu56); obtain ⟨z9, c9, -⟩ := own_get (o9.later hu56); obtain ⟨z11, c11, -⟩ := own_get (o11.later hu56)))
      | (go_at_call 11; go_must (refine (HA.out _).mono ?_; rintro e we ⟨rfl, hbe⟩)))
    go_ret
    exact ⟨rfl, (hl.trans hu56).trans hbe.un1⟩

set_option maxRecDepth 100000 in
set_option maxHeartbeats 6400000 in
theorem sums_good (an ad bn bd sN sD sE dN dD dE pN pD pE qN qD qE : Int) (w : World)
    (HAdd : Hid (∀ W, Calls Try.prog 17 #[.agg #[.int .i64 an, .int .i64 ad], .agg #[.int .i64 bn, .int .i64 bd]] W fun e w' => e = .returned (.tuple #[.agg #[.int .i64 sN, .int .i64 sD], .int .i64 sE]) ∧ Later W w'))
    (HSub : Hid (∀ W, Calls Try.prog 16 #[.agg #[.int .i64 an, .int .i64 ad], .agg #[.int .i64 bn, .int .i64 bd]] W fun e w' => e = .returned (.tuple #[.agg #[.int .i64 dN, .int .i64 dD], .int .i64 dE]) ∧ Later W w'))
    (HMul : Hid (∀ W, Calls Try.prog 23 #[.agg #[.int .i64 an, .int .i64 ad], .agg #[.int .i64 bn, .int .i64 bd]] W fun e w' => e = .returned (.tuple #[.agg #[.int .i64 pN, .int .i64 pD], .int .i64 pE]) ∧ Later W w'))
    (HDiv : Hid (∀ W, Calls Try.prog 24 #[.agg #[.int .i64 an, .int .i64 ad], .agg #[.int .i64 bn, .int .i64 bd]] W fun e w' => e = .returned (.tuple #[.agg #[.int .i64 qN, .int .i64 qD], .int .i64 qE]) ∧ Later W w'))
    (HC1 : Hid (∀ W, Calls Try.prog 10 #[.agg #[.int .i64 an, .int .i64 ad]] W fun e w' => e = .returned (.int .i64 0) ∧ Later W w'))
    (HC2 : Hid (∀ W, Calls Try.prog 10 #[.agg #[.int .i64 bn, .int .i64 bd]] W fun e w' => e = .returned (.int .i64 0) ∧ Later W w'))
    (HQ1 : Hid (∀ W, Calls Try.prog 13 #[.agg #[.int .i64 an, .int .i64 ad]] W fun e w' => ∃ r, e = .returned r ∧ IsQ w' r an ad ∧ Later W w'))
    (HQ2 : Hid (∀ W, Calls Try.prog 13 #[.agg #[.int .i64 bn, .int .i64 bd]] W fun e w' => ∃ r, e = .returned r ∧ IsQ w' r bn bd ∧ Later W w'))
    (HSum : Hid (∀ W x y, IsQ W x an ad → IsQ W y bn bd → Calls Try.prog 25 #[x, y] W fun e w' => ∃ r, e = .returned r ∧ IsQ w' r (an * bd + bn * ad) (ad * bd) ∧ Later W w'))
    (HDif : Hid (∀ W x y, IsQ W x an ad → IsQ W y (-bn) bd → Calls Try.prog 25 #[x, y] W fun e w' => ∃ r, e = .returned r ∧ IsQ w' r (an * bd + -bn * ad) (ad * bd) ∧ Later W w'))
    (HPro : Hid (∀ W x y, IsQ W x an ad → IsQ W y bn bd → Calls Try.prog 27 #[x, y] W fun e w' => ∃ r, e = .returned r ∧ IsQ w' r (an * bn) (ad * bd) ∧ Later W w'))
    (HQuo : Hid (∀ W x y, IsQ W x an ad → IsQ W y bd bn → Calls Try.prog 27 #[x, y] W fun e w' => ∃ r, e = .returned r ∧ IsQ w' r (an * bd) (ad * bn) ∧ Later W w'))
    (HNg : Hid (∀ W x, IsQ W x bn bd → Calls Try.prog 26 #[x] W fun e w' => ∃ r, e = .returned r ∧ IsQ w' r (-bn) bd ∧ Later W w'))
    (HR1 : Hid (∀ W x, IsQ W x (an * bd + bn * ad) (ad * bd) → Calls Try.prog 12 #[x] W fun e w' => e = .returned (.tuple #[.agg #[.int .i64 sN, .int .i64 sD], .int .i64 sE]) ∧ Later W w'))
    (HR2 : Hid (∀ W x, IsQ W x (an * bd + -bn * ad) (ad * bd) → Calls Try.prog 12 #[x] W fun e w' => e = .returned (.tuple #[.agg #[.int .i64 dN, .int .i64 dD], .int .i64 dE]) ∧ Later W w'))
    (HR3 : Hid (∀ W x, IsQ W x (an * bn) (ad * bd) → Calls Try.prog 12 #[x] W fun e w' => e = .returned (.tuple #[.agg #[.int .i64 pN, .int .i64 pD], .int .i64 pE]) ∧ Later W w'))
    (HR4 : Hid (bn ≠ 0 → ∀ W x, IsQ W x (an * bd) (ad * bn) → Calls Try.prog 12 #[x] W fun e w' => e = .returned (.tuple #[.agg #[.int .i64 qN, .int .i64 qD], .int .i64 qE]) ∧ Later W w'))
    (HZ : Hid (bn = 0 → qN = 0 ∧ qD = 0 ∧ qE = 12)) :
    Calls Try.prog 6 #[.agg #[.int .i64 an, .int .i64 ad], .agg #[.int .i64 bn, .int .i64 bd]] w fun e w' => e = .returned (.bool true) ∧ Later w w' := by
  have HA := Lib.hid awake_any
  go_enter Try.func6, Try.ntmps6
  go_upto_region 2 with (go_at_call 17; go_must (refine (HAdd.out _).mono ?_; rintro e u1 ⟨rfl, hu1⟩))
  refine wp_opaque (fun w1 hw1 => ?_)
  have o5 := Own.one hw1
  have ob := (Own.two hu1).later hw1.un1
  have hl : Later w w1 := hu1.un1.un1.trans hw1.un1
  clear hu1 hw1
  obtain ⟨⟨z2, c2, -⟩, ⟨z3, c3, -⟩, -⟩ := id ob
  go_upto_region 3 with (go_at_call 16; go_must (refine (HSub.out _).mono ?_; rintro e u2 ⟨rfl, hu2⟩))
  refine wp_opaque (fun w2 hw2 => ?_)
  have o7 := Own.one hw2
  have hn2 := hu2.trans hw2.un1
  replace hl := hl.trans hn2
  replace ob := ob.later hn2
  replace o5 := o5.later hn2
  clear c2 c3 z2 z3
  clear hn2
  clear hu2 hw2
  obtain ⟨⟨z2, c2, -⟩, ⟨z3, c3, -⟩, -⟩ := id ob
  go_upto_region 4 with (go_at_call 23; go_must (refine (HMul.out _).mono ?_; rintro e u3 ⟨rfl, hu3⟩))
  refine wp_opaque (fun w3 hw3 => ?_)
  have o9 := Own.one hw3
  have hn3 := hu3.trans hw3.un1
  replace hl := hl.trans hn3
  replace ob := ob.later hn3
  replace o5 := o5.later hn3
  replace o7 := o7.later hn3
  clear c2 c3 z2 z3
  clear hn3
  clear hu3 hw3
  obtain ⟨⟨z2, c2, -⟩, ⟨z3, c3, -⟩, -⟩ := id ob
  go_upto_region 5 with (go_at_call 24; go_must (refine (HDiv.out _).mono ?_; rintro e u4 ⟨rfl, hu4⟩))
  refine wp_opaque (fun w4 hw4 => ?_)
  have o11 := Own.one hw4
  have hn4 := hu4.trans hw4.un1
  replace hl := hl.trans hn4
  replace ob := ob.later hn4
  replace o5 := o5.later hn4
  replace o7 := o7.later hn4
  replace o9 := o9.later hn4
  clear c2 c3 z2 z3
  clear hn4
  clear hu4 hw4
  obtain ⟨⟨z2, c2, -⟩, ⟨z3, c3, -⟩, -⟩ := id ob
  have tok1 : True := trivial
  go_upto_region 11 with (first
    | (go_at_call 10; clear tok1; go_must (refine (HC1.out _).mono ?_; rintro e u5 ⟨rfl, hu5⟩; clear c2 c3 z2 z3; obtain ⟨-, ⟨z3, c3, -⟩, -⟩ := ob.later hu5))
    | (go_at_call 10; go_must (refine (HC2.out _).mono ?_; rintro e u6 ⟨rfl, hu6⟩)))
  refine wp_opaque (fun w6 hw6 => ?_)
  have o14 := Own.one hw6
  have hn6 := (hu5.trans hu6).trans hw6.un1
  replace hl := hl.trans hn6
  replace ob := ob.later hn6
  replace o5 := o5.later hn6
  replace o7 := o7.later hn6
  replace o9 := o9.later hn6
  replace o11 := o11.later hn6
  clear c3 z3 hn6 hu5 hu6 hw6
  obtain ⟨⟨z2, c2, -⟩, ⟨z3, c3, -⟩, -⟩ := id ob

  go_upto_region 12 with (go_at_call 13; go_must (refine (HQ1.out _).mono ?_; rintro e u7 ⟨qx, rfl, hqx, hu7⟩; obtain ⟨xa, xb, xc, xd, ex, -, -⟩ := hqx.open; subst ex))
  refine wp_opaque (fun w7 hw7 => ?_)
  have o15 := Own.one hw7
  have hn7 := hu7.trans hw7.un1
  replace hqx := hqx.later hw7.un1
  replace hl := hl.trans hn7
  replace ob := ob.later hn7
  replace o5 := o5.later hn7
  replace o7 := o7.later hn7
  replace o9 := o9.later hn7
  replace o11 := o11.later hn7
  replace o14 := o14.later hn7
  clear c2 c3 z2 z3 hn7 hu7 hw7
  obtain ⟨⟨z2, c2, -⟩, ⟨z3, c3, -⟩, -⟩ := id ob
  go_upto_region 13 with (go_at_call 13; go_must (refine (HQ2.out _).mono ?_; rintro e u8 ⟨qy, rfl, hqy, hu8⟩; obtain ⟨ya, yb, yc, yd, ey, -, -⟩ := hqy.open; subst ey))
  refine wp_opaque (fun w8 hw8 => ?_)
  have o16 := Own.one hw8
  have hn8 := hu8.trans hw8.un1
  replace hqy := hqy.later hw8.un1
  replace hqx := hqx.later hn8
  replace hl := hl.trans hn8
  replace ob := ob.later hn8
  replace o5 := o5.later hn8
  replace o7 := o7.later hn8
  replace o9 := o9.later hn8
  replace o11 := o11.later hn8
  replace o14 := o14.later hn8
  replace o15 := o15.later hn8
  clear c2 c3 z2 z3 hn8 hu8 hw8
  obtain ⟨z15, c15, -⟩ := own_get o15
  obtain ⟨z16, c16, -⟩ := own_get o16
  go_upto_region 14 with (first
    | (go_at_call 25; go_must (refine (HSum.out _ _ _ hqx hqy).mono ?_; rintro e u9 ⟨r9, rfl, hr9, hu9⟩))
    | (go_at_call 12; go_must (refine (HR1.out _ _ hr9).mono ?_; rintro e v9 ⟨rfl, hv9⟩)))
  refine wp_opaque (fun w9 hw9 => ?_)
  have o17 := Own.one hw9
  have hn9 := (hu9.trans hv9).trans hw9.un1
  replace hqx := hqx.later hn9
  replace hqy := hqy.later hn9
  replace hl := hl.trans hn9
  replace ob := ob.later hn9
  replace o5 := o5.later hn9
  replace o7 := o7.later hn9
  replace o9 := o9.later hn9
  replace o11 := o11.later hn9
  replace o14 := o14.later hn9
  replace o15 := o15.later hn9
  replace o16 := o16.later hn9
  clear c15 c16 z15 z16 hn9 hu9 hv9 hw9
  obtain ⟨z15, c15, -⟩ := own_get o15
  obtain ⟨z16, c16, -⟩ := own_get o16

  go_cut [19, 20] (fun s19 s20 wx => ∃ b, s19 = .pointer (some ⟨b, 0, none⟩) ∧ s20 = .int .i64 dE ∧ Own wx [(b, #[.int .i64 dN, .int .i64 dD])] ∧ Later w9 wx)
  case first =>
    clear HAdd HSub HMul HDiv HC1 HC2 HQ1 HQ2 HSum HPro HQuo HR1 HR3 HR4 HZ HA ob o5 o7 o9 o11 o14 o15 o16 o17 hl
    refine U.wp_region_plan 9 (.two [0, 1] 2 (.two [] 3 (.two [] 4 (.one [5, 6, 7] 8 (.one [] 9 (.done [10]))) 8 (.one [] 4 (.one [5, 6, 7] 9 (.done [10])))) 8 (.one [] 3 (.one [] 4 (.one [5, 6, 7] 9 (.done [10]))))) 8 (.one [] 2 (.one [] 3 (.one [] 4 (.one [5, 6, 7] 9 (.done [10])))))) (by kernel_rfl) (by kernel_rfl) (fun _ _ d _ _ h => by cases d <;> exact h) ?_
    repeat' (first
      | (refine plan_done (fun K hK => ?_); (first | (simp only [pick_cons, pick_nil, toList_some_append, List.getElem?_toArray, List.getElem?_cons_zero, List.getElem?_cons_succ]; repeat (go_big_quiet_step (fail))) | simp only [pick_nil]); refine wpQuiet_nil (hK _ ?_); clear hK K)
      | (refine plan_one (by rfl) (fun K hK => ?_); (first | (simp only [pick_cons, pick_nil, toList_some_append, List.getElem?_toArray, List.getElem?_cons_zero, List.getElem?_cons_succ]; repeat (go_big_quiet_step (fail))) | simp only [pick_nil]); refine wpQuiet_nil (hK _ ?_); clear hK K)
      | (refine plan_two (by rfl) (by rfl) (fun K hK => ?_); (first | (simp only [pick_cons, pick_nil, toList_some_append, List.getElem?_toArray, List.getElem?_cons_zero, List.getElem?_cons_succ]; repeat (go_big_quiet_step (fail))) | simp only [pick_nil]); refine wpQuiet_nil (hK _ ?_); clear hK K; refine ⟨?_, ?_⟩)
      | ((with_reducible refine at_list ?_); go_wp2_with (first | (go_at_call 26; go_must (refine (HNg.out _ _ (hqy.later (by repeat (first | with_reducible exact Later.refl _ | with_reducible assumption | with_reducible refine Later.ofdrew ?_ | with_reducible refine Later.ofdrewN ?_ | with_reducible refine Later.setCell ?_ ?_ _ | with_reducible refine Later.alloc ?_ _ | with_reducible refine Later.drewN ?_ _ | with_reducible refine Later.drew ?_ | (with_reducible refine Later.trans ?_ (by assumption)) | (simp only [World.size_setCell, World.size_alloc, World.heap_drewN]; omega) | (simp; done) | (simp; omega))))).mono ?_; rintro e ua ⟨ra, rfl, hra, hua⟩; (first | have hx5 := hx5.later hua | (with_reducible have hx5 := Own.one hua) | (with_reducible have hx5 := own_one_d hua) | skip); (first | have hy5 := own_get hx5 | skip); (first | have cx5 := hy5.2.1 | skip); (first | have fx5 := hy5.2.2 | skip); have hzhua := Later.size hua; (try simp only [World.size_alloc, World.size_drew] at hzhua))) | (go_at_call 25; go_must (refine (HDif.out _ _ _ (hqx.later (by repeat (first | with_reducible exact Later.refl _ | with_reducible assumption | with_reducible refine Later.ofdrew ?_ | with_reducible refine Later.ofdrewN ?_ | with_reducible refine Later.setCell ?_ ?_ _ | with_reducible refine Later.alloc ?_ _ | with_reducible refine Later.drewN ?_ _ | with_reducible refine Later.drew ?_ | (with_reducible refine Later.trans ?_ (by assumption)) | (simp only [World.size_setCell, World.size_alloc, World.heap_drewN]; omega) | (simp; done) | (simp; omega)))) (hra.later (by repeat (first | with_reducible exact Later.refl _ | with_reducible assumption | with_reducible refine Later.ofdrew ?_ | with_reducible refine Later.ofdrewN ?_ | with_reducible refine Later.setCell ?_ ?_ _ | with_reducible refine Later.alloc ?_ _ | with_reducible refine Later.drewN ?_ _ | with_reducible refine Later.drew ?_ | (with_reducible refine Later.trans ?_ (by assumption)) | (simp only [World.size_setCell, World.size_alloc, World.heap_drewN]; omega) | (simp; done) | (simp; omega))))).mono ?_; rintro e ub ⟨rb, rfl, hrb, hub⟩; (first | have hx5 := hx5.later hub | (with_reducible have hx5 := Own.one hub) | (with_reducible have hx5 := own_one_d hub) | skip); (first | have hy5 := own_get hx5 | skip); (first | have cx5 := hy5.2.1 | skip); (first | have fx5 := hy5.2.2 | skip); have hzhub := Later.size hub; (try simp only [World.size_alloc, World.size_drew] at hzhub))) | (go_at_call 12; go_must (refine (HR2.out _ _ (hrb.later (by repeat (first | with_reducible exact Later.refl _ | with_reducible assumption | with_reducible refine Later.ofdrew ?_ | with_reducible refine Later.ofdrewN ?_ | with_reducible refine Later.setCell ?_ ?_ _ | with_reducible refine Later.alloc ?_ _ | with_reducible refine Later.drewN ?_ _ | with_reducible refine Later.drew ?_ | (with_reducible refine Later.trans ?_ (by assumption)) | (simp only [World.size_setCell, World.size_alloc, World.heap_drewN]; omega) | (simp; done) | (simp; omega))))).mono ?_; rintro e uc ⟨rfl, huc⟩; (first | have hx5 := hx5.later huc | (with_reducible have hx5 := Own.one huc) | (with_reducible have hx5 := own_one_d huc) | skip); (first | have hy5 := own_get hx5 | skip); (first | have cx5 := hy5.2.1 | skip); (first | have fx5 := hy5.2.2 | skip); have hzhuc := Later.size huc; (try simp only [World.size_alloc, World.size_drew] at hzhuc)))); first | refine behind_store (t := 9) (by decide) ?_ | refine behind (by repeat (first | with_reducible exact Later.refl _ | with_reducible assumption | with_reducible refine Later.ofdrew ?_ | with_reducible refine Later.ofdrewN ?_ | with_reducible refine Later.alloc ?_ _ | with_reducible refine Later.drewN ?_ _ | with_reducible refine Later.drew ?_ | (with_reducible refine Later.trans ?_ (by assumption)))) ?_))
    all_goals
      go_wp2_with fail
      go_meet
      first
        | exact ⟨_, rfl, rfl, own_alloc _ _ _, by repeat (first | with_reducible exact Later.refl _ | with_reducible assumption | with_reducible refine Later.ofdrew ?_ | with_reducible refine Later.ofdrewN ?_ | with_reducible refine Later.setCell ?_ ?_ _ | with_reducible refine Later.alloc ?_ _ | with_reducible refine Later.drewN ?_ _ | with_reducible refine Later.drew ?_ | (with_reducible refine Later.trans ?_ (by assumption)) | (simp only [World.size_setCell, World.size_alloc, World.heap_drewN]; omega) | (simp; done) | (simp; omega))⟩
        | exact ⟨_, rfl, rfl, own_set2 hx5, by repeat (first | with_reducible exact Later.refl _ | with_reducible assumption | with_reducible refine Later.ofdrew ?_ | with_reducible refine Later.ofdrewN ?_ | with_reducible refine Later.setCell ?_ ?_ _ | with_reducible refine Later.alloc ?_ _ | with_reducible refine Later.drewN ?_ _ | with_reducible refine Later.drew ?_ | (with_reducible refine Later.trans ?_ (by assumption)) | (simp only [World.size_setCell, World.size_alloc, World.heap_drewN]; omega) | (simp; done) | (simp; omega))⟩
  case rest =>
    obtain ⟨b19, rfl, rfl, o19, hn19⟩ := hcut
    obtain ⟨x19, rfl⟩ : ∃ x, x = wc := ⟨_, rfl⟩
    replace hl := hl.trans hn19
    replace ob := ob.later hn19
    replace o5 := o5.later hn19
    replace o7 := o7.later hn19
    replace o9 := o9.later hn19
    replace o11 := o11.later hn19
    replace o14 := o14.later hn19
    replace o15 := o15.later hn19
    replace o16 := o16.later hn19
    replace o17 := o17.later hn19
    replace hqx := hqx.later hn19
    replace hqy := hqy.later hn19
    clear c15 c16 z15 z16
    obtain ⟨z15, c15, -⟩ := own_get o15
    obtain ⟨z16, c16, -⟩ := own_get o16
    go_upto_region 16 with (first
      | (go_at_call 27; go_must (refine (HPro.out _ _ _ hqx hqy).mono ?_; rintro e ud ⟨rd, rfl, hrd, hud⟩))
      | (go_at_call 12; go_must (refine (HR3.out _ _ hrd).mono ?_; rintro e vd ⟨rfl, hvd⟩)))
    refine wp_opaque (fun wd hwd => ?_)
    have o21 := Own.one hwd
    have hnd := (hud.trans hvd).trans hwd.un1
    replace hqx := hqx.later hnd
    replace hqy := hqy.later hnd
    replace hl := hl.trans hnd
    replace ob := ob.later hnd
    replace o5 := o5.later hnd
    replace o7 := o7.later hnd
    replace o9 := o9.later hnd
    replace o11 := o11.later hnd
    replace o14 := o14.later hnd
    replace o15 := o15.later hnd
    replace o16 := o16.later hnd
    replace o17 := o17.later hnd
    replace o19 := o19.later hnd
    clear c15 c16 z15 z16 hnd hud hvd hwd
    obtain ⟨z5, c5, -⟩ := own_get o5
    obtain ⟨z7, c7, -⟩ := own_get o7
    obtain ⟨z9, c9, -⟩ := own_get o9
    obtain ⟨z17, c17, -⟩ := own_get o17
    obtain ⟨z19, c19, -⟩ := own_get o19
    obtain ⟨z21, c21, -⟩ := own_get o21
    obtain ⟨-, ⟨z3, c3, -⟩, -⟩ := id ob
    go_upto_region 18 with fail
    clear c5 c7 c9 c17 c19 c21 z5 z7 z9 z17 z19 z21
    obtain ⟨z11, c11, -⟩ := own_get o11
    obtain ⟨z14, c14, -⟩ := own_get o14
    by_cases hbn : bn = 0
    · obtain ⟨rfl, rfl, rfl⟩ := HZ.out hbn
      have hb0 : (bn == 0) = true := by simpa using hbn
      clear hbn
      go_wp2_with (go_at_call 11; go_must (refine (HA.out _).mono ?_; rintro e we ⟨rfl, hbe⟩))
      go_ret
      exact ⟨rfl, hl.trans hbe⟩
    · have HR5 := Lib.hid (HR4.out hbn)
      have hb0 : (bn == 0) = false := by simpa using hbn
      clear hbn
      obtain ⟨z15, c15, -⟩ := own_get o15
      obtain ⟨z16, c16, -⟩ := own_get o16
      go_upto_region 20 with fail

      go_cut [23, 24] (fun s23 s24 wx => ∃ b, s23 = .pointer (some ⟨b, 0, none⟩) ∧ s24 = .int .i64 qE ∧ Own wx [(b, #[.int .i64 qN, .int .i64 qD])] ∧ Later wd wx)
      case first =>
        clear HAdd HSub HMul HDiv HC1 HC2 HQ1 HQ2 HSum HDif HPro HNg HR1 HR2 HR3 HR4 HZ HA ob o5 o7 o9 o11 o14 o15 o16 o17 o19 o21 hl c11 c14 z11 z14 c3 z3
        refine U.wp_region_plan 9 (.two [0, 1] 2 (.two [] 3 (.two [] 4 (.one [5, 6, 7] 8 (.one [] 9 (.done [10]))) 8 (.one [] 4 (.one [5, 6, 7] 9 (.done [10])))) 8 (.one [] 3 (.one [] 4 (.one [5, 6, 7] 9 (.done [10]))))) 8 (.one [] 2 (.one [] 3 (.one [] 4 (.one [5, 6, 7] 9 (.done [10])))))) (by kernel_rfl) (by kernel_rfl) (fun _ _ d _ _ h => by cases d <;> exact h) ?_
        repeat' (first
          | (refine plan_done (fun K hK => ?_); (first | (simp only [pick_cons, pick_nil, toList_some_append, List.getElem?_toArray, List.getElem?_cons_zero, List.getElem?_cons_succ]; repeat (go_big_quiet_step (fail))) | simp only [pick_nil]); refine wpQuiet_nil (hK _ ?_); clear hK K)
          | (refine plan_one (by rfl) (fun K hK => ?_); (first | (simp only [pick_cons, pick_nil, toList_some_append, List.getElem?_toArray, List.getElem?_cons_zero, List.getElem?_cons_succ]; repeat (go_big_quiet_step (fail))) | simp only [pick_nil]); refine wpQuiet_nil (hK _ ?_); clear hK K)
          | (refine plan_two (by rfl) (by rfl) (fun K hK => ?_); (first | (simp only [pick_cons, pick_nil, toList_some_append, List.getElem?_toArray, List.getElem?_cons_zero, List.getElem?_cons_succ]; repeat (go_big_quiet_step (fail))) | simp only [pick_nil]); refine wpQuiet_nil (hK _ ?_); clear hK K; refine ⟨?_, ?_⟩)
          | ((with_reducible refine at_list ?_); go_wp2_with (first | (go_at_call 28; go_must (refine (qturn_any _ _ _ _ (hqy.later (by repeat (first | with_reducible exact Later.refl _ | with_reducible assumption | with_reducible refine Later.ofdrew ?_ | with_reducible refine Later.ofdrewN ?_ | with_reducible refine Later.setCell ?_ ?_ _ | with_reducible refine Later.alloc ?_ _ | with_reducible refine Later.drewN ?_ _ | with_reducible refine Later.drew ?_ | (with_reducible refine Later.trans ?_ (by assumption)) | (simp only [World.size_setCell, World.size_alloc, World.heap_drewN]; omega) | (simp; done) | (simp; omega))))).mono ?_; rintro e ua ⟨ra, rfl, hra, hua⟩; (first | have hx5 := hx5.later hua | (with_reducible have hx5 := Own.one hua) | (with_reducible have hx5 := own_one_d hua) | skip); (first | have hy5 := own_get hx5 | skip); (first | have cx5 := hy5.2.1 | skip); (first | have fx5 := hy5.2.2 | skip); have hzhua := Later.size hua; (try simp only [World.size_alloc, World.size_drew] at hzhua))) | (go_at_call 27; go_must (refine (HQuo.out _ _ _ (hqx.later (by repeat (first | with_reducible exact Later.refl _ | with_reducible assumption | with_reducible refine Later.ofdrew ?_ | with_reducible refine Later.ofdrewN ?_ | with_reducible refine Later.setCell ?_ ?_ _ | with_reducible refine Later.alloc ?_ _ | with_reducible refine Later.drewN ?_ _ | with_reducible refine Later.drew ?_ | (with_reducible refine Later.trans ?_ (by assumption)) | (simp only [World.size_setCell, World.size_alloc, World.heap_drewN]; omega) | (simp; done) | (simp; omega)))) (hra.later (by repeat (first | with_reducible exact Later.refl _ | with_reducible assumption | with_reducible refine Later.ofdrew ?_ | with_reducible refine Later.ofdrewN ?_ | with_reducible refine Later.setCell ?_ ?_ _ | with_reducible refine Later.alloc ?_ _ | with_reducible refine Later.drewN ?_ _ | with_reducible refine Later.drew ?_ | (with_reducible refine Later.trans ?_ (by assumption)) | (simp only [World.size_setCell, World.size_alloc, World.heap_drewN]; omega) | (simp; done) | (simp; omega))))).mono ?_; rintro e ub ⟨rb, rfl, hrb, hub⟩; (first | have hx5 := hx5.later hub | (with_reducible have hx5 := Own.one hub) | (with_reducible have hx5 := own_one_d hub) | skip); (first | have hy5 := own_get hx5 | skip); (first | have cx5 := hy5.2.1 | skip); (first | have fx5 := hy5.2.2 | skip); have hzhub := Later.size hub; (try simp only [World.size_alloc, World.size_drew] at hzhub))) | (go_at_call 12; go_must (refine (HR5.out _ _ (hrb.later (by repeat (first | with_reducible exact Later.refl _ | with_reducible assumption | with_reducible refine Later.ofdrew ?_ | with_reducible refine Later.ofdrewN ?_ | with_reducible refine Later.setCell ?_ ?_ _ | with_reducible refine Later.alloc ?_ _ | with_reducible refine Later.drewN ?_ _ | with_reducible refine Later.drew ?_ | (with_reducible refine Later.trans ?_ (by assumption)) | (simp only [World.size_setCell, World.size_alloc, World.heap_drewN]; omega) | (simp; done) | (simp; omega))))).mono ?_; rintro e uc ⟨rfl, huc⟩; (first | have hx5 := hx5.later huc | (with_reducible have hx5 := Own.one huc) | (with_reducible have hx5 := own_one_d huc) | skip); (first | have hy5 := own_get hx5 | skip); (first | have cx5 := hy5.2.1 | skip); (first | have fx5 := hy5.2.2 | skip); have hzhuc := Later.size huc; (try simp only [World.size_alloc, World.size_drew] at hzhuc)))); first | refine behind_store (t := 9) (by decide) ?_ | refine behind (by repeat (first | with_reducible exact Later.refl _ | with_reducible assumption | with_reducible refine Later.ofdrew ?_ | with_reducible refine Later.ofdrewN ?_ | with_reducible refine Later.alloc ?_ _ | with_reducible refine Later.drewN ?_ _ | with_reducible refine Later.drew ?_ | (with_reducible refine Later.trans ?_ (by assumption)))) ?_))
        all_goals
          go_wp2_with fail
          go_meet
          first
            | exact ⟨_, rfl, rfl, own_alloc _ _ _, by repeat (first | with_reducible exact Later.refl _ | with_reducible assumption | with_reducible refine Later.ofdrew ?_ | with_reducible refine Later.ofdrewN ?_ | with_reducible refine Later.setCell ?_ ?_ _ | with_reducible refine Later.alloc ?_ _ | with_reducible refine Later.drewN ?_ _ | with_reducible refine Later.drew ?_ | (with_reducible refine Later.trans ?_ (by assumption)) | (simp only [World.size_setCell, World.size_alloc, World.heap_drewN]; omega) | (simp; done) | (simp; omega))⟩
            | exact ⟨_, rfl, rfl, own_set2 hx5, by repeat (first | with_reducible exact Later.refl _ | with_reducible assumption | with_reducible refine Later.ofdrew ?_ | with_reducible refine Later.ofdrewN ?_ | with_reducible refine Later.setCell ?_ ?_ _ | with_reducible refine Later.alloc ?_ _ | with_reducible refine Later.drewN ?_ _ | with_reducible refine Later.drew ?_ | (with_reducible refine Later.trans ?_ (by assumption)) | (simp only [World.size_setCell, World.size_alloc, World.heap_drewN]; omega) | (simp; done) | (simp; omega))⟩
      case rest =>
        obtain ⟨b23, rfl, rfl, o23, hn23⟩ := hcut
        obtain ⟨x23, rfl⟩ : ∃ x, x = wc := ⟨_, rfl⟩
        replace hl := hl.trans hn23
        replace o11 := o11.later hn23
        clear c11 c14 c15 c16 z11 z14 z15 z16
        obtain ⟨z11, c11, -⟩ := own_get o11
        obtain ⟨z23, c23, -⟩ := own_get o23
        go_wp2_with (go_at_call 11; go_must (refine (HA.out _).mono ?_; rintro e we ⟨rfl, hbe⟩))
        go_ret
        exact ⟨rfl, hl.trans hbe⟩
end Go.Proofs.Ytnnjjaknkiklpaa
