/- step: what is done with what is held (printed by gen_tdo.py) -/
import Derived.Test.YtkjabiabeemfhaaGreatDoorZ24
import Derived.Test.YtkjabiabeemfhaaGreatDoorZ25
import Derived.Test.YtkjabiabeemfhaaGreatDoorZ26
import Derived.Test.YtkjabiabeemfhaaGreatDoorZ27
import Derived.Test.YtkjabiabeemfhaaGreatDoorZ21
import Derived.Test.YtkjabiabeemfhaaGreatDoorZ20
set_option linter.all false
set_option linter.all false
section
namespace Go.Proofs.YtkjabiabeemfhaaGreatDoor
open Go.RowKit
set_option maxRecDepth 100000
set_option maxHeartbeats 1600000 in
theorem tdo_late {w0 : World} {ts : List Nd} {T : Tm} {tv : Value} {fx : FxL} {ch : ChL} {p m1 m2 : Nat} (hJ : JobAt w0 ts T tv fx ch p m1 m2) (w : World) (hw0 : Later w0 w) (b : Nat) (tod : Int) (nv kv fv wv : Value) (H K : List Hd) (F : List Fl) (W : List Wt)
  (hst : TurnAt w0.heap.size w b tv tod (.pointer (some ⟨p, 0, none⟩)) nv kv fv wv H K F W) (hK : K.length ≤ 1000) (hW : W.length ≤ 90000) (h : Hd) (hd : tod < h.day) :
  Calls Tryz.prog 83 #[.pointer (some ⟨b, 0, none⟩), .agg #[.int .i64 h.pl, .int .i64 h.day, .int .i64 h.n, .int .i64 h.d]] w (TurnEnd (oneH (envT fx ch) tod h) (keptH (envT fx ch) tod h) w0 b tv tod (.pointer (some ⟨p, 0, none⟩)) H K F W) := by
 have HONE : Hid (oneH (envT fx ch) tod h = (0, [], [], [])) := Lib.hid (by unfold oneH; rw [if_pos hd])
 have HKP : Hid (keptH (envT fx ch) tod h = [h]) := Lib.hid (by unfold keptH; rw [if_pos hd])
 have hlo := hw0.size
 have HST := Lib.hid hst
 have HKEEP := Lib.hid (fun (at0 : Int) (ha : (h.pl : Int) = at0) (av : Value) W1 (hl : Later w W1) hA hAb => tkeep_later (b := b) hlo (by omega) [] (by simp; omega) hst h at0 ha av W1 hl hA hAb)
 obtain ⟨hday, hhd⟩ : ∃ x, h.day = x := ⟨_, rfl⟩
 obtain ⟨hpl, hhp⟩ : ∃ x : Int, (h.pl : Int) = x := ⟨_, rfl⟩
 obtain ⟨hn, hhn⟩ : ∃ x, h.n = x := ⟨_, rfl⟩
 obtain ⟨hdn, hhe⟩ : ∃ x, h.d = x := ⟨_, rfl⟩
 rw [hhd] at hd
 rw [hhp, hhd, hhn, hhe]
 rw [hhd, hhn, hhe] at HKEEP
 have HKEEP2 := Lib.hid (HKEEP.out hpl hhp)
 have hzb : b < w.heap.size := hst.own.1.1
 obtain ⟨P, hP⟩ : ∃ P, TurnEnd (oneH (envT fx ch) tod h) (keptH (envT fx ch) tod h) w0 b tv tod (.pointer (some ⟨p, 0, none⟩)) H K F W = P := ⟨_, rfl⟩
 rw [hP]
 have HP := Lib.hid hP
 clear hst hJ hP hhd hhp hhn hhe HKEEP hK hW
 go_enter Tryz.func83, Tryz.ntmps83
 go_upto_region 1 with (fail)
 refine wp_opaque (fun w1 hb1 => ?_)
 have hO1 := Own.one hb1
 have hl1 : Later w w1 := hb1.un1
 clear hb1
 obtain ⟨A, hA⟩ : ∃ A, w.heap.size = A := ⟨_, rfl⟩
 rw [hA] at hO1 ⊢
 obtain ⟨⟨zA, cA, fA⟩, -⟩ := hO1
 have k0 : w1.cell? ⟨A, 0, none⟩ = some (.int .i64 hpl) := cA 0
 have k1 : w1.cell? ⟨A, 1, none⟩ = some (.int .i64 hday) := cA 1
 have k2 : w1.cell? ⟨A, 2, none⟩ = some (.int .i64 hn) := cA 2
 have k3 : w1.cell? ⟨A, 3, none⟩ = some (.int .i64 hdn) := cA 3
 have s5 : w1.cell? ⟨b, 5, none⟩ = some (.int .i64 tod) := (HST.out.later hl1).own.1.2.1 5
 have hzb1 : b < w1.heap.size := Nat.lt_of_lt_of_le hzb hl1.size
 clear cA fA
 refine wp_region_plan 7 (.one [0, 1, 2] 3 (.done [4, 5, 6])) (by kernel_rfl) (by kernel_rfl) (fun _ _ d _ _ h => by cases d <;> exact h) ?_
 repeat' (first
  | ((first | refine plan_done (fun K hK => ?_) | refine plan_one (by rfl) (fun K hK => ?_)); (first | (simp only [zq9]; repeat (go_big_quiet_step (fail))) | simp only [pick_nil]); refine wpQuiet_nil (hK _ ?_); clear hK K)
  | ((with_reducible refine at_list ?_); go_wp2_with (fail); first | refine behind_store (t := 7) (by decide) ?_ | refine behind (by with_reducible repeat (first | exact zq1 _ | assumption | refine zq2 ?_ | refine zq5 ?_ _ | refine zq6 ?_ _ | refine zq7 ?_ | refine zq8 ?_ (by assumption))) ?_))
 go_upto_region 2 with (fail)
 refine V.wp_region_plan 4 (.one [0, 3] 1 (.one [2] 4 (.done []))) (by kernel_rfl) (by kernel_rfl) (fun _ _ d _ _ h => by cases d <;> exact h) ?_
 repeat' (first
  | ((first | refine plan_done (fun K hK => ?_) | refine plan_one (by rfl) (fun K hK => ?_)); (first | (simp only [zq9]; repeat (go_big_quiet_step (fail))) | simp only [pick_nil]); refine wpQuiet_nil (hK _ ?_); clear hK K)
  | ((with_reducible refine at_list ?_); go_wp2_with ((go_at_call 124; go_must (with_reducible refine Calls.mono (HKEEP2.out _ _ (hl1.trans (by repeat (first | with_reducible (first | exact zq1 _ | assumption | refine zq2 ?_ | refine zq4 ?_ ?_ _ | refine zq5 ?_ _ | refine zq6 ?_ _ | refine zq7 ?_ | refine zq8 ?_ (by assumption)) | (simp only [zq10]; omega) | (simp; done) | (simp; omega)))) (waits_none _) (fun k hk => none_new hk)) ?_; rintro e w9 ⟨rfl, kv9, wv9, hs9, hz9⟩))); first | refine behind_store (t := 4) (by decide) ?_ | refine behind (by with_reducible repeat (first | exact zq1 _ | assumption | refine zq2 ?_ | refine zq5 ?_ _ | refine zq6 ?_ _ | refine zq7 ?_ | refine zq8 ?_ (by assumption))) ?_))
 have hfin : Later w0 w9 := lat_base hz9 ((hw0.trans hl1).trans (by repeat (first | with_reducible (first | exact zq1 _ | assumption | refine zq2 ?_ | refine zq4 ?_ ?_ _ | refine zq5 ?_ _ | refine zq6 ?_ _ | refine zq7 ?_ | refine zq8 ?_ (by assumption)) | (simp only [zq10]; omega) | (simp; done) | (simp; omega)))) (fun k hk => hk.elim (fun e => e ▸ HST.out.lob) (fun e => e.elim (fun e => (HST.out.kept.lo k e).1) (fun e => (HST.out.waits.lo k e).1)))
 go_wp2_with fail
 show P (.returned (.int .i64 0)) w9
 rw [← HP.out]
 exact turn_end (r := (0, [], [], [])) (kp := [h]) hs9 HONE.out HKP.out (by simp) (by simp) (by simp) (by simp) hfin
set_option maxHeartbeats 3200000 in
theorem tdo_plain {w0 : World} {ts : List Nd} {T : Tm} {tv : Value} {fx : FxL} {ch : ChL} {p m1 m2 : Nat} (hJ : JobAt w0 ts T tv fx ch p m1 m2) (w : World) (hw0 : Later w0 w) (b : Nat) (tod : Int) (nv kv fv wv : Value) (H K : List Hd) (F : List Fl) (W : List Wt)
  (hst : TurnAt w0.heap.size w b tv tod (.pointer (some ⟨p, 0, none⟩)) nv kv fv wv H K F W) (op : Int) (o13 : op ≠ 13) (o15 : op ≠ 15) (o16 : op ≠ 16) (o17 : op ≠ 17) (a b' vn vd : Int) (l : List Tm) (pl : Nat) (day n d : Int) (hT : TmAt ts pl (.node ⟨op, a, b', vn, vd⟩ l)) (hdt : ¬ tod < day) (P : Ending → World → Prop)
  (hc : ∀ W1, Later w W1 → ∀ bv, IsInts W1 bv (placesI pl l l.length) → (∀ k, bv.ownBlock = some k → w.heap.size ≤ k) → Calls Tryz.prog 126 #[.pointer (some ⟨b, 0, none⟩), .agg #[.int .i64 pl, .int .i64 day, .int .i64 n, .int .i64 d], bv] W1 fun e w' => ∃ c : Int, e = .returned (.int .i64 c) ∧ P (.returned (.int .i64 c)) w') :
  Calls Tryz.prog 83 #[.pointer (some ⟨b, 0, none⟩), .agg #[.int .i64 pl, .int .i64 day, .int .i64 n, .int .i64 d]] w P := by
 have hk : pl < ts.length := by have := hT.le; have := (Tm.node ⟨op, a, b', vn, vd⟩ l).size_pos; omega
 have hnd : ts[pl] = ⟨op, a, b', vn, vd⟩ := by have := hT.root.1; rw [List.getElem?_eq_getElem hk] at this; exact Option.some.inj this
 have hmf : ∀ (fn : Fn) (first cap : Array Value) (w : World), (Instr.makeFunc fn first cap).run Tryz.prog w = .ok (.func fn first cap) w := fun _ _ _ _ => rfl
 obtain ⟨tb, tq, tc, rfl, -, -, -⟩ := hJ.nodes.full hk
 have HBL := Lib.hid (fun W1 (hl1 : Later w0 W1) => tbelow_any ts hJ.len pl ⟨op, a, b', vn, vd⟩ l _ W1 hT (hJ.sh.later hl1) (hJ.nodes.later hl1))
 have HN0 := Lib.hid (fun W1 (hl1 : Later w0 W1) => (hJ.nodes.later hl1).full hk)
 rw [hnd] at HN0
 have HST := Lib.hid hst
 have HC := Lib.hid hc
 have hzb : b < w.heap.size := hst.own.1.1
 have hkI : (pl : Int) < (ts.length : Int) := by omega
 obtain ⟨PL, hPL⟩ : ∃ Q, placesI pl l l.length = Q := ⟨_, rfl⟩
 have HPL := Lib.hid (placesI_length pl l l.length)
 rw [hPL] at HBL HC HPL
 clear hst hJ hc hnd hT hPL
 generalize ts.length = L at *
 have e13 : (op == 13) = false := by simpa using o13
 have e15 : (op == 15) = false := by simpa using o15
 have e16 : (op == 16) = false := by simpa using o16
 have e17 : (op == 17) = false := by simpa using o17
 clear o13 o15 o16 o17
 go_enter Tryz.func83, Tryz.ntmps83
 go_upto_region 1 with (fail)
 refine wp_opaque (fun w1 hb1 => ?_)
 have hO1 := Own.one hb1
 have hl1 : Later w w1 := hb1.un1
 clear hb1
 obtain ⟨A, hA⟩ : ∃ A, w.heap.size = A := ⟨_, rfl⟩
 rw [hA] at hO1 ⊢
 obtain ⟨⟨zA, cA, fA⟩, -⟩ := hO1
 have k0 : w1.cell? ⟨A, 0, none⟩ = some (.int .i64 pl) := cA 0
 have k1 : w1.cell? ⟨A, 1, none⟩ = some (.int .i64 day) := cA 1
 have k2 : w1.cell? ⟨A, 2, none⟩ = some (.int .i64 n) := cA 2
 have k3 : w1.cell? ⟨A, 3, none⟩ = some (.int .i64 d) := cA 3
 have s4 : w1.cell? ⟨b, 4, none⟩ = some (.slice (some ⟨tb, tq, none⟩) L tc) := (HST.out.later hl1).own.1.2.1 4
 have s5 : w1.cell? ⟨b, 5, none⟩ = some (.int .i64 tod) := (HST.out.later hl1).own.1.2.1 5
 have hzb1 : b < w1.heap.size := Nat.lt_of_lt_of_le hzb hl1.size
 have hl01 := hw0.trans hl1
 have hz1 := hl1.size
 clear cA fA
 refine wp_region_plan 7 (.one [0, 1, 2] 3 (.done [4, 5, 6])) (by kernel_rfl) (by kernel_rfl) (fun _ _ d _ _ h => by cases d <;> exact h) ?_
 repeat' (first
  | ((first | refine plan_done (fun K hK => ?_) | refine plan_one (by rfl) (fun K hK => ?_)); (first | (simp only [zq9]; repeat (go_big_quiet_step (fail))) | simp only [pick_nil]); refine wpQuiet_nil (hK _ ?_); clear hK K)
  | ((with_reducible refine at_list ?_); go_wp2_with (fail); first | refine behind_store (t := 7) (by decide) ?_ | refine behind (by with_reducible repeat (first | exact zq1 _ | assumption | refine zq2 ?_ | refine zq5 ?_ _ | refine zq6 ?_ _ | refine zq7 ?_ | refine zq8 ?_ (by assumption))) ?_))
 go_upto_region 4 with (fail)
 refine wp_region_plan 12 (.one [0, 4, 5] 1 (.one [2, 3] 6 (.done [7, 8, 9, 10, 11]))) (by kernel_rfl) (by kernel_rfl) (fun _ _ d _ _ h => by cases d <;> exact h) ?_
 repeat' (first
  | ((first | refine plan_done (fun K hK => ?_) | refine plan_one (by rfl) (fun K hK => ?_)); (first | (simp only [zq9]; repeat (go_big_quiet_step (fail))) | simp only [pick_nil]); refine wpQuiet_nil (hK _ ?_); clear hK K)
  | ((with_reducible refine at_list ?_); go_wp2_with ((go_at_call 125; go_must (refine (HBL.out _ (hl01.trans (by repeat (first | with_reducible (first | exact zq1 _ | assumption | refine zq2 ?_ | refine zq4 ?_ ?_ _ | refine zq5 ?_ _ | refine zq6 ?_ _ | refine zq7 ?_ | refine zq8 ?_ (by assumption)) | (simp only [zq10]; omega) | (simp; done) | (simp; omega))))).mono ?_; rintro e w3 ⟨vb, rfl, hrow, hb3⟩; (try simp only [World.size_alloc, World.size_drew] at hrow); obtain ⟨pb9, cb9, rfl⟩ := B.owns_form hrow))); first | refine behind_store (t := 12) (by decide) ?_ | refine behind (by with_reducible repeat (first | exact zq1 _ | assumption | refine zq2 ?_ | refine zq5 ?_ _ | refine zq6 ?_ _ | refine zq7 ?_ | refine zq8 ?_ (by assumption))) ?_))
 have hl3 : Later w1 w3 := by first | exact hb3.undrew | exact hb3.undrew.undrew | exact hb3
 have HI3 := Lib.hid (B.owns_ints hrow).1
 have HB3 : Hid (∀ k, (Value.slice pb9 l.length cb9).ownBlock = some k → A ≤ k) := Lib.hid (fun k hk => by have := (hrow.lt k hk).1; rw [hA] at hz1; omega)
 obtain ⟨tb', tq', tc', htv, hzt, hcap, y0, y1, y2, y3, y4⟩ := HN0.out w3 (hl01.trans hl3)
 cases htv
 replace k0 := (bcell hl3).1 _ 0 zA |>.trans k0
 replace k1 := (bcell hl3).1 _ 1 zA |>.trans k1
 replace k2 := (bcell hl3).1 _ 2 zA |>.trans k2
 replace k3 := (bcell hl3).1 _ 3 zA |>.trans k3
 replace s4 := (bcell hl3).1 _ 4 hzb1 |>.trans s4
 have zA3 := Nat.lt_of_lt_of_le zA hl3.size
 have hzb3 := Nat.lt_of_lt_of_le hzb1 hl3.size
 have hl13 := hl1.trans hl3
 clear hrow hb3 s5 HBL HN0 zA hzb1 y1 y2 y3 y4
 go_upto_region 6 with (fail)
 refine wp_region_plan 9 (.one [0, 4, 5] 1 (.done [2, 3, 6, 7, 8])) (by kernel_rfl) (by kernel_rfl) (fun _ _ d _ _ h => by cases d <;> exact h) ?_
 repeat' (first
  | ((first | refine plan_done (fun K hK => ?_) | refine plan_one (by rfl) (fun K hK => ?_)); (first | (simp only [zq9]; repeat (go_big_quiet_step (fail))) | simp only [pick_nil]); refine wpQuiet_nil (hK _ ?_); clear hK K)
  | ((with_reducible refine at_list ?_); go_wp2_with (fail); first | refine behind_store (t := 9) (by decide) ?_ | refine behind (by with_reducible repeat (first | exact zq1 _ | assumption | refine zq2 ?_ | refine zq5 ?_ _ | refine zq6 ?_ _ | refine zq7 ?_ | refine zq8 ?_ (by assumption))) ?_))
 have HCC := Lib.hid (fun W1 (hl : Later w3 W1) => HC.out W1 (hl13.trans hl) _ (HI3.out.later hl) (fun k hk => by rw [hA]; exact HB3.out k hk))
 go_wp2_with (go_at_call 126; go_must (refine (HCC.out _ (by repeat (first | with_reducible (first | exact zq1 _ | assumption | refine zq2 ?_ | refine zq4 ?_ ?_ _ | refine zq5 ?_ _ | refine zq6 ?_ _ | refine zq7 ?_ | refine zq8 ?_ (by assumption)) | (simp only [zq10]; omega) | (simp; done) | (simp; omega)))).mono ?_; rintro e w9 ⟨c9, rfl, hP9⟩))
 exact hP9
set_option maxHeartbeats 3200000 in
theorem tdo_scale {w0 : World} {ts : List Nd} {T : Tm} {tv : Value} {fx : FxL} {ch : ChL} {p m1 m2 : Nat} (hJ : JobAt w0 ts T tv fx ch p m1 m2) (w : World) (hw0 : Later w0 w) (b : Nat) (tod : Int) (nv kv fv wv : Value) (H K : List Hd) (F : List Fl) (W : List Wt)
  (hst : TurnAt w0.heap.size w b tv tod (.pointer (some ⟨p, 0, none⟩)) nv kv fv wv H K F W) (a b' vn vd : Int) (l : List Tm) (pl : Nat) (day n d : Int) (hT : TmAt ts pl (.node ⟨13, a, b', vn, vd⟩ l)) (hdt : ¬ tod < day) (P : Ending → World → Prop)
  (hc : ∀ W1, Later w W1 → ∀ bv, IsInts W1 bv (placesI pl l l.length) → (∀ k, bv.ownBlock = some k → w.heap.size ≤ k) → Calls Tryz.prog 127 #[.pointer (some ⟨b, 0, none⟩), .agg #[.int .i64 pl, .int .i64 day, .int .i64 n, .int .i64 d], bv] W1 fun e w' => ∃ c : Int, e = .returned (.int .i64 c) ∧ P (.returned (.int .i64 c)) w') :
  Calls Tryz.prog 83 #[.pointer (some ⟨b, 0, none⟩), .agg #[.int .i64 pl, .int .i64 day, .int .i64 n, .int .i64 d]] w P := by
 have hk : pl < ts.length := by have := hT.le; have := (Tm.node ⟨13, a, b', vn, vd⟩ l).size_pos; omega
 have hnd : ts[pl] = ⟨13, a, b', vn, vd⟩ := by have := hT.root.1; rw [List.getElem?_eq_getElem hk] at this; exact Option.some.inj this
 have hmf : ∀ (fn : Fn) (first cap : Array Value) (w : World), (Instr.makeFunc fn first cap).run Tryz.prog w = .ok (.func fn first cap) w := fun _ _ _ _ => rfl
 obtain ⟨tb, tq, tc, rfl, -, -, -⟩ := hJ.nodes.full hk
 have HBL := Lib.hid (fun W1 (hl1 : Later w0 W1) => tbelow_any ts hJ.len pl ⟨13, a, b', vn, vd⟩ l _ W1 hT (hJ.sh.later hl1) (hJ.nodes.later hl1))
 have HN0 := Lib.hid (fun W1 (hl1 : Later w0 W1) => (hJ.nodes.later hl1).full hk)
 rw [hnd] at HN0
 have HST := Lib.hid hst
 have HC := Lib.hid hc
 have hzb : b < w.heap.size := hst.own.1.1
 have hkI : (pl : Int) < (ts.length : Int) := by omega
 obtain ⟨PL, hPL⟩ : ∃ Q, placesI pl l l.length = Q := ⟨_, rfl⟩
 have HPL := Lib.hid (placesI_length pl l l.length)
 rw [hPL] at HBL HC HPL
 clear hst hJ hc hnd hT hPL
 generalize ts.length = L at *
 go_enter Tryz.func83, Tryz.ntmps83
 go_upto_region 1 with (fail)
 refine wp_opaque (fun w1 hb1 => ?_)
 have hO1 := Own.one hb1
 have hl1 : Later w w1 := hb1.un1
 clear hb1
 obtain ⟨A, hA⟩ : ∃ A, w.heap.size = A := ⟨_, rfl⟩
 rw [hA] at hO1 ⊢
 obtain ⟨⟨zA, cA, fA⟩, -⟩ := hO1
 have k0 : w1.cell? ⟨A, 0, none⟩ = some (.int .i64 pl) := cA 0
 have k1 : w1.cell? ⟨A, 1, none⟩ = some (.int .i64 day) := cA 1
 have k2 : w1.cell? ⟨A, 2, none⟩ = some (.int .i64 n) := cA 2
 have k3 : w1.cell? ⟨A, 3, none⟩ = some (.int .i64 d) := cA 3
 have s4 : w1.cell? ⟨b, 4, none⟩ = some (.slice (some ⟨tb, tq, none⟩) L tc) := (HST.out.later hl1).own.1.2.1 4
 have s5 : w1.cell? ⟨b, 5, none⟩ = some (.int .i64 tod) := (HST.out.later hl1).own.1.2.1 5
 have hzb1 : b < w1.heap.size := Nat.lt_of_lt_of_le hzb hl1.size
 have hl01 := hw0.trans hl1
 have hz1 := hl1.size
 clear cA fA
 refine wp_region_plan 7 (.one [0, 1, 2] 3 (.done [4, 5, 6])) (by kernel_rfl) (by kernel_rfl) (fun _ _ d _ _ h => by cases d <;> exact h) ?_
 repeat' (first
  | ((first | refine plan_done (fun K hK => ?_) | refine plan_one (by rfl) (fun K hK => ?_)); (first | (simp only [zq9]; repeat (go_big_quiet_step (fail))) | simp only [pick_nil]); refine wpQuiet_nil (hK _ ?_); clear hK K)
  | ((with_reducible refine at_list ?_); go_wp2_with (fail); first | refine behind_store (t := 7) (by decide) ?_ | refine behind (by with_reducible repeat (first | exact zq1 _ | assumption | refine zq2 ?_ | refine zq5 ?_ _ | refine zq6 ?_ _ | refine zq7 ?_ | refine zq8 ?_ (by assumption))) ?_))
 go_upto_region 4 with (fail)
 refine wp_region_plan 12 (.one [0, 4, 5] 1 (.one [2, 3] 6 (.done [7, 8, 9, 10, 11]))) (by kernel_rfl) (by kernel_rfl) (fun _ _ d _ _ h => by cases d <;> exact h) ?_
 repeat' (first
  | ((first | refine plan_done (fun K hK => ?_) | refine plan_one (by rfl) (fun K hK => ?_)); (first | (simp only [zq9]; repeat (go_big_quiet_step (fail))) | simp only [pick_nil]); refine wpQuiet_nil (hK _ ?_); clear hK K)
  | ((with_reducible refine at_list ?_); go_wp2_with ((go_at_call 125; go_must (refine (HBL.out _ (hl01.trans (by repeat (first | with_reducible (first | exact zq1 _ | assumption | refine zq2 ?_ | refine zq4 ?_ ?_ _ | refine zq5 ?_ _ | refine zq6 ?_ _ | refine zq7 ?_ | refine zq8 ?_ (by assumption)) | (simp only [zq10]; omega) | (simp; done) | (simp; omega))))).mono ?_; rintro e w3 ⟨vb, rfl, hrow, hb3⟩; (try simp only [World.size_alloc, World.size_drew] at hrow); obtain ⟨pb9, cb9, rfl⟩ := B.owns_form hrow))); first | refine behind_store (t := 12) (by decide) ?_ | refine behind (by with_reducible repeat (first | exact zq1 _ | assumption | refine zq2 ?_ | refine zq5 ?_ _ | refine zq6 ?_ _ | refine zq7 ?_ | refine zq8 ?_ (by assumption))) ?_))
 have hl3 : Later w1 w3 := by first | exact hb3.undrew | exact hb3.undrew.undrew | exact hb3
 have HI3 := Lib.hid (B.owns_ints hrow).1
 have HB3 : Hid (∀ k, (Value.slice pb9 l.length cb9).ownBlock = some k → A ≤ k) := Lib.hid (fun k hk => by have := (hrow.lt k hk).1; rw [hA] at hz1; omega)
 obtain ⟨tb', tq', tc', htv, hzt, hcap, y0, y1, y2, y3, y4⟩ := HN0.out w3 (hl01.trans hl3)
 cases htv
 replace k0 := (bcell hl3).1 _ 0 zA |>.trans k0
 replace k1 := (bcell hl3).1 _ 1 zA |>.trans k1
 replace k2 := (bcell hl3).1 _ 2 zA |>.trans k2
 replace k3 := (bcell hl3).1 _ 3 zA |>.trans k3
 replace s4 := (bcell hl3).1 _ 4 hzb1 |>.trans s4
 have zA3 := Nat.lt_of_lt_of_le zA hl3.size
 have hzb3 := Nat.lt_of_lt_of_le hzb1 hl3.size
 have hl13 := hl1.trans hl3
 clear hrow hb3 s5 HBL HN0 zA hzb1 y1 y2 y3 y4
 go_upto_region 6 with (fail)
 refine wp_region_plan 9 (.one [0, 4, 5] 1 (.done [2, 3, 6, 7, 8])) (by kernel_rfl) (by kernel_rfl) (fun _ _ d _ _ h => by cases d <;> exact h) ?_
 repeat' (first
  | ((first | refine plan_done (fun K hK => ?_) | refine plan_one (by rfl) (fun K hK => ?_)); (first | (simp only [zq9]; repeat (go_big_quiet_step (fail))) | simp only [pick_nil]); refine wpQuiet_nil (hK _ ?_); clear hK K)
  | ((with_reducible refine at_list ?_); go_wp2_with (fail); first | refine behind_store (t := 9) (by decide) ?_ | refine behind (by with_reducible repeat (first | exact zq1 _ | assumption | refine zq2 ?_ | refine zq5 ?_ _ | refine zq6 ?_ _ | refine zq7 ?_ | refine zq8 ?_ (by assumption))) ?_))
 have HCC := Lib.hid (fun W1 (hl : Later w3 W1) => HC.out W1 (hl13.trans hl) _ (HI3.out.later hl) (fun k hk => by rw [hA]; exact HB3.out k hk))
 go_wp2_with (go_at_call 127; go_must (refine (HCC.out _ (by repeat (first | with_reducible (first | exact zq1 _ | assumption | refine zq2 ?_ | refine zq4 ?_ ?_ _ | refine zq5 ?_ _ | refine zq6 ?_ _ | refine zq7 ?_ | refine zq8 ?_ (by assumption)) | (simp only [zq10]; omega) | (simp; done) | (simp; omega)))).mono ?_; rintro e w9 ⟨c9, rfl, hP9⟩))
 exact hP9
set_option maxHeartbeats 3200000 in
theorem tdo_cond {w0 : World} {ts : List Nd} {T : Tm} {tv : Value} {fx : FxL} {ch : ChL} {p m1 m2 : Nat} (hJ : JobAt w0 ts T tv fx ch p m1 m2) (w : World) (hw0 : Later w0 w) (b : Nat) (tod : Int) (nv kv fv wv : Value) (H K : List Hd) (F : List Fl) (W : List Wt)
  (hst : TurnAt w0.heap.size w b tv tod (.pointer (some ⟨p, 0, none⟩)) nv kv fv wv H K F W) (a b' vn vd : Int) (l : List Tm) (pl : Nat) (day n d : Int) (hT : TmAt ts pl (.node ⟨15, a, b', vn, vd⟩ l)) (hdt : ¬ tod < day) (P : Ending → World → Prop)
  (hc : ∀ W1, Later w W1 → ∀ bv, IsInts W1 bv (placesI pl l l.length) → (∀ k, bv.ownBlock = some k → w.heap.size ≤ k) → Calls Tryz.prog 128 #[.pointer (some ⟨b, 0, none⟩), .agg #[.int .i64 pl, .int .i64 day, .int .i64 n, .int .i64 d], bv] W1 fun e w' => ∃ c : Int, e = .returned (.int .i64 c) ∧ P (.returned (.int .i64 c)) w') :
  Calls Tryz.prog 83 #[.pointer (some ⟨b, 0, none⟩), .agg #[.int .i64 pl, .int .i64 day, .int .i64 n, .int .i64 d]] w P := by
 have hk : pl < ts.length := by have := hT.le; have := (Tm.node ⟨15, a, b', vn, vd⟩ l).size_pos; omega
 have hnd : ts[pl] = ⟨15, a, b', vn, vd⟩ := by have := hT.root.1; rw [List.getElem?_eq_getElem hk] at this; exact Option.some.inj this
 have hmf : ∀ (fn : Fn) (first cap : Array Value) (w : World), (Instr.makeFunc fn first cap).run Tryz.prog w = .ok (.func fn first cap) w := fun _ _ _ _ => rfl
 obtain ⟨tb, tq, tc, rfl, -, -, -⟩ := hJ.nodes.full hk
 have HBL := Lib.hid (fun W1 (hl1 : Later w0 W1) => tbelow_any ts hJ.len pl ⟨15, a, b', vn, vd⟩ l _ W1 hT (hJ.sh.later hl1) (hJ.nodes.later hl1))
 have HN0 := Lib.hid (fun W1 (hl1 : Later w0 W1) => (hJ.nodes.later hl1).full hk)
 rw [hnd] at HN0
 have HST := Lib.hid hst
 have HC := Lib.hid hc
 have hzb : b < w.heap.size := hst.own.1.1
 have hkI : (pl : Int) < (ts.length : Int) := by omega
 obtain ⟨PL, hPL⟩ : ∃ Q, placesI pl l l.length = Q := ⟨_, rfl⟩
 have HPL := Lib.hid (placesI_length pl l l.length)
 rw [hPL] at HBL HC HPL
 clear hst hJ hc hnd hT hPL
 generalize ts.length = L at *
 go_enter Tryz.func83, Tryz.ntmps83
 go_upto_region 1 with (fail)
 refine wp_opaque (fun w1 hb1 => ?_)
 have hO1 := Own.one hb1
 have hl1 : Later w w1 := hb1.un1
 clear hb1
 obtain ⟨A, hA⟩ : ∃ A, w.heap.size = A := ⟨_, rfl⟩
 rw [hA] at hO1 ⊢
 obtain ⟨⟨zA, cA, fA⟩, -⟩ := hO1
 have k0 : w1.cell? ⟨A, 0, none⟩ = some (.int .i64 pl) := cA 0
 have k1 : w1.cell? ⟨A, 1, none⟩ = some (.int .i64 day) := cA 1
 have k2 : w1.cell? ⟨A, 2, none⟩ = some (.int .i64 n) := cA 2
 have k3 : w1.cell? ⟨A, 3, none⟩ = some (.int .i64 d) := cA 3
 have s4 : w1.cell? ⟨b, 4, none⟩ = some (.slice (some ⟨tb, tq, none⟩) L tc) := (HST.out.later hl1).own.1.2.1 4
 have s5 : w1.cell? ⟨b, 5, none⟩ = some (.int .i64 tod) := (HST.out.later hl1).own.1.2.1 5
 have hzb1 : b < w1.heap.size := Nat.lt_of_lt_of_le hzb hl1.size
 have hl01 := hw0.trans hl1
 have hz1 := hl1.size
 clear cA fA
 refine wp_region_plan 7 (.one [0, 1, 2] 3 (.done [4, 5, 6])) (by kernel_rfl) (by kernel_rfl) (fun _ _ d _ _ h => by cases d <;> exact h) ?_
 repeat' (first
  | ((first | refine plan_done (fun K hK => ?_) | refine plan_one (by rfl) (fun K hK => ?_)); (first | (simp only [zq9]; repeat (go_big_quiet_step (fail))) | simp only [pick_nil]); refine wpQuiet_nil (hK _ ?_); clear hK K)
  | ((with_reducible refine at_list ?_); go_wp2_with (fail); first | refine behind_store (t := 7) (by decide) ?_ | refine behind (by with_reducible repeat (first | exact zq1 _ | assumption | refine zq2 ?_ | refine zq5 ?_ _ | refine zq6 ?_ _ | refine zq7 ?_ | refine zq8 ?_ (by assumption))) ?_))
 go_upto_region 4 with (fail)
 refine wp_region_plan 12 (.one [0, 4, 5] 1 (.one [2, 3] 6 (.done [7, 8, 9, 10, 11]))) (by kernel_rfl) (by kernel_rfl) (fun _ _ d _ _ h => by cases d <;> exact h) ?_
 repeat' (first
  | ((first | refine plan_done (fun K hK => ?_) | refine plan_one (by rfl) (fun K hK => ?_)); (first | (simp only [zq9]; repeat (go_big_quiet_step (fail))) | simp only [pick_nil]); refine wpQuiet_nil (hK _ ?_); clear hK K)
  | ((with_reducible refine at_list ?_); go_wp2_with ((go_at_call 125; go_must (refine (HBL.out _ (hl01.trans (by repeat (first | with_reducible (first | exact zq1 _ | assumption | refine zq2 ?_ | refine zq4 ?_ ?_ _ | refine zq5 ?_ _ | refine zq6 ?_ _ | refine zq7 ?_ | refine zq8 ?_ (by assumption)) | (simp only [zq10]; omega) | (simp; done) | (simp; omega))))).mono ?_; rintro e w3 ⟨vb, rfl, hrow, hb3⟩; (try simp only [World.size_alloc, World.size_drew] at hrow); obtain ⟨pb9, cb9, rfl⟩ := B.owns_form hrow))); first | refine behind_store (t := 12) (by decide) ?_ | refine behind (by with_reducible repeat (first | exact zq1 _ | assumption | refine zq2 ?_ | refine zq5 ?_ _ | refine zq6 ?_ _ | refine zq7 ?_ | refine zq8 ?_ (by assumption))) ?_))
 have hl3 : Later w1 w3 := by first | exact hb3.undrew | exact hb3.undrew.undrew | exact hb3
 have HI3 := Lib.hid (B.owns_ints hrow).1
 have HB3 : Hid (∀ k, (Value.slice pb9 l.length cb9).ownBlock = some k → A ≤ k) := Lib.hid (fun k hk => by have := (hrow.lt k hk).1; rw [hA] at hz1; omega)
 obtain ⟨tb', tq', tc', htv, hzt, hcap, y0, y1, y2, y3, y4⟩ := HN0.out w3 (hl01.trans hl3)
 cases htv
 replace k0 := (bcell hl3).1 _ 0 zA |>.trans k0
 replace k1 := (bcell hl3).1 _ 1 zA |>.trans k1
 replace k2 := (bcell hl3).1 _ 2 zA |>.trans k2
 replace k3 := (bcell hl3).1 _ 3 zA |>.trans k3
 replace s4 := (bcell hl3).1 _ 4 hzb1 |>.trans s4
 have zA3 := Nat.lt_of_lt_of_le zA hl3.size
 have hzb3 := Nat.lt_of_lt_of_le hzb1 hl3.size
 have hl13 := hl1.trans hl3
 clear hrow hb3 s5 HBL HN0 zA hzb1 y1 y2 y3 y4
 go_upto_region 6 with (fail)
 refine wp_region_plan 9 (.one [0, 4, 5] 1 (.done [2, 3, 6, 7, 8])) (by kernel_rfl) (by kernel_rfl) (fun _ _ d _ _ h => by cases d <;> exact h) ?_
 repeat' (first
  | ((first | refine plan_done (fun K hK => ?_) | refine plan_one (by rfl) (fun K hK => ?_)); (first | (simp only [zq9]; repeat (go_big_quiet_step (fail))) | simp only [pick_nil]); refine wpQuiet_nil (hK _ ?_); clear hK K)
  | ((with_reducible refine at_list ?_); go_wp2_with (fail); first | refine behind_store (t := 9) (by decide) ?_ | refine behind (by with_reducible repeat (first | exact zq1 _ | assumption | refine zq2 ?_ | refine zq5 ?_ _ | refine zq6 ?_ _ | refine zq7 ?_ | refine zq8 ?_ (by assumption))) ?_))
 have HCC := Lib.hid (fun W1 (hl : Later w3 W1) => HC.out W1 (hl13.trans hl) _ (HI3.out.later hl) (fun k hk => by rw [hA]; exact HB3.out k hk))
 go_wp2_with (go_at_call 128; go_must (refine (HCC.out _ (by repeat (first | with_reducible (first | exact zq1 _ | assumption | refine zq2 ?_ | refine zq4 ?_ ?_ _ | refine zq5 ?_ _ | refine zq6 ?_ _ | refine zq7 ?_ | refine zq8 ?_ (by assumption)) | (simp only [zq10]; omega) | (simp; done) | (simp; omega)))).mono ?_; rintro e w9 ⟨c9, rfl, hP9⟩))
 exact hP9
set_option maxHeartbeats 3200000 in
theorem tdo_or {w0 : World} {ts : List Nd} {T : Tm} {tv : Value} {fx : FxL} {ch : ChL} {p m1 m2 : Nat} (hJ : JobAt w0 ts T tv fx ch p m1 m2) (w : World) (hw0 : Later w0 w) (b : Nat) (tod : Int) (nv kv fv wv : Value) (H K : List Hd) (F : List Fl) (W : List Wt)
  (hst : TurnAt w0.heap.size w b tv tod (.pointer (some ⟨p, 0, none⟩)) nv kv fv wv H K F W) (a b' vn vd : Int) (l : List Tm) (pl : Nat) (day n d : Int) (hT : TmAt ts pl (.node ⟨16, a, b', vn, vd⟩ l)) (hdt : ¬ tod < day) (P : Ending → World → Prop)
  (hc : ∀ W1, Later w W1 → ∀ bv, IsInts W1 bv (placesI pl l l.length) → (∀ k, bv.ownBlock = some k → w.heap.size ≤ k) → Calls Tryz.prog 129 #[.pointer (some ⟨b, 0, none⟩), .agg #[.int .i64 pl, .int .i64 day, .int .i64 n, .int .i64 d], bv] W1 fun e w' => ∃ c : Int, e = .returned (.int .i64 c) ∧ P (.returned (.int .i64 c)) w') :
  Calls Tryz.prog 83 #[.pointer (some ⟨b, 0, none⟩), .agg #[.int .i64 pl, .int .i64 day, .int .i64 n, .int .i64 d]] w P := by
 have hk : pl < ts.length := by have := hT.le; have := (Tm.node ⟨16, a, b', vn, vd⟩ l).size_pos; omega
 have hnd : ts[pl] = ⟨16, a, b', vn, vd⟩ := by have := hT.root.1; rw [List.getElem?_eq_getElem hk] at this; exact Option.some.inj this
 have hmf : ∀ (fn : Fn) (first cap : Array Value) (w : World), (Instr.makeFunc fn first cap).run Tryz.prog w = .ok (.func fn first cap) w := fun _ _ _ _ => rfl
 obtain ⟨tb, tq, tc, rfl, -, -, -⟩ := hJ.nodes.full hk
 have HBL := Lib.hid (fun W1 (hl1 : Later w0 W1) => tbelow_any ts hJ.len pl ⟨16, a, b', vn, vd⟩ l _ W1 hT (hJ.sh.later hl1) (hJ.nodes.later hl1))
 have HN0 := Lib.hid (fun W1 (hl1 : Later w0 W1) => (hJ.nodes.later hl1).full hk)
 rw [hnd] at HN0
 have HST := Lib.hid hst
 have HC := Lib.hid hc
 have hzb : b < w.heap.size := hst.own.1.1
 have hkI : (pl : Int) < (ts.length : Int) := by omega
 obtain ⟨PL, hPL⟩ : ∃ Q, placesI pl l l.length = Q := ⟨_, rfl⟩
 have HPL := Lib.hid (placesI_length pl l l.length)
 rw [hPL] at HBL HC HPL
 clear hst hJ hc hnd hT hPL
 generalize ts.length = L at *
 go_enter Tryz.func83, Tryz.ntmps83
 go_upto_region 1 with (fail)
 refine wp_opaque (fun w1 hb1 => ?_)
 have hO1 := Own.one hb1
 have hl1 : Later w w1 := hb1.un1
 clear hb1
 obtain ⟨A, hA⟩ : ∃ A, w.heap.size = A := ⟨_, rfl⟩
 rw [hA] at hO1 ⊢
 obtain ⟨⟨zA, cA, fA⟩, -⟩ := hO1
 have k0 : w1.cell? ⟨A, 0, none⟩ = some (.int .i64 pl) := cA 0
 have k1 : w1.cell? ⟨A, 1, none⟩ = some (.int .i64 day) := cA 1
 have k2 : w1.cell? ⟨A, 2, none⟩ = some (.int .i64 n) := cA 2
 have k3 : w1.cell? ⟨A, 3, none⟩ = some (.int .i64 d) := cA 3
 have s4 : w1.cell? ⟨b, 4, none⟩ = some (.slice (some ⟨tb, tq, none⟩) L tc) := (HST.out.later hl1).own.1.2.1 4
 have s5 : w1.cell? ⟨b, 5, none⟩ = some (.int .i64 tod) := (HST.out.later hl1).own.1.2.1 5
 have hzb1 : b < w1.heap.size := Nat.lt_of_lt_of_le hzb hl1.size
 have hl01 := hw0.trans hl1
 have hz1 := hl1.size
 clear cA fA
 refine wp_region_plan 7 (.one [0, 1, 2] 3 (.done [4, 5, 6])) (by kernel_rfl) (by kernel_rfl) (fun _ _ d _ _ h => by cases d <;> exact h) ?_
 repeat' (first
  | ((first | refine plan_done (fun K hK => ?_) | refine plan_one (by rfl) (fun K hK => ?_)); (first | (simp only [zq9]; repeat (go_big_quiet_step (fail))) | simp only [pick_nil]); refine wpQuiet_nil (hK _ ?_); clear hK K)
  | ((with_reducible refine at_list ?_); go_wp2_with (fail); first | refine behind_store (t := 7) (by decide) ?_ | refine behind (by with_reducible repeat (first | exact zq1 _ | assumption | refine zq2 ?_ | refine zq5 ?_ _ | refine zq6 ?_ _ | refine zq7 ?_ | refine zq8 ?_ (by assumption))) ?_))
 go_upto_region 4 with (fail)
 refine wp_region_plan 12 (.one [0, 4, 5] 1 (.one [2, 3] 6 (.done [7, 8, 9, 10, 11]))) (by kernel_rfl) (by kernel_rfl) (fun _ _ d _ _ h => by cases d <;> exact h) ?_
 repeat' (first
  | ((first | refine plan_done (fun K hK => ?_) | refine plan_one (by rfl) (fun K hK => ?_)); (first | (simp only [zq9]; repeat (go_big_quiet_step (fail))) | simp only [pick_nil]); refine wpQuiet_nil (hK _ ?_); clear hK K)
  | ((with_reducible refine at_list ?_); go_wp2_with ((go_at_call 125; go_must (refine (HBL.out _ (hl01.trans (by repeat (first | with_reducible (first | exact zq1 _ | assumption | refine zq2 ?_ | refine zq4 ?_ ?_ _ | refine zq5 ?_ _ | refine zq6 ?_ _ | refine zq7 ?_ | refine zq8 ?_ (by assumption)) | (simp only [zq10]; omega) | (simp; done) | (simp; omega))))).mono ?_; rintro e w3 ⟨vb, rfl, hrow, hb3⟩; (try simp only [World.size_alloc, World.size_drew] at hrow); obtain ⟨pb9, cb9, rfl⟩ := B.owns_form hrow))); first | refine behind_store (t := 12) (by decide) ?_ | refine behind (by with_reducible repeat (first | exact zq1 _ | assumption | refine zq2 ?_ | refine zq5 ?_ _ | refine zq6 ?_ _ | refine zq7 ?_ | refine zq8 ?_ (by assumption))) ?_))
 have hl3 : Later w1 w3 := by first | exact hb3.undrew | exact hb3.undrew.undrew | exact hb3
 have HI3 := Lib.hid (B.owns_ints hrow).1
 have HB3 : Hid (∀ k, (Value.slice pb9 l.length cb9).ownBlock = some k → A ≤ k) := Lib.hid (fun k hk => by have := (hrow.lt k hk).1; rw [hA] at hz1; omega)
 obtain ⟨tb', tq', tc', htv, hzt, hcap, y0, y1, y2, y3, y4⟩ := HN0.out w3 (hl01.trans hl3)
 cases htv
 replace k0 := (bcell hl3).1 _ 0 zA |>.trans k0
 replace k1 := (bcell hl3).1 _ 1 zA |>.trans k1
 replace k2 := (bcell hl3).1 _ 2 zA |>.trans k2
 replace k3 := (bcell hl3).1 _ 3 zA |>.trans k3
 replace s4 := (bcell hl3).1 _ 4 hzb1 |>.trans s4
 have zA3 := Nat.lt_of_lt_of_le zA hl3.size
 have hzb3 := Nat.lt_of_lt_of_le hzb1 hl3.size
 have hl13 := hl1.trans hl3
 clear hrow hb3 s5 HBL HN0 zA hzb1 y1 y2 y3 y4
 go_upto_region 6 with (fail)
 refine wp_region_plan 9 (.one [0, 4, 5] 1 (.done [2, 3, 6, 7, 8])) (by kernel_rfl) (by kernel_rfl) (fun _ _ d _ _ h => by cases d <;> exact h) ?_
 repeat' (first
  | ((first | refine plan_done (fun K hK => ?_) | refine plan_one (by rfl) (fun K hK => ?_)); (first | (simp only [zq9]; repeat (go_big_quiet_step (fail))) | simp only [pick_nil]); refine wpQuiet_nil (hK _ ?_); clear hK K)
  | ((with_reducible refine at_list ?_); go_wp2_with (fail); first | refine behind_store (t := 9) (by decide) ?_ | refine behind (by with_reducible repeat (first | exact zq1 _ | assumption | refine zq2 ?_ | refine zq5 ?_ _ | refine zq6 ?_ _ | refine zq7 ?_ | refine zq8 ?_ (by assumption))) ?_))
 have HCC := Lib.hid (fun W1 (hl : Later w3 W1) => HC.out W1 (hl13.trans hl) _ (HI3.out.later hl) (fun k hk => by rw [hA]; exact HB3.out k hk))
 go_wp2_with (go_at_call 129; go_must (refine (HCC.out _ (by repeat (first | with_reducible (first | exact zq1 _ | assumption | refine zq2 ?_ | refine zq4 ?_ ?_ _ | refine zq5 ?_ _ | refine zq6 ?_ _ | refine zq7 ?_ | refine zq8 ?_ (by assumption)) | (simp only [zq10]; omega) | (simp; done) | (simp; omega)))).mono ?_; rintro e w9 ⟨c9, rfl, hP9⟩))
 exact hP9
set_option maxHeartbeats 3200000 in
theorem tdo_first {w0 : World} {ts : List Nd} {T : Tm} {tv : Value} {fx : FxL} {ch : ChL} {p m1 m2 : Nat} (hJ : JobAt w0 ts T tv fx ch p m1 m2) (w : World) (hw0 : Later w0 w) (b : Nat) (tod : Int) (nv kv fv wv : Value) (H K : List Hd) (F : List Fl) (W : List Wt)
  (hst : TurnAt w0.heap.size w b tv tod (.pointer (some ⟨p, 0, none⟩)) nv kv fv wv H K F W) (a b' vn vd : Int) (l : List Tm) (pl : Nat) (day n d : Int) (hT : TmAt ts pl (.node ⟨17, a, b', vn, vd⟩ l)) (hdt : ¬ tod < day) (P : Ending → World → Prop)
  (hc : ∀ W1, Later w W1 → ∀ bv, IsInts W1 bv (placesI pl l l.length) → (∀ k, bv.ownBlock = some k → w.heap.size ≤ k) → Calls Tryz.prog 129 #[.pointer (some ⟨b, 0, none⟩), .agg #[.int .i64 pl, .int .i64 day, .int .i64 n, .int .i64 d], bv] W1 fun e w' => ∃ c : Int, e = .returned (.int .i64 c) ∧ P (.returned (.int .i64 c)) w') :
  Calls Tryz.prog 83 #[.pointer (some ⟨b, 0, none⟩), .agg #[.int .i64 pl, .int .i64 day, .int .i64 n, .int .i64 d]] w P := by
 have hk : pl < ts.length := by have := hT.le; have := (Tm.node ⟨17, a, b', vn, vd⟩ l).size_pos; omega
 have hnd : ts[pl] = ⟨17, a, b', vn, vd⟩ := by have := hT.root.1; rw [List.getElem?_eq_getElem hk] at this; exact Option.some.inj this
 have hmf : ∀ (fn : Fn) (first cap : Array Value) (w : World), (Instr.makeFunc fn first cap).run Tryz.prog w = .ok (.func fn first cap) w := fun _ _ _ _ => rfl
 obtain ⟨tb, tq, tc, rfl, -, -, -⟩ := hJ.nodes.full hk
 have HBL := Lib.hid (fun W1 (hl1 : Later w0 W1) => tbelow_any ts hJ.len pl ⟨17, a, b', vn, vd⟩ l _ W1 hT (hJ.sh.later hl1) (hJ.nodes.later hl1))
 have HN0 := Lib.hid (fun W1 (hl1 : Later w0 W1) => (hJ.nodes.later hl1).full hk)
 rw [hnd] at HN0
 have HST := Lib.hid hst
 have HC := Lib.hid hc
 have hzb : b < w.heap.size := hst.own.1.1
 have hkI : (pl : Int) < (ts.length : Int) := by omega
 obtain ⟨PL, hPL⟩ : ∃ Q, placesI pl l l.length = Q := ⟨_, rfl⟩
 have HPL := Lib.hid (placesI_length pl l l.length)
 rw [hPL] at HBL HC HPL
 clear hst hJ hc hnd hT hPL
 generalize ts.length = L at *
 go_enter Tryz.func83, Tryz.ntmps83
 go_upto_region 1 with (fail)
 refine wp_opaque (fun w1 hb1 => ?_)
 have hO1 := Own.one hb1
 have hl1 : Later w w1 := hb1.un1
 clear hb1
 obtain ⟨A, hA⟩ : ∃ A, w.heap.size = A := ⟨_, rfl⟩
 rw [hA] at hO1 ⊢
 obtain ⟨⟨zA, cA, fA⟩, -⟩ := hO1
 have k0 : w1.cell? ⟨A, 0, none⟩ = some (.int .i64 pl) := cA 0
 have k1 : w1.cell? ⟨A, 1, none⟩ = some (.int .i64 day) := cA 1
 have k2 : w1.cell? ⟨A, 2, none⟩ = some (.int .i64 n) := cA 2
 have k3 : w1.cell? ⟨A, 3, none⟩ = some (.int .i64 d) := cA 3
 have s4 : w1.cell? ⟨b, 4, none⟩ = some (.slice (some ⟨tb, tq, none⟩) L tc) := (HST.out.later hl1).own.1.2.1 4
 have s5 : w1.cell? ⟨b, 5, none⟩ = some (.int .i64 tod) := (HST.out.later hl1).own.1.2.1 5
 have hzb1 : b < w1.heap.size := Nat.lt_of_lt_of_le hzb hl1.size
 have hl01 := hw0.trans hl1
 have hz1 := hl1.size
 clear cA fA
 refine wp_region_plan 7 (.one [0, 1, 2] 3 (.done [4, 5, 6])) (by kernel_rfl) (by kernel_rfl) (fun _ _ d _ _ h => by cases d <;> exact h) ?_
 repeat' (first
  | ((first | refine plan_done (fun K hK => ?_) | refine plan_one (by rfl) (fun K hK => ?_)); (first | (simp only [zq9]; repeat (go_big_quiet_step (fail))) | simp only [pick_nil]); refine wpQuiet_nil (hK _ ?_); clear hK K)
  | ((with_reducible refine at_list ?_); go_wp2_with (fail); first | refine behind_store (t := 7) (by decide) ?_ | refine behind (by with_reducible repeat (first | exact zq1 _ | assumption | refine zq2 ?_ | refine zq5 ?_ _ | refine zq6 ?_ _ | refine zq7 ?_ | refine zq8 ?_ (by assumption))) ?_))
 go_upto_region 4 with (fail)
 refine wp_region_plan 12 (.one [0, 4, 5] 1 (.one [2, 3] 6 (.done [7, 8, 9, 10, 11]))) (by kernel_rfl) (by kernel_rfl) (fun _ _ d _ _ h => by cases d <;> exact h) ?_
 repeat' (first
  | ((first | refine plan_done (fun K hK => ?_) | refine plan_one (by rfl) (fun K hK => ?_)); (first | (simp only [zq9]; repeat (go_big_quiet_step (fail))) | simp only [pick_nil]); refine wpQuiet_nil (hK _ ?_); clear hK K)
  | ((with_reducible refine at_list ?_); go_wp2_with ((go_at_call 125; go_must (refine (HBL.out _ (hl01.trans (by repeat (first | with_reducible (first | exact zq1 _ | assumption | refine zq2 ?_ | refine zq4 ?_ ?_ _ | refine zq5 ?_ _ | refine zq6 ?_ _ | refine zq7 ?_ | refine zq8 ?_ (by assumption)) | (simp only [zq10]; omega) | (simp; done) | (simp; omega))))).mono ?_; rintro e w3 ⟨vb, rfl, hrow, hb3⟩; (try simp only [World.size_alloc, World.size_drew] at hrow); obtain ⟨pb9, cb9, rfl⟩ := B.owns_form hrow))); first | refine behind_store (t := 12) (by decide) ?_ | refine behind (by with_reducible repeat (first | exact zq1 _ | assumption | refine zq2 ?_ | refine zq5 ?_ _ | refine zq6 ?_ _ | refine zq7 ?_ | refine zq8 ?_ (by assumption))) ?_))
 have hl3 : Later w1 w3 := by first | exact hb3.undrew | exact hb3.undrew.undrew | exact hb3
 have HI3 := Lib.hid (B.owns_ints hrow).1
 have HB3 : Hid (∀ k, (Value.slice pb9 l.length cb9).ownBlock = some k → A ≤ k) := Lib.hid (fun k hk => by have := (hrow.lt k hk).1; rw [hA] at hz1; omega)
 obtain ⟨tb', tq', tc', htv, hzt, hcap, y0, y1, y2, y3, y4⟩ := HN0.out w3 (hl01.trans hl3)
 cases htv
 replace k0 := (bcell hl3).1 _ 0 zA |>.trans k0
 replace k1 := (bcell hl3).1 _ 1 zA |>.trans k1
 replace k2 := (bcell hl3).1 _ 2 zA |>.trans k2
 replace k3 := (bcell hl3).1 _ 3 zA |>.trans k3
 replace s4 := (bcell hl3).1 _ 4 hzb1 |>.trans s4
 have zA3 := Nat.lt_of_lt_of_le zA hl3.size
 have hzb3 := Nat.lt_of_lt_of_le hzb1 hl3.size
 have hl13 := hl1.trans hl3
 clear hrow hb3 s5 HBL HN0 zA hzb1 y1 y2 y3 y4
 go_upto_region 6 with (fail)
 refine wp_region_plan 9 (.one [0, 4, 5] 1 (.done [2, 3, 6, 7, 8])) (by kernel_rfl) (by kernel_rfl) (fun _ _ d _ _ h => by cases d <;> exact h) ?_
 repeat' (first
  | ((first | refine plan_done (fun K hK => ?_) | refine plan_one (by rfl) (fun K hK => ?_)); (first | (simp only [zq9]; repeat (go_big_quiet_step (fail))) | simp only [pick_nil]); refine wpQuiet_nil (hK _ ?_); clear hK K)
  | ((with_reducible refine at_list ?_); go_wp2_with (fail); first | refine behind_store (t := 9) (by decide) ?_ | refine behind (by with_reducible repeat (first | exact zq1 _ | assumption | refine zq2 ?_ | refine zq5 ?_ _ | refine zq6 ?_ _ | refine zq7 ?_ | refine zq8 ?_ (by assumption))) ?_))
 have HCC := Lib.hid (fun W1 (hl : Later w3 W1) => HC.out W1 (hl13.trans hl) _ (HI3.out.later hl) (fun k hk => by rw [hA]; exact HB3.out k hk))
 go_wp2_with (go_at_call 129; go_must (refine (HCC.out _ (by repeat (first | with_reducible (first | exact zq1 _ | assumption | refine zq2 ?_ | refine zq4 ?_ ?_ _ | refine zq5 ?_ _ | refine zq6 ?_ _ | refine zq7 ?_ | refine zq8 ?_ (by assumption)) | (simp only [zq10]; omega) | (simp; done) | (simp; omega)))).mono ?_; rintro e w9 ⟨c9, rfl, hP9⟩))
 exact hP9
theorem turnEnd_code {r : St} {kp : List Hd} {w0 : World} {b : Nat} {tv : Value} {tod : Int} {fp : Value} {H K : List Hd} {F : List Fl} {W : List Wt} {e : Ending} {w' : World} (h : TurnEnd r kp w0 b tv tod fp H K F W e w') : ∃ c : Int, e = .returned (.int .i64 c) ∧ TurnEnd r kp w0 b tv tod fp H K F W (.returned (.int .i64 c)) w' := by
 obtain ⟨he, hx⟩ := h
 exact ⟨r.1, he, rfl, hx⟩
theorem step_gone {env : Env} {tod : Int} {h : Hd} (hd : ¬ tod < h.day) : oneH env tod h = stepT env tod h.T.root h.T.kids h.pl h.day h.n h.d := by unfold oneH; rw [if_neg hd]
theorem tdo_any {w0 : World} {ts : List Nd} {T : Tm} {tv : Value} {fx : FxL} {ch : ChL} {p m1 m2 : Nat} (hJ : JobAt w0 ts T tv fx ch p m1 m2) (w : World) (hw0 : Later w0 w) (b : Nat) (tod : Int) (ht0 : -1 ≤ tod) (ht1 : tod ≤ 73048) (nv kv fv wv : Value) (H K : List Hd) (F : List Fl) (W : List Wt)
  (hst : TurnAt w0.heap.size w b tv tod (.pointer (some ⟨p, 0, none⟩)) nv kv fv wv H K F W) (hH : H.length ≤ 1000) (hK : K.length ≤ 1000) (hF : F.length ≤ 1000) (hW : W.length ≤ 90000) (h : Hd) (hh : HdOk ts h) :
  Calls Tryz.prog 83 #[.pointer (some ⟨b, 0, none⟩), .agg #[.int .i64 h.pl, .int .i64 h.day, .int .i64 h.n, .int .i64 h.d]] w (TurnEnd (oneH (envT fx ch) tod h) (keptH (envT fx ch) tod h) w0 b tv tod (.pointer (some ⟨p, 0, none⟩)) H K F W) := by
 by_cases hd : tod < h.day
 ·exact tdo_late hJ w hw0 b tod nv kv fv wv H K F W hst hK hW h hd
 rw [step_gone hd]
 obtain ⟨⟨⟨op, a, b', vn, vd⟩, l⟩, pl, day, n, d⟩ := h
 have hops := contract_ops hh.mc
 have hd' : ¬ tod < day := hd
 show Calls _ _ #[_, .agg #[.int .i64 (pl : Int), .int .i64 day, .int .i64 n, .int .i64 d]] _ (TurnEnd (stepT (envT fx ch) tod ⟨op, a, b', vn, vd⟩ l pl day n d) _ w0 b tv tod _ H K F W)
 have hnew : ∀ (bv : Value) (W1 : World), (∀ k, bv.ownBlock = some k → w.heap.size ≤ k) → ∀ k, bv.ownBlock = some k → k ≠ b ∧ nv.ownBlock ≠ some k := fun bv W1 hz k hk => by
  have h0 := hz k hk
  refine ⟨fun e => ?_, fun e => ?_⟩
  ·have := hst.own.1.1; omega
  ·have := (hst.next.lo k e).2; omega
 have hlen : l.length = manyN op := hh.tm.root.2.2.2
 have : op = 9 ∨ op = 10 ∨ op = 11 ∨ op = 12 ∨ op = 13 ∨ op = 14 ∨ op = 15 ∨ op = 16 ∨ op = 17 := by have h1 := hops.1; have h2 := hops.2; simp only [Tm.root] at h1 h2; omega
 rcases this with rfl | rfl | rfl | rfl | rfl | rfl | rfl | rfl | rfl
 ·have hl' : l.length = 0 := by rw [hlen]; decide
  refine tdo_plain hJ w hw0 b tod nv kv fv wv H K F W hst 9 (by decide) (by decide) (by decide) (by decide) a b' vn vd l pl day n d hh.tm hd' _ (fun W1 hl bv hB hz => (tpl_9 hJ W1 (hw0.trans hl) b tod ht0 ht1 nv kv fv wv H K F W (hst.later hl) hH hK hF hW a b' vn vd l pl day n d hh hd' bv (by rw [hl'] at hB; exact hB) (hnew bv W1 hz)).mono fun e w' he => turnEnd_code he)
 ·have hl' : l.length = 0 := by rw [hlen]; decide
  refine tdo_plain hJ w hw0 b tod nv kv fv wv H K F W hst 10 (by decide) (by decide) (by decide) (by decide) a b' vn vd l pl day n d hh.tm hd' _ (fun W1 hl bv hB hz => (tpl_10 hJ W1 (hw0.trans hl) b tod ht0 ht1 nv kv fv wv H K F W (hst.later hl) hH hK hF hW a b' vn vd l pl day n d hh hd' bv (by rw [hl'] at hB; exact hB) (hnew bv W1 hz)).mono fun e w' he => turnEnd_code he)
 ·have hl' : l.length = 1 := by rw [hlen]; decide
  refine tdo_plain hJ w hw0 b tod nv kv fv wv H K F W hst 11 (by decide) (by decide) (by decide) (by decide) a b' vn vd l pl day n d hh.tm hd' _ (fun W1 hl bv hB hz => (tpl_11 hJ W1 (hw0.trans hl) b tod ht0 ht1 nv kv fv wv H K F W (hst.later hl) hH hK hF hW a b' vn vd l pl day n d hh hd' bv (by rw [hl'] at hB; exact hB) (hnew bv W1 hz)).mono fun e w' he => turnEnd_code he)
 ·have hl' : l.length = 2 := by rw [hlen]; decide
  refine tdo_plain hJ w hw0 b tod nv kv fv wv H K F W hst 12 (by decide) (by decide) (by decide) (by decide) a b' vn vd l pl day n d hh.tm hd' _ (fun W1 hl bv hB hz => (tpl_12 hJ W1 (hw0.trans hl) b tod ht0 ht1 nv kv fv wv H K F W (hst.later hl) hH hK hF hW a b' vn vd l pl day n d hh hd' bv (by rw [hl'] at hB; exact hB) (hnew bv W1 hz)).mono fun e w' he => turnEnd_code he)
 ·have hl' : l.length = 2 := by rw [hlen]; decide
  refine tdo_scale hJ w hw0 b tod nv kv fv wv H K F W hst a b' vn vd l pl day n d hh.tm hd' _ (fun W1 hl bv hB hz => (tsc_13 hJ W1 (hw0.trans hl) b tod ht0 ht1 nv kv fv wv H K F W (hst.later hl) hH hK hF hW a b' vn vd l pl day n d hh hd' bv (by rw [hl'] at hB; exact hB) (hnew bv W1 hz)).mono fun e w' he => turnEnd_code he)
 ·have hl' : l.length = 1 := by rw [hlen]; decide
  refine tdo_plain hJ w hw0 b tod nv kv fv wv H K F W hst 14 (by decide) (by decide) (by decide) (by decide) a b' vn vd l pl day n d hh.tm hd' _ (fun W1 hl bv hB hz => (tpl_14 hJ W1 (hw0.trans hl) b tod ht0 ht1 nv kv fv wv H K F W (hst.later hl) hH hK hF hW a b' vn vd l pl day n d hh hd' bv (by rw [hl'] at hB; exact hB) (hnew bv W1 hz)).mono fun e w' he => turnEnd_code he)
 ·have hl' : l.length = 4 := by rw [hlen]; decide
  refine tdo_cond hJ w hw0 b tod nv kv fv wv H K F W hst a b' vn vd l pl day n d hh.tm hd' _ (fun W1 hl bv hB hz => (tco_15 hJ W1 (hw0.trans hl) b tod ht0 ht1 nv kv fv wv H K F W (hst.later hl) hH hK hF hW a b' vn vd l pl day n d hh hd' bv (by rw [hl'] at hB; exact hB) (hnew bv W1 hz)).mono fun e w' he => turnEnd_code he)
 ·have hl' : l.length = 2 := by rw [hlen]; decide
  refine tdo_or hJ w hw0 b tod nv kv fv wv H K F W hst a b' vn vd l pl day n d hh.tm hd' _ (fun W1 hl bv hB hz => (tch_16 hJ W1 (hw0.trans hl) b tod ht0 ht1 nv kv fv wv H K F W (hst.later hl) hH hK hF hW a b' vn vd l pl day n d hh hd' bv (by rw [hl'] at hB; exact hB) (hnew bv W1 hz)).mono fun e w' he => turnEnd_code he)
 ·have hl' : l.length = 1 := by rw [hlen]; decide
  refine tdo_first hJ w hw0 b tod nv kv fv wv H K F W hst a b' vn vd l pl day n d hh.tm hd' _ (fun W1 hl bv hB hz => (tch_17 hJ W1 (hw0.trans hl) b tod ht0 ht1 nv kv fv wv H K F W (hst.later hl) hH hK hF hW a b' vn vd l pl day n d hh hd' bv (by rw [hl'] at hB; exact hB) (hnew bv W1 hz)).mono fun e w' he => turnEnd_code he)
end Go.Proofs.YtkjabiabeemfhaaGreatDoor
end
