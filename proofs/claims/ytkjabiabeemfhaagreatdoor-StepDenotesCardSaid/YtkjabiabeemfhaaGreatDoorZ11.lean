/- value: what a number comes to; apply -/
import Derived.Test.YtkjabiabeemfhaaGreatDoorZ10
import Derived.Test.YtkjabiabeemfhaaGreatDoorZ3
set_option linter.all false
set_option linter.all false
section
namespace Go.Proofs.YtkjabiabeemfhaaGreatDoor
open Go.RowKit
set_option maxRecDepth 100000
def fixE (k d n m : Int) : Int := if mayI k d true = 0 then chkE n m else mayI k d true
def fixL (fx : List ((Int × Int) × (Int × Int))) (k d n m : Int) : List ((Int × Int) × (Int × Int)) := if fixE k d n m = 0 then putA fx (k, d) (n, m) else fx
set_option maxHeartbeats 1600000 in
theorem fix_any (p m1 m2 : Nat) (fx : List ((Int × Int) × (Int × Int))) (ch : List ((Int × Int) × Int)) (k d n m : Int) (w : World) (hF : FactsAt w p m1 m2 fx ch) (hk : I64 k) (hd : I64 d) (hn : I64 n) (hm : I64 m) :
  Calls Tryz.prog 72 #[.pointer (some ⟨p, 0, none⟩), .agg #[.int .i64 k, .int .i64 d, .int .i64 n, .int .i64 m]] w fun e w' =>
   e = .returned (.int .i64 (fixE k d n m)) ∧ FactsAt w' p m1 m2 (fixL fx k d n m) ch ∧ w.grownBy w' (some m1) := by
 have HM := Lib.hid (fun W => may_any ⟨p, 0, none⟩ k d true W)
 have HC := Lib.hid (fun W => check_any n m W hn.1 hn.2 hm.1 hm.2)
 have hE : fixE k d n m = if mayI k d true = 0 then chkE n m else mayI k d true := rfl
 by_cases h1 : mayI k d true = 0
 ·rw [if_pos h1] at hE
  rw [h1] at HM
  by_cases h2 : chkE n m = 0
  ·rw [h2] at hE HC
   have hL : fixL fx k d n m = putA fx (k, d) (n, m) := by unfold fixL; rw [if_pos hE]
   rw [hE, hL]
   obtain ⟨lit, hlit⟩ := place_key (k, d) hk hd
   have hO := Lib.hid (own_alloc w #[.int .i64 k, .int .i64 d, .int .i64 n, .int .i64 m] 141)
   have hFF := Lib.hid hF
   have g0 := hF.c0
   have z0 := World.block_lt_of_cell? _ _ g0
   have HLIT := Lib.hid hlit
   clear hF h1 h2 hE hL hk hd hn hm hlit
   go_enter Tryz.func72, Tryz.ntmps72
   go_wp2_with (first
    | (go_at_call 111; go_must (refine (HM.out _).mono ?_; rintro e w1 ⟨rfl, rfl⟩))
    | (go_at_call 112; go_must (refine (HC.out _).mono ?_; rintro e w2 ⟨rfl, hb2⟩)))
   obtain ⟨z3, c3, -⟩ := own_get (hO.out.later hb2)
   have i0 := c3 0
   have i1 := c3 1
   have i2 := c3 2
   have i3 := c3 3
   have hl2 : Later w w2 := Later.un1 hb2
   have g2 := ((bcell hl2).1 _ _ z0).trans g0
   have hX := Lib.hid ((hFF.out.x1.later hl2))
   simp only [List.getElem?_toArray, List.getElem?_cons_zero, List.getElem?_cons_succ] at i0 i1 i2 i3
   have hz := Later.size hl2
   clear c3 hO g0
   refine wp_region_plan 10 (.one [0, 4, 5, 6, 7, 8, 9] 1 (.one [2, 3] 10 (.done []))) (by kernel_rfl) (by kernel_rfl) (fun _ _ d _ _ h => by cases d <;> exact h) ?_
   repeat' (first
    | ((first | refine plan_done (fun K hK => ?_) | refine plan_one (by rfl) (fun K hK => ?_)); (first | (simp only [zq9]; repeat (go_big_quiet_step (fail))) | simp only [pick_nil]); refine wpQuiet_nil (hK _ ?_); clear hK K)
    | ((with_reducible refine at_list ?_); go_wp2_with ((refine wpList_put place_law placeV_inj Tryz.underlying144 (hX.out.later (by repeat (first | with_reducible (first | exact zq1 _ | assumption | refine zq2 ?_ | refine zq4 ?_ ?_ _ | refine zq5 ?_ _ | refine zq6 ?_ _ | refine zq7 ?_ | refine zq8 ?_ (by assumption)) | (simp only [zq10]; omega) | (simp; done) | (simp; omega)))) rfl _ _ _ rfl rfl (k, d) (n, m) rfl rfl HLIT.out ?_; intro w3 hm3 hg3)); first | refine behind_store (t := 10) (by decide) ?_ | refine behind (by with_reducible repeat (first | exact zq1 _ | assumption | refine zq2 ?_ | refine zq5 ?_ _ | refine zq6 ?_ _ | refine zq7 ?_ | refine zq8 ?_ (by assumption))) ?_))
   go_wp2
   go_ret
   have hgo : w.grownBy w3 (some m1) := grownBy_trans (grownBy_later (by repeat (first | with_reducible (first | exact zq1 _ | assumption | refine zq2 ?_ | refine zq4 ?_ ?_ _ | refine zq5 ?_ _ | refine zq6 ?_ _ | refine zq7 ?_ | refine zq8 ?_ (by assumption)) | (simp only [zq10]; omega) | (simp; done) | (simp; omega))) _) hg3
   exact ⟨rfl, ⟨cell_kept hFF.out.c0 hgo hFF.out.x1.obj, cell_kept hFF.out.c1 hgo hFF.out.x1.obj, hm3, hFF.out.x2.kept hgo (by have := hFF.out.ne; simp; omega), hFF.out.ne⟩, hgo⟩
  ·have hE0 : fixE k d n m ≠ 0 := by rw [hE]; exact h2
   have hL : fixL fx k d n m = fx := by unfold fixL; rw [if_neg hE0]
   rw [hL, hE]
   have h3 : (chkE n m == 0) = false := by simpa using h2
   generalize chkE n m = ck at *
   have hFF := Lib.hid hF
   clear hF h1 h2 hE hL hk hd hn hm hE0
   go_enter Tryz.func72, Tryz.ntmps72
   go_wp2_with (first
    | (go_at_call 111; go_must (refine (HM.out _).mono ?_; rintro e w1 ⟨rfl, rfl⟩))
    | (go_at_call 112; go_must (refine (HC.out _).mono ?_; rintro e w2 ⟨rfl, hb2⟩)))
   go_ret
   have hl2 : Later w w2 := Later.un1 hb2
   exact ⟨rfl, hFF.out.later hl2, grownBy_later hl2 _⟩
 ·rw [if_neg h1] at hE
  have hE0 : fixE k d n m ≠ 0 := by rw [hE]; exact h1
  have hL : fixL fx k d n m = fx := by unfold fixL; rw [if_neg hE0]
  rw [hL, hE]
  have h3 : (mayI k d true == 0) = false := by simpa using h1
  generalize mayI k d true = ck at *
  have hFF := Lib.hid hF
  clear hF h1 hE hL hk hd hn hm hE0 HC
  go_enter Tryz.func72, Tryz.ntmps72
  go_wp2_with (go_at_call 111; go_must (refine (HM.out _).mono ?_; rintro e w1 ⟨rfl, rfl⟩))
  go_ret
  have hl2 : Later w (w.alloc (.cells #[.int .i64 k, .int .i64 d, .int .i64 n, .int .i64 m] 141)) := (Later.refl _).alloc _
  exact ⟨rfl, hFF.out.later hl2, grownBy_later hl2 _⟩
def chooseE (k d p : Int) : Int := mayI k d (p == 1 || p == 2)
def chooseL (ch : List ((Int × Int) × Int)) (k d p : Int) : List ((Int × Int) × Int) := if chooseE k d p = 0 then putA ch (k, d) p else ch
set_option maxHeartbeats 1600000 in
theorem choose_any (p m1 m2 : Nat) (fx : List ((Int × Int) × (Int × Int))) (ch : List ((Int × Int) × Int)) (k d q : Int) (w : World) (hF : FactsAt w p m1 m2 fx ch) (hk : I64 k) (hd : I64 d) :
  Calls Tryz.prog 71 #[.pointer (some ⟨p, 0, none⟩), .agg #[.int .i64 k, .int .i64 d, .int .i64 q]] w fun e w' =>
   e = .returned (.int .i64 (chooseE k d q)) ∧ FactsAt w' p m1 m2 fx (chooseL ch k d q) ∧ w.grownBy w' (some m2) := by
 have HM := Lib.hid (fun W => may_any ⟨p, 0, none⟩ k d (q == 1 || q == 2) W)
 have hE : chooseE k d q = mayI k d (q == 1 || q == 2) := rfl
 obtain ⟨bb, hbb⟩ : ∃ b, (q == 1 || q == 2) = b := ⟨_, rfl⟩
 obtain ⟨lit, hlit⟩ := place_key (k, d) hk hd
 have hO := Lib.hid (own_alloc w #[.int .i64 k, .int .i64 d, .int .i64 q] 152)
 have hFF := Lib.hid hF
 have g0 := hF.c1
 have z0 := World.block_lt_of_cell? _ _ g0
 have HLIT := Lib.hid hlit
 have hcase : (q = 1 ∧ bb = true) ∨ ((q == 1) = false ∧ q = 2 ∧ bb = true) ∨ ((q == 1) = false ∧ (q == 2) = false ∧ bb = false) := by
  rw [← hbb]
  by_cases a : q = 1
  ·left; subst a; exact ⟨rfl, rfl⟩
  ·by_cases b : q = 2
   ·right; left; subst b; exact ⟨rfl, rfl, rfl⟩
   ·right; right
    have a1 : (q == 1) = false := by simpa using a
    have b1 : (q == 2) = false := by simpa using b
    exact ⟨a1, b1, by rw [a1, b1]; rfl⟩
 rw [hbb] at HM hE
 clear hF hk hd hbb hlit
 by_cases h1 : mayI k d bb = 0
 ·have hL : chooseL ch k d q = putA ch (k, d) q := by unfold chooseL; rw [if_pos (hE.trans h1)]
  rw [hL, hE, h1]
  rw [h1] at HM
  clear hL h1 hE
  rcases hcase with ⟨rfl, rfl⟩ | ⟨hq1, rfl, rfl⟩ | ⟨hq1, hq2, rfl⟩
  all_goals
   go_enter Tryz.func71, Tryz.ntmps71
   go_wp2_with (go_at_call 111; go_must (refine (HM.out _).mono ?_; rintro e w1 ⟨rfl, rfl⟩))
   obtain ⟨z3, c3, -⟩ := own_get hO.out
   have i0 := c3 0
   have i1 := c3 1
   have i2 := c3 2
   have hX := Lib.hid (fun W (hl : Later w W) => hFF.out.x2.later hl)
   simp only [List.getElem?_toArray, List.getElem?_cons_zero, List.getElem?_cons_succ] at i0 i1 i2
   clear c3 hO
   refine wp_region_plan 10 (.one [0, 4, 5, 6, 7, 8, 9] 1 (.one [2, 3] 10 (.done []))) (by kernel_rfl) (by kernel_rfl) (fun _ _ d _ _ h => by cases d <;> exact h) ?_
   repeat' (first
    | ((first | refine plan_done (fun K hK => ?_) | refine plan_one (by rfl) (fun K hK => ?_)); (first | (simp only [zq9]; repeat (go_big_quiet_step (fail))) | simp only [pick_nil]); refine wpQuiet_nil (hK _ ?_); clear hK K)
    | ((with_reducible refine at_list ?_); go_wp2_with ((refine wpList_put place_law placeV_inj Tryz.underlying146 (hX.out _ (by repeat (first | with_reducible (first | exact zq1 _ | assumption | refine zq2 ?_ | refine zq4 ?_ ?_ _ | refine zq5 ?_ _ | refine zq6 ?_ _ | refine zq7 ?_ | refine zq8 ?_ (by assumption)) | (simp only [zq10]; omega) | (simp; done) | (simp; omega)))) rfl _ _ _ rfl rfl (k, d) _ rfl rfl HLIT.out ?_; intro w3 hm3 hg3)); first | refine behind_store (t := 10) (by decide) ?_ | refine behind (by with_reducible repeat (first | exact zq1 _ | assumption | refine zq2 ?_ | refine zq5 ?_ _ | refine zq6 ?_ _ | refine zq7 ?_ | refine zq8 ?_ (by assumption))) ?_))
   go_wp2
   go_ret
   have hgo : w.grownBy w3 (some m2) := grownBy_trans (grownBy_later (by repeat (first | with_reducible (first | exact zq1 _ | assumption | refine zq2 ?_ | refine zq4 ?_ ?_ _ | refine zq5 ?_ _ | refine zq6 ?_ _ | refine zq7 ?_ | refine zq8 ?_ (by assumption)) | (simp only [zq10]; omega) | (simp; done) | (simp; omega))) _) hg3
   exact ⟨rfl, ⟨cell_kept hFF.out.c0 hgo hFF.out.x2.obj, cell_kept hFF.out.c1 hgo hFF.out.x2.obj, hFF.out.x1.kept hgo (by have := hFF.out.ne; simp; omega), hm3, hFF.out.ne⟩, hgo⟩
 ·have hL : chooseL ch k d q = ch := by unfold chooseL; rw [if_neg (by rw [hE]; exact h1)]
  rw [hL, hE]
  have h3 : (mayI k d bb == 0) = false := by simpa using h1
  generalize mayI k d bb = ck at *
  clear hL h1 hE
  rcases hcase with ⟨rfl, rfl⟩ | ⟨hq1, rfl, rfl⟩ | ⟨hq1, hq2, rfl⟩
  all_goals
   go_enter Tryz.func71, Tryz.ntmps71
   go_wp2_with (go_at_call 111; go_must (refine (HM.out _).mono ?_; rintro e w1 ⟨rfl, rfl⟩))
   go_ret
   exact ⟨rfl, hFF.out.later (by repeat (first | with_reducible (first | exact zq1 _ | assumption | refine zq2 ?_ | refine zq4 ?_ ?_ _ | refine zq5 ?_ _ | refine zq6 ?_ _ | refine zq7 ?_ | refine zq8 ?_ (by assumption)) | (simp only [zq10]; omega) | (simp; done) | (simp; omega))), grownBy_later (by repeat (first | with_reducible (first | exact zq1 _ | assumption | refine zq2 ?_ | refine zq4 ?_ ?_ _ | refine zq5 ?_ _ | refine zq6 ?_ _ | refine zq7 ?_ | refine zq8 ?_ (by assumption)) | (simp only [zq10]; omega) | (simp; done) | (simp; omega))) _⟩
theorem zero_fixing (w : World) : (zeroValue 141).run Tryz.prog w = .ok (.agg #[.int .i64 0, .int .i64 0, .int .i64 0, .int .i64 0]) w := by kernel_rfl
def gotF (fx : List ((Int × Int) × (Int × Int))) (k d : Int) : Int × Int × Bool := match getA fx (k, d) with | none => (0, 0, false) | some v => (v.1, v.2, true)
set_option maxHeartbeats 1600000 in
theorem fixing_any (p m1 m2 : Nat) (fx : List ((Int × Int) × (Int × Int))) (ch : List ((Int × Int) × Int)) (k d : Int) (w : World) (hF : FactsAt w p m1 m2 fx ch) (hk : I64 k) (hd : I64 d) :
  Calls Tryz.prog 24 #[.pointer (some ⟨p, 0, none⟩), .int .i64 k, .int .i64 d] w fun e w' =>
   e = .returned (.tuple #[.agg #[.int .i64 (gotF fx k d).1, .int .i64 (gotF fx k d).2.1], .bool (gotF fx k d).2.2]) ∧ Later w w' := by
 obtain ⟨lit, hlit⟩ := place_key (k, d) hk hd
 have HL := Lib.hid (fun W (hl : Later w W) => map_lookup place_law placeV_inj Tryz.underlying144 (hF.x1.later hl) (k, d) hlit (zero_fixing W))
 have g0 := hF.c0
 have z0 := World.block_lt_of_cell? _ _ g0
 obtain ⟨g, hg⟩ : ∃ g, gotF fx k d = g := ⟨_, rfl⟩
 have hrun : ∃ a b, ∀ W, Later w W → (Instr.lookup 144 (.map (some m1)) (.agg #[.int .i64 k, .int .i64 d]) true).run Tryz.prog W = .ok (.tuple #[.agg #[.int .i64 a, .int .i64 b, .int .i64 g.1, .int .i64 g.2.1], .bool g.2.2]) W := by
  rw [← hg]
  unfold gotF
  cases hga : getA fx (k, d) with
  | none => exact ⟨0, 0, fun W hl => by have := HL.out W hl; rw [hga] at this; exact this⟩
  | some v => exact ⟨k, d, fun W hl => by have := HL.out W hl; rw [hga] at this; exact this⟩
 obtain ⟨a, b, hrun⟩ := hrun
 rw [hg]
 obtain ⟨g1, g2, g3⟩ := g
 simp only at hrun ⊢
 clear HL hF hk hd hlit hg
 have hl0 : Later w (w.alloc (.cells #[.int .i64 0, .int .i64 0] 53)) := (Later.refl _).alloc _
 have hrun1 := hrun _ hl0
 have hO := Lib.hid (own_alloc w #[.int .i64 0, .int .i64 0] 53)
 go_enter Tryz.func24, Tryz.ntmps24
 go_wp2
 exact bodyPost_ret (v := .tuple #[.agg #[.int .i64 g1, .int .i64 g2], .bool g3]) (by simp [results, Tryz.results24, go_sem]) rfl ⟨rfl, by repeat (first | with_reducible (first | exact zq1 _ | assumption | refine zq2 ?_ | refine zq4 ?_ ?_ _ | refine zq5 ?_ _ | refine zq6 ?_ _ | refine zq7 ?_ | refine zq8 ?_ (by assumption)) | (simp only [zq10]; omega) | (simp; done) | (simp; omega))⟩
structure Fa where
 k : Int
 d : Int
 n : Int
 m : Int
 p : Int
 deriving DecidableEq
def Fa.cs (x : Fa) : List Value := [.int .i64 x.k, .int .i64 x.d, .int .i64 x.n, .int .i64 x.m, .int .i64 x.p]
structure Td where
 c : Bool
 k : Int
 d : Int
 n : Int
 m : Int
 p : Int
def Td.cell (x : Td) : Nat → Value
 | 0 => .bool x.c
 | 1 => .int .i64 x.k
 | 2 => .int .i64 x.d
 | 3 => .int .i64 x.n
 | 4 => .int .i64 x.m
 | _ => .int .i64 x.p
def Td.val (x : Td) : Value := .agg #[.bool x.c, .int .i64 x.k, .int .i64 x.d, .int .i64 x.n, .int .i64 x.m, .int .i64 x.p]
def Td.ok (x : Td) : Prop := I64 x.k ∧ I64 x.d ∧ I64 x.n ∧ I64 x.m ∧ I64 x.p
def wrongT (x : Td) : Int := if x.c then chooseE x.k x.d x.p else fixE x.k x.d x.n x.m
abbrev FxL := List ((Int × Int) × (Int × Int))
abbrev ChL := List ((Int × Int) × Int)
def tellFx (fx : FxL) (x : Td) : FxL := if x.c then fx else fixL fx x.k x.d x.n x.m
def tellCh (ch : ChL) (x : Td) : ChL := if x.c then chooseL ch x.k x.d x.p else ch
theorem tellFx_nodup {fx : FxL} {x : Td} (h : (fx.map (·.1)).Nodup) : ((tellFx fx x).map (·.1)).Nodup := by
 unfold tellFx fixL
 split
 ·exact h
 ·split
  ·exact putA_keys _ _ _ h
  ·exact h
set_option maxHeartbeats 1600000 in
theorem tell_any (p m1 m2 : Nat) (fx : FxL) (ch : ChL) (x : Td) (w : World) (hF : FactsAt w p m1 m2 fx ch) (hx : x.ok) :
  Calls Tryz.prog 26 #[.pointer (some ⟨p, 0, none⟩), x.val] w fun e w' => e = .returned (.int .i64 (wrongT x)) ∧ FactsAt w' p m1 m2 (tellFx fx x) (tellCh ch x) ∧ ∃ mm, (mm = m1 ∨ mm = m2) ∧ w.grownBy w' (some mm) := by
 obtain ⟨c, k, d, n, m, q⟩ := x
 obtain ⟨hk, hd, hn, hm, hp⟩ := hx
 have HF := Lib.hid (fun W (hl : Later w W) => fix_any p m1 m2 fx ch k d n m W (hF.later hl) hk hd hn hm)
 have HC := Lib.hid (fun W (hl : Later w W) => choose_any p m1 m2 fx ch k d q W (hF.later hl) hk hd)
 unfold Td.val
 simp only
 clear hF hk hd hn hm hp
 cases c
 ·show Calls _ _ _ w fun e w' => e = .returned (.int .i64 (fixE k d n m)) ∧ FactsAt w' p m1 m2 (fixL fx k d n m) ch ∧ ∃ mm, (mm = m1 ∨ mm = m2) ∧ w.grownBy w' (some mm)
  clear HC
  generalize fixE k d n m = r at *
  generalize fixL fx k d n m = fx' at *
  go_enter Tryz.func26, Tryz.ntmps26
  go_wp2_with (go_at_call 72; go_must (refine (HF.out _ (by repeat (first | with_reducible (first | exact zq1 _ | assumption | refine zq2 ?_ | refine zq4 ?_ ?_ _ | refine zq5 ?_ _ | refine zq6 ?_ _ | refine zq7 ?_ | refine zq8 ?_ (by assumption)) | (simp only [zq10]; omega) | (simp; done) | (simp; omega)))).mono ?_; rintro e w1 ⟨rfl, hF1, hg1⟩))
  go_ret
  exact ⟨rfl, hF1, m1, .inl rfl, grownBy_trans (grownBy_later (by repeat (first | with_reducible (first | exact zq1 _ | assumption | refine zq2 ?_ | refine zq4 ?_ ?_ _ | refine zq5 ?_ _ | refine zq6 ?_ _ | refine zq7 ?_ | refine zq8 ?_ (by assumption)) | (simp only [zq10]; omega) | (simp; done) | (simp; omega))) _) hg1⟩
 ·show Calls _ _ _ w fun e w' => e = .returned (.int .i64 (chooseE k d q)) ∧ FactsAt w' p m1 m2 fx (chooseL ch k d q) ∧ ∃ mm, (mm = m1 ∨ mm = m2) ∧ w.grownBy w' (some mm)
  clear HF
  generalize chooseE k d q = r at *
  generalize chooseL ch k d q = ch' at *
  go_enter Tryz.func26, Tryz.ntmps26
  go_wp2_with (go_at_call 71; go_must (refine (HC.out _ (by repeat (first | with_reducible (first | exact zq1 _ | assumption | refine zq2 ?_ | refine zq4 ?_ ?_ _ | refine zq5 ?_ _ | refine zq6 ?_ _ | refine zq7 ?_ | refine zq8 ?_ (by assumption)) | (simp only [zq10]; omega) | (simp; done) | (simp; omega)))).mono ?_; rintro e w1 ⟨rfl, hF1, hg1⟩))
  go_ret
  exact ⟨rfl, hF1, m2, .inr rfl, grownBy_trans (grownBy_later (by repeat (first | with_reducible (first | exact zq1 _ | assumption | refine zq2 ?_ | refine zq4 ?_ ?_ _ | refine zq5 ?_ _ | refine zq6 ?_ _ | refine zq7 ?_ | refine zq8 ?_ (by assumption)) | (simp only [zq10]; omega) | (simp; done) | (simp; omega))) _) hg1⟩
noncomputable def wrongV (ts : List Nd) (k : Int) : Int := if ofE ts ≠ 0 then ofE ts else if k < 0 ∨ (ts.length : Int) ≤ k then 10 else if makesI ((ts[k.toNat]?).getD default).op = 1 then 0 else 14
theorem wrongV_zero {ts : List Nd} {k : Int} (h : wrongV ts k = 0) : ∃ T j s, k = (j : Nat) ∧ Good ts T ∧ j < ts.length ∧ TmAt ts j s ∧ makesI s.root.op = 1 ∧ s.sorted = true := by
 unfold wrongV at h
 split at h
 ·rename_i h1; exact absurd h h1
 ·rename_i h1
  have h1 : ofE ts = 0 := by apply Classical.byContradiction; exact fun e => h1 e
  split at h
  ·cases h
  ·rename_i h2
   split at h
   ·rename_i h3
    obtain ⟨T, hT⟩ := good_of h1
    obtain ⟨j, rfl⟩ := Int.eq_ofNat_of_zero_le (show 0 ≤ k by omega)
    have hj : j < ts.length := by omega
    obtain ⟨a1, a2⟩ := hT.at
    obtain ⟨s, hs, _⟩ := tm_at_all a1 (Nat.zero_le j) (by omega)
    refine ⟨T, j, s, rfl, hT, hj, hs, ?_, ?_⟩
    ·obtain ⟨x, l⟩ := s
     have := hs.root.1
     rw [Int.toNat_natCast, this] at h3
     exact h3
    ·have key : ∀ (t : Tm) (k j : Nat) (s : Tm), TmAt ts k t → t.sorted = true → k ≤ j → j < k + t.size → TmAt ts j s → s.sorted = true := by
      intro t k j s ht hts h5 h6 hs
      cases hss : s.sorted with
      | true => rfl
      | false =>
       obtain ⟨i, r, b1, b2, b3, b4⟩ := unsorted_at hs hss
       have hle : i < k + t.size := by
        obtain ⟨s', c1, c2⟩ := tm_at_all ht h5 h6
        rw [TmAt.unique hs c1] at b2
        omega
       have := sorted_at ht hts (by omega) hle b3
       rw [this] at b4; cases b4
     exact key T 0 j s a1 hT.sorted (Nat.zero_le _) (by omega) hs
   ·cases h
set_option maxHeartbeats 1600000 in
theorem right_any (ts : List Nd) (hlen : ts.length ≤ 100000) (hok : ∀ x ∈ ts, x.ok) (v : Value) (k : Int) (w : World) (hS : Shapes w) (hN : IsNodes w v ts) :
  Calls Tryz.prog 187 #[v, .int .i64 k] w fun e w' => e = .returned (.int .i64 (wrongV ts k)) ∧ Later w w' := by
 have HC := Lib.hid (tterm_any ts hlen hok v w hS hN)
 obtain ⟨p, cp, rfl⟩ := hN.form
 obtain ⟨E, hE⟩ : ∃ E, ofE ts = E := ⟨_, rfl⟩
 obtain ⟨s0, hs0⟩ : ∃ E, ofS ts = E := ⟨_, rfl⟩
 rw [hE, hs0] at HC
 have hW : wrongV ts k = if E ≠ 0 then E else if k < 0 ∨ (ts.length : Int) ≤ k then 10 else if makesI ((ts[k.toNat]?).getD default).op = 1 then 0 else 14 := by unfold wrongV; rw [hE]
 rw [hW]
 clear hW hE hs0
 by_cases h0 : E = 0
 ·subst h0
  rw [if_neg (by simp)]
  by_cases h1 : k < 0
  ·rw [if_pos (.inl h1)]
   clear hN hS
   generalize ts.length = L at *
   go_enter Tryz.func187, Tryz.ntmps187
   go_wp2_with (go_at_call 77; go_must (refine HC.out.mono ?_; rintro e w1 ⟨rfl, hb1⟩))
   go_ret
   exact ⟨rfl, hb1⟩
  ·by_cases h2 : (ts.length : Int) ≤ k
   ·rw [if_pos (.inr h2)]
    clear hN hS
    generalize ts.length = L at *
    go_enter Tryz.func187, Tryz.ntmps187
    go_wp2_with (go_at_call 77; go_must (refine HC.out.mono ?_; rintro e w1 ⟨rfl, hb1⟩))
    go_ret
    exact ⟨rfl, hb1⟩
   ·rw [if_neg (by omega)]
    obtain ⟨j, rfl⟩ := Int.eq_ofNat_of_zero_le (show 0 ≤ k by omega)
    have hj : j < ts.length := by omega
    have hx : (ts[(j : Int).toNat]?).getD default = ts[j] := by rw [Int.toNat_natCast, List.getElem?_eq_getElem hj]; rfl
    rw [hx]
    obtain ⟨b, o, cp', hv, hb, hcap, g0, -⟩ := hN.full hj
    have HSO := Lib.hid (fun W (hl : Later w W) => sort_any (ts[j]).op W (hS.later hl))
    generalize (ts[j]).op = op at *
    obtain ⟨mk, hmk⟩ : ∃ m, makesI op = m := ⟨_, rfl⟩
    rw [hmk] at HSO ⊢
    clear hN hS hx hmk
    generalize ts.length = L at *
    cases hv
    by_cases h3 : mk = 1
    ·subst h3
     rw [if_pos rfl]
     go_enter Tryz.func187, Tryz.ntmps187
     go_wp2_with (first
      | (go_at_call 77; go_must (refine HC.out.mono ?_; rintro e w1 ⟨rfl, hb1⟩; have e0 := ((bcell hb1).1 _ _ hb).trans g0))
      | (go_at_call 121; go_must (refine (HSO.out _ hb1).mono ?_; rintro e w2 ⟨rfl, hb2⟩)))
     go_ret
     exact ⟨rfl, hb1.trans hb2⟩
    ·rw [if_neg h3]
     have h4 : (mk != 1) = true := by simpa using h3
     have h5 : (mk == 1) = false := by simpa using h3
     clear h3
     go_enter Tryz.func187, Tryz.ntmps187
     go_wp2_with (first
      | (go_at_call 77; go_must (refine HC.out.mono ?_; rintro e w1 ⟨rfl, hb1⟩; have e0 := ((bcell hb1).1 _ _ hb).trans g0))
      | (go_at_call 121; go_must (refine (HSO.out _ hb1).mono ?_; rintro e w2 ⟨rfl, hb2⟩)))
     go_ret
     exact ⟨rfl, hb1.trans hb2⟩
 ·rw [if_pos h0]
  have h4 : (E != 0) = true := by simpa using h0
  clear hN hS h0
  go_enter Tryz.func187, Tryz.ntmps187
  go_wp2_with (go_at_call 77; go_must (refine HC.out.mono ?_; rintro e w1 ⟨rfl, hb1⟩))
  go_ret
  exact ⟨rfl, hb1⟩
abbrev Q2 := Int × Int
def fitQ (N D : Int) : Int × Option Q2 := (rE N D, if rE N D = 0 then some (rN N D, rD N D) else none)
def applyV (op : Int) : List Q2 → Int × Option Q2
 | [a] => (0, some (-a.1, a.2))
 | [a, b] =>
  if op = 4 then fitQ (a.1 * b.2 + b.1 * a.2) (a.2 * b.2)
  else if op = 5 then fitQ (a.1 * b.2 + -b.1 * a.2) (a.2 * b.2)
  else if op = 6 then fitQ (a.1 * b.1) (a.2 * b.2)
  else if op = 7 then (0, some (if b.1 * a.2 < a.1 * b.2 then b else a))
  else (0, some (if a.1 * b.2 < b.1 * a.2 then b else a))
 | _ => (0, none)
def ratCell (x : Q2) : Nat → Value
 | 0 => .int .i64 x.1
 | _ => .int .i64 x.2
abbrev IsRats (w : World) (v : Value) (l : List Q2) : Prop := IsRow 2 ratCell w v l
def outN (r : Int × Option Q2) : Int := match r.2 with | none => 0 | some v => v.1
def outD (r : Int × Option Q2) : Int := match r.2 with | none => 0 | some v => v.2
theorem fitQ_out (N D : Int) : outN (fitQ N D) = rN N D ∧ outD (fitQ N D) = rD N D := by
 unfold outN outD fitQ
 by_cases h : rE N D = 0
 ·rw [if_pos h]; exact ⟨rfl, rfl⟩
 ·rw [if_neg h]; unfold rN rD; rw [if_neg h, if_neg h]; exact ⟨rfl, rfl⟩
theorem fitQ_valid {N D : Int} (hD : 0 < D) {v : Q2} (h : (fitQ N D).2 = some v) : Valid v.1 v.2 := by
 unfold fitQ at h
 simp only at h
 split at h
 ·rename_i h0
  cases h
  obtain ⟨_, _, _, _, h4⟩ := r_spec hD h0
  exact h4
 ·cases h
theorem applyV_valid {op : Int} {l : List Q2} (hl : ∀ x ∈ l, Valid x.1 x.2) {v : Q2} (h : (applyV op l).2 = some v) : Valid v.1 v.2 := by
 match l, hl, h with
 | [], _, h => cases h
 | [a], hl, h =>
  cases h
  exact valid_neg (hl a (by simp))
 | [a, b], hl, h =>
  have hA := hl a (by simp)
  have hB := hl b (by simp)
  have hd := mul_pos' hA.d0 hB.d0
  unfold applyV at h
  simp only at h
  split at h
  ·exact fitQ_valid hd h
  ·split at h
   ·exact fitQ_valid hd h
   ·split at h
    ·exact fitQ_valid hd h
    ·split at h
     ·cases h; split <;> assumption
     ·cases h; split <;> assumption
 | a :: b :: c :: r, _, h => cases h
def pickQ (sign : Int) (a b : Q2) : Q2 := if 0 < sign * cmpI (a.1 * b.2) (b.1 * a.2) then b else a
set_option maxHeartbeats 1600000 in
theorem pick_any (a b : Q2) (sign : Int) (hs : sign = 1 ∨ sign = -1) (v : Value) (B : Nat) (w : World) (hA : Valid a.1 a.2) (hB : Valid b.1 b.2) (hN : IsRats w v [a, b]) (hc : w.cell? ⟨B, 0, none⟩ = some v) :
  Calls Tryz.prog 208 #[.int .i64 sign, .pointer (some ⟨B, 0, none⟩)] w fun e w' => e = .returned (.tuple #[.agg #[.int .i64 (pickQ sign a b).1, .int .i64 (pickQ sign a b).2], .int .i64 0]) ∧ Later w w' := by
 have HC := Lib.hid (fun W => compare_good a.1 a.2 b.1 b.2 W hA hB)
 obtain ⟨b0, o, cp, rfl, hb, gg⟩ := hN.full (i := 0) (by simp)
 obtain ⟨_, _, _, hv, _, gg1⟩ := hN.full (i := 1) (by simp)
 cases hv
 have g0 := gg 0 (by omega)
 have g1 := gg 1 (by omega)
 have g2 := gg1 0 (by omega)
 have g3 := gg1 1 (by omega)
 simp only [ratCell, List.getElem_cons_zero, List.getElem_cons_succ, Nat.zero_mul, Nat.one_mul, Nat.add_zero, List.length_cons, List.length_nil, Nat.reduceAdd] at g0 g1 g2 g3 hc ⊢
 have hcm : cmpI (a.1 * b.2) (b.1 * a.2) = -1 ∨ cmpI (a.1 * b.2) (b.1 * a.2) = 0 ∨ cmpI (a.1 * b.2) (b.1 * a.2) = 1 := by unfold cmpI; split; exact .inl rfl; split; exact .inr (.inl rfl); exact .inr (.inr rfl)
 obtain ⟨q, hq⟩ : ∃ q, pickQ sign a b = q := ⟨_, rfl⟩
 rw [hq]
 unfold pickQ at hq
 generalize cmpI (a.1 * b.2) (b.1 * a.2) = c at *
 obtain ⟨qn, qd⟩ := q
 obtain ⟨an, ad⟩ := a
 obtain ⟨bn, bd⟩ := b
 simp only at g0 g1 g2 g3 HC
 have hBl := World.block_lt_of_cell? _ _ hc
 clear hN gg gg1 hA hB
 simp only
 rcases hs with rfl | rfl <;> rcases hcm with rfl | rfl | rfl
 all_goals
  first
   | (have e : ((bn, bd) : Q2) = (qn, qd) := hq; cases e)
   | (have e : ((an, ad) : Q2) = (qn, qd) := hq; cases e)
  clear hq
  go_enter Tryz.func208, Tryz.ntmps208
  go_wp2
  refine wp_region_plan 12 (.one [0, 1, 2, 3, 4, 5] 6 (.done [7, 8, 9, 10, 11])) (by kernel_rfl) (by kernel_rfl) (fun _ _ d _ _ h => by cases d <;> exact h) ?_
  repeat' (first
   | ((first | refine plan_done (fun K hK => ?_) | refine plan_one (by rfl) (fun K hK => ?_)); (first | (simp only [zq9]; repeat (go_big_quiet_step (fail))) | simp only [pick_nil]); refine wpQuiet_nil (hK _ ?_); clear hK K)
   | ((with_reducible refine at_list ?_); go_wp2_with ((go_at_call 137; go_must (refine (HC.out _).mono ?_; rintro e w1 ⟨rfl, hb1⟩; replace hb1 := Later.undrew hb1; have hO := Own.one (Later.trans (Later.refl _) hb1); obtain ⟨zo, co, fo⟩ := own_get hO; have co0 := co 0; have co1 := co 1; have fo0 := fo 0 (by simp); have fo1 := fo 1 (by simp); simp only [List.getElem?_toArray, List.getElem?_cons_zero, List.getElem?_cons_succ] at co0 co1; have hl1 : Later w w1 := Later.un1 hb1; have h0 := ((bcell hl1).1 _ _ hb).trans g0; have h1 := ((bcell hl1).1 _ _ hb).trans g1; have h2 := ((bcell hl1).1 _ _ hb).trans g2; have h3 := ((bcell hl1).1 _ _ hb).trans g3; have hc1 := ((bcell hl1).1 _ _ hBl).trans hc; clear co fo))); first | refine behind_store (t := 12) (by decide) ?_ | refine behind (by with_reducible repeat (first | exact zq1 _ | assumption | refine zq2 ?_ | refine zq5 ?_ _ | refine zq6 ?_ _ | refine zq7 ?_ | refine zq8 ?_ (by assumption))) ?_))
  go_wp2
  exact bodyPost_ret (v := .tuple #[.agg #[.int .i64 qn, .int .i64 qd], .int .i64 0]) (by simp [results, Tryz.results208, go_sem, co0, co1]) rfl ⟨rfl, by repeat (first | with_reducible (first | exact zq1 _ | assumption | refine zq2 ?_ | refine zq4 ?_ ?_ _ | refine zq5 ?_ _ | refine zq6 ?_ _ | refine zq7 ?_ | refine zq8 ?_ (by assumption)) | (simp only [zq10]; omega) | (simp; done) | (simp; omega))⟩
end Go.Proofs.YtkjabiabeemfhaaGreatDoor
end
