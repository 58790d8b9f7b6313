/- facts: their maps; New, may, Fix, Choose, Fixing, Choice -/
import Derived.Test.YtkpadahpepeaoaaDoorJm
set_option linter.all false
namespace Go.Proofs.YtkpadahpepeaoaaDoor
open Go.RowKit
set_option maxRecDepth 100000
open Go.WideMaps Go.ChangeMaps

theorem laid_out : laidOutB Tryd.prog = true := by kernel_rfl
theorem place_deep : Tryd.prog.keyTypeAt 3 97 = true := by kernel_rfl
theorem place_row : (97 : TypeId) < Tryd.prog.types.size := of_decide_eq_true (by kernel_rfl)
theorem place_wide : (match Tryd.prog.underlying 97 with | some (.array _ _) | some (.struct _) => true | _ => false) = true := by kernel_rfl
theorem place_law : KeyLaw Tryd.prog 97 := deep_law_laid laid_out (m := 3) (by omega) place_row place_deep place_wide
def placeV (p : Int × Int) : Value := .agg #[.int .i64 p.1, .int .i64 p.2]
theorem placeV_inj (x y : Int × Int) (h : placeV x = placeV y) : x = y := by
  unfold placeV at h
  simp only [Value.agg.injEq, Array.mk.injEq, List.cons.injEq, Value.int.injEq, true_and, and_true] at h
  exact Prod.ext h.1 h.2
theorem wf_of {x : Int} (h : I64 x) : (Lit.int .i64 x).wf = true := WalkArith.wf_i64 h
theorem place_key (p : Int × Int) (h1 : I64 p.1) (h2 : I64 p.2) : ∃ lit, keyOf Tryd.prog 97 (placeV p) = some lit := by
  have hk : Tryd.prog.keyType 97 = true := by kernel_rfl
  have hc : Tryd.prog.cellsOf 97 = 2 := by kernel_rfl
  have hci : Tryd.prog.cellsOf 3 = 1 := by kernel_rfl
  have hf : (placeV p).formed Tryd.prog 97 = true := by simp [placeV, Value.formed, Tryd.underlying97, hc]
  obtain ⟨n, hn⟩ : ∃ n, Tryd.prog.types.size + 1 = n + 2 := ⟨Tryd.prog.types.size - 1, by have : 1 ≤ Tryd.prog.types.size := of_decide_eq_true (by kernel_rfl); omega⟩
  unfold keyOf
  rw [Tryd.underlying97]
  simp only [hk, hf, Bool.and_self, if_true, hn]
  simp [placeV, Value.cells, Program.keyLits, Tryd.underlying97, hc, hci, Tryd.underlying3, wf_of h1, wf_of h2]

def fixV (p : Int × Int) (v : Int × Int) : Value := .agg #[.int .i64 p.1, .int .i64 p.2, .int .i64 v.1, .int .i64 v.2]
def chV (p : Int × Int) (v : Int) : Value := .agg #[.int .i64 p.1, .int .i64 p.2, .int .i64 v]
abbrev FxMap (w : World) (b : Nat) (l : List ((Int × Int) × (Int × Int))) : Prop := MapL Tryd.prog 97 placeV fixV w b l
abbrev ChMap (w : World) (b : Nat) (l : List ((Int × Int) × Int)) : Prop := MapL Tryd.prog 97 placeV chV w b l
/-- Facts, in memory: the pointer's block, the two maps' blocks, and what they hold. -/
structure FactsAt (w : World) (p m1 m2 : Nat) (fx : List ((Int × Int) × (Int × Int))) (ch : List ((Int × Int) × Int)) : Prop where
  c0 : w.cell? ⟨p, 0, none⟩ = some (.map (some m1))
  c1 : w.cell? ⟨p, 1, none⟩ = some (.map (some m2))
  x1 : FxMap w m1 fx
  x2 : ChMap w m2 ch
  ne : m1 ≠ m2
theorem FactsAt.later {w w' : World} {p m1 m2 : Nat} {fx : List ((Int × Int) × (Int × Int))} {ch : List ((Int × Int) × Int)} (h : FactsAt w p m1 m2 fx ch) (hb : Later w w') : FactsAt w' p m1 m2 fx ch :=
  ⟨((bcell hb).1 _ _ (World.block_lt_of_cell? _ _ h.c0)).trans h.c0, ((bcell hb).1 _ _ (World.block_lt_of_cell? _ _ h.c1)).trans h.c1, h.x1.later hb, h.x2.later hb, h.ne⟩
theorem MapL.obj {κ β : Type} {P : Program} {k : TypeId} {ek : κ → Value} {ev : κ → β → Value} {w : World} {b : Nat} {l : List (κ × β)} (h : MapL P k ek ev w b l) : ∀ r, some b = some r → ∃ o : Obj, w.heap[r]? = some o ∧ o.isCells = false := by
  intro r e; cases e; obtain ⟨es, cl, h1, _⟩ := h; exact ⟨_, h1, rfl⟩
theorem grownBy_trans {w w' w'' : World} {row : Option Nat} (h : w.grownBy w' row) (k : w'.grownBy w'' row) : w.grownBy w'' row :=
  ⟨k.os.trans h.os, k.tape.trans h.tape, k.output.trans h.output, Nat.le_trans h.size k.size, fun i hi hn => (k.block i (Nat.lt_of_lt_of_le hi h.size) hn).trans (h.block i hi hn)⟩
theorem grownBy_later {w w' : World} (hb : Later w w') (row : Option Nat) : w.grownBy w' row := ⟨hb.os, hb.tape, hb.output, hb.size, fun k hk _ => hb.block k hk⟩

set_option maxHeartbeats 800000 in
theorem fnew_any (w : World) : Calls Tryd.prog 22 #[] w fun e w' => ∃ p m1 m2, e = .returned (.pointer (some ⟨p, 0, none⟩)) ∧ FactsAt w' p m1 m2 [] [] ∧ w.heap.size ≤ m1 ∧ w.heap.size ≤ m2 ∧ Later w w' := by
  have hmm := @run_makeMap Tryd.prog
  go_enter Tryd.func22, Tryd.ntmps22
  go_wp2
  go_ret
  refine ⟨w.heap.size + 1 + 1, w.heap.size, w.heap.size + 1, rfl, ?_, by omega, by omega, by repeat (first | with_reducible exact Later.refl _ | with_reducible assumption | with_reducible refine Later.ofdrew ?_ | with_reducible refine Later.ofdrewN ?_ | with_reducible refine Later.setCell ?_ ?_ _ | with_reducible refine Later.alloc ?_ _ | with_reducible refine Later.drewN ?_ _ | with_reducible refine Later.drew ?_ | (with_reducible refine Later.trans ?_ (by assumption)) | (simp only [World.size_setCell, World.size_alloc, World.heap_drewN]; omega) | (simp; done) | (simp; omega))⟩
  have h1 : FxMap (w.alloc (.map #[] 0)) w.heap.size [] := MapL.made w
  have h2 : ChMap ((w.alloc (.map #[] 0)).alloc (.map #[] 0)) (w.heap.size + 1) [] := by have := MapL.made (P := Tryd.prog) (k := 97) (ek := placeV) (ev := chV) (w.alloc (.map #[] 0)); rwa [World.size_alloc] at this
  have h3 := own_alloc ((w.alloc (.map #[] 0)).alloc (.map #[] 0)) #[.map (some w.heap.size), .map (some (w.heap.size + 1))] 95
  simp only [World.size_alloc] at h3
  obtain ⟨z, c, -⟩ := own_get h3
  exact ⟨c 0, c 1, h1.later (((Later.refl _).alloc _).alloc _), h2.later ((Later.refl _).alloc _), by omega⟩

/-- What is wrong with a key and a day. -/
def mayI (key day : Int) (right : Bool) : Int := if (decide (0 ≤ key) && decide (key ≤ 63) && right) = false then 10 else if (decide (0 ≤ day) && decide (day ≤ 73048)) = false then 18 else 0
set_option maxHeartbeats 1600000 in
theorem may_any (p : Addr) (key day : Int) (right : Bool) (w : World) : Calls Tryd.prog 41 #[.pointer (some p), .int .i64 key, .int .i64 day, .bool right] w fun e w' => e = .returned (.int .i64 (mayI key day right)) ∧ w = w' := by
  obtain ⟨r, hr⟩ : ∃ r, mayI key day right = r := ⟨_, rfl⟩
  rw [hr]
  unfold mayI at hr
  have HR := Lib.hid hr
  clear hr
  cases right
  all_goals
    go_enter Tryd.func41, Tryd.ntmps41
    go_wp2
    all_goals
      go_ret
      refine ⟨ret_int ?_, rfl⟩
      rw [← HR.out]
      clear HR
      simp
      try omega
end Go.Proofs.YtkpadahpepeaoaaDoor

/- facts: Fix, Choose, Fixing -/
namespace Go.Proofs.YtkpadahpepeaoaaDoor
open Go.RowKit
set_option maxRecDepth 100000

/-- What is wrong with a fixing. -/
def fixE (k d n m : Int) : Int := if mayI k d true = 0 then chkE n m else mayI k d true
def fixL (fx : List ((Int × Int) × (Int × Int))) (k d n m : Int) : List ((Int × Int) × (Int × Int)) := if fixE k d n m = 0 then putA fx (k, d) (n, m) else fx

set_option maxHeartbeats 1600000 in
theorem fix_any (p m1 m2 : Nat) (fx : List ((Int × Int) × (Int × Int))) (ch : List ((Int × Int) × Int)) (k d n m : Int) (w : World) (hF : FactsAt w p m1 m2 fx ch) (hk : I64 k) (hd : I64 d) (hn : I64 n) (hm : I64 m) :
    Calls Tryd.prog 23 #[.pointer (some ⟨p, 0, none⟩), .agg #[.int .i64 k, .int .i64 d, .int .i64 n, .int .i64 m]] w fun e w' =>
      e = .returned (.int .i64 (fixE k d n m)) ∧ FactsAt w' p m1 m2 (fixL fx k d n m) ch ∧ w.grownBy w' (some m1) := by
  have HM := Lib.hid (fun W => may_any ⟨p, 0, none⟩ k d true W)
  have HC := Lib.hid (fun W => check_any n m W hn.1 hn.2 hm.1 hm.2)
  have hE : fixE k d n m = if mayI k d true = 0 then chkE n m else mayI k d true := rfl
  by_cases h1 : mayI k d true = 0
  · rw [if_pos h1] at hE
    rw [h1] at HM
    by_cases h2 : chkE n m = 0
    · rw [h2] at hE HC
      have hL : fixL fx k d n m = putA fx (k, d) (n, m) := by unfold fixL; rw [if_pos hE]
      rw [hE, hL]
      obtain ⟨lit, hlit⟩ := place_key (k, d) hk hd
      have hO := Lib.hid (own_alloc w #[.int .i64 k, .int .i64 d, .int .i64 n, .int .i64 m] 66)
      have hFF := Lib.hid hF
      have g0 := hF.c0
      have z0 := World.block_lt_of_cell? _ _ g0
      have HLIT := Lib.hid hlit
      clear hF h1 h2 hE hL hk hd hn hm hlit
      go_enter Tryd.func23, Tryd.ntmps23
      go_wp2_with (first
        | (go_at_call 41; go_must (refine (HM.out _).mono ?_; rintro e w1 ⟨rfl, rfl⟩))
        | (go_at_call 42; go_must (refine (HC.out _).mono ?_; rintro e w2 ⟨rfl, hb2⟩)))
      obtain ⟨z3, c3, -⟩ := own_get (hO.out.later hb2)
      have i0 := c3 0
      have i1 := c3 1
      have i2 := c3 2
      have i3 := c3 3
      have hl2 : Later w w2 := Later.un1 hb2
      have g2 := ((bcell hl2).1 _ _ z0).trans g0
      have hX := Lib.hid ((hFF.out.x1.later hl2))
      simp only [List.getElem?_toArray, List.getElem?_cons_zero, List.getElem?_cons_succ] at i0 i1 i2 i3
      have hz := Later.size hl2
      clear c3 hO g0
      refine wp_region_plan 10 (.one [0, 4, 5, 6, 7, 8, 9] 1 (.one [2, 3] 10 (.done []))) (by kernel_rfl) (by kernel_rfl) (fun _ _ d _ _ h => by cases d <;> exact h) ?_
      repeat' (first
        | (refine plan_done (fun K hK => ?_); (first | (simp only [pick_cons, pick_nil, toList_some_append, List.getElem?_toArray, List.getElem?_cons_zero, List.getElem?_cons_succ]; repeat (go_big_quiet_step (fail))) | simp only [pick_nil]); refine wpQuiet_nil (hK _ ?_); clear hK K)
        | (refine plan_one (by rfl) (fun K hK => ?_); (first | (simp only [pick_cons, pick_nil, toList_some_append, List.getElem?_toArray, List.getElem?_cons_zero, List.getElem?_cons_succ]; repeat (go_big_quiet_step (fail))) | simp only [pick_nil]); refine wpQuiet_nil (hK _ ?_); clear hK K)
        | ((with_reducible refine at_list ?_); go_wp2_with ((refine wpList_put place_law placeV_inj Tryd.underlying91 (hX.out.later (by repeat (first | with_reducible exact Later.refl _ | with_reducible assumption | with_reducible refine Later.ofdrew ?_ | with_reducible refine Later.ofdrewN ?_ | with_reducible refine Later.setCell ?_ ?_ _ | with_reducible refine Later.alloc ?_ _ | with_reducible refine Later.drewN ?_ _ | with_reducible refine Later.drew ?_ | (with_reducible refine Later.trans ?_ (by assumption)) | (simp only [World.size_setCell, World.size_alloc, World.heap_drewN]; omega) | (simp; done) | (simp; omega)))) rfl _ _ _ rfl rfl (k, d) (n, m) rfl rfl HLIT.out ?_; intro w3 hm3 hg3)); first | refine behind_store (t := 10) (by decide) ?_ | refine behind (by repeat (first | with_reducible exact Later.refl _ | with_reducible assumption | with_reducible refine Later.ofdrew ?_ | with_reducible refine Later.ofdrewN ?_ | with_reducible refine Later.alloc ?_ _ | with_reducible refine Later.drewN ?_ _ | with_reducible refine Later.drew ?_ | (with_reducible refine Later.trans ?_ (by assumption)))) ?_))
      go_wp2
      go_ret
      have hgo : w.grownBy w3 (some m1) := grownBy_trans (grownBy_later (by repeat (first | with_reducible exact Later.refl _ | with_reducible assumption | with_reducible refine Later.ofdrew ?_ | with_reducible refine Later.ofdrewN ?_ | with_reducible refine Later.setCell ?_ ?_ _ | with_reducible refine Later.alloc ?_ _ | with_reducible refine Later.drewN ?_ _ | with_reducible refine Later.drew ?_ | (with_reducible refine Later.trans ?_ (by assumption)) | (simp only [World.size_setCell, World.size_alloc, World.heap_drewN]; omega) | (simp; done) | (simp; omega))) _) hg3
      exact ⟨rfl, ⟨cell_kept hFF.out.c0 hgo hFF.out.x1.obj, cell_kept hFF.out.c1 hgo hFF.out.x1.obj, hm3, hFF.out.x2.kept hgo (by have := hFF.out.ne; simp; omega), hFF.out.ne⟩, hgo⟩
    · have hE0 : fixE k d n m ≠ 0 := by rw [hE]; exact h2
      have hL : fixL fx k d n m = fx := by unfold fixL; rw [if_neg hE0]
      rw [hL, hE]
      have h3 : (chkE n m == 0) = false := by simpa using h2
      generalize chkE n m = ck at *
      have hFF := Lib.hid hF
      clear hF h1 h2 hE hL hk hd hn hm hE0
      go_enter Tryd.func23, Tryd.ntmps23
      go_wp2_with (first
        | (go_at_call 41; go_must (refine (HM.out _).mono ?_; rintro e w1 ⟨rfl, rfl⟩))
        | (go_at_call 42; go_must (refine (HC.out _).mono ?_; rintro e w2 ⟨rfl, hb2⟩)))
      go_ret
      have hl2 : Later w w2 := Later.un1 hb2
      exact ⟨rfl, hFF.out.later hl2, grownBy_later hl2 _⟩
  · rw [if_neg h1] at hE
    have hE0 : fixE k d n m ≠ 0 := by rw [hE]; exact h1
    have hL : fixL fx k d n m = fx := by unfold fixL; rw [if_neg hE0]
    rw [hL, hE]
    have h3 : (mayI k d true == 0) = false := by simpa using h1
    generalize mayI k d true = ck at *
    have hFF := Lib.hid hF
    clear hF h1 hE hL hk hd hn hm hE0 HC
    go_enter Tryd.func23, Tryd.ntmps23
    go_wp2_with (go_at_call 41; go_must (refine (HM.out _).mono ?_; rintro e w1 ⟨rfl, rfl⟩))
    go_ret
    have hl2 : Later w (w.alloc (.cells #[.int .i64 k, .int .i64 d, .int .i64 n, .int .i64 m] 66)) := (Later.refl _).alloc _
    exact ⟨rfl, hFF.out.later hl2, grownBy_later hl2 _⟩

/-- What is wrong with a choice. -/
def chooseE (k d p : Int) : Int := mayI k d (p == 1 || p == 2)
def chooseL (ch : List ((Int × Int) × Int)) (k d p : Int) : List ((Int × Int) × Int) := if chooseE k d p = 0 then putA ch (k, d) p else ch
set_option maxHeartbeats 1600000 in
theorem choose_any (p m1 m2 : Nat) (fx : List ((Int × Int) × (Int × Int))) (ch : List ((Int × Int) × Int)) (k d q : Int) (w : World) (hF : FactsAt w p m1 m2 fx ch) (hk : I64 k) (hd : I64 d) :
    Calls Tryd.prog 37 #[.pointer (some ⟨p, 0, none⟩), .agg #[.int .i64 k, .int .i64 d, .int .i64 q]] w fun e w' =>
      e = .returned (.int .i64 (chooseE k d q)) ∧ FactsAt w' p m1 m2 fx (chooseL ch k d q) ∧ w.grownBy w' (some m2) := by
  have HM := Lib.hid (fun W => may_any ⟨p, 0, none⟩ k d (q == 1 || q == 2) W)
  have hE : chooseE k d q = mayI k d (q == 1 || q == 2) := rfl
  obtain ⟨bb, hbb⟩ : ∃ b, (q == 1 || q == 2) = b := ⟨_, rfl⟩
  obtain ⟨lit, hlit⟩ := place_key (k, d) hk hd
  have hO := Lib.hid (own_alloc w #[.int .i64 k, .int .i64 d, .int .i64 q] 100)
  have hFF := Lib.hid hF
  have g0 := hF.c1
  have z0 := World.block_lt_of_cell? _ _ g0
  have HLIT := Lib.hid hlit
  have hcase : (q = 1 ∧ bb = true) ∨ ((q == 1) = false ∧ q = 2 ∧ bb = true) ∨ ((q == 1) = false ∧ (q == 2) = false ∧ bb = false) := by
    rw [← hbb]
    by_cases a : q = 1
    · left; subst a; exact ⟨rfl, rfl⟩
    · by_cases b : q = 2
      · right; left; subst b; exact ⟨rfl, rfl, rfl⟩
      · right; right
        have a1 : (q == 1) = false := by simpa using a
        have b1 : (q == 2) = false := by simpa using b
        exact ⟨a1, b1, by rw [a1, b1]; rfl⟩
  rw [hbb] at HM hE
  clear hF hk hd hbb hlit
  by_cases h1 : mayI k d bb = 0
  · have hL : chooseL ch k d q = putA ch (k, d) q := by unfold chooseL; rw [if_pos (hE.trans h1)]
    rw [hL, hE, h1]
    rw [h1] at HM
    clear hL h1 hE
    rcases hcase with ⟨rfl, rfl⟩ | ⟨hq1, rfl, rfl⟩ | ⟨hq1, hq2, rfl⟩
    all_goals
      go_enter Tryd.func37, Tryd.ntmps37
      go_wp2_with (go_at_call 41; go_must (refine (HM.out _).mono ?_; rintro e w1 ⟨rfl, rfl⟩))
      obtain ⟨z3, c3, -⟩ := own_get hO.out
      have i0 := c3 0
      have i1 := c3 1
      have i2 := c3 2
      have hX := Lib.hid (fun W (hl : Later w W) => hFF.out.x2.later hl)
      simp only [List.getElem?_toArray, List.getElem?_cons_zero, List.getElem?_cons_succ] at i0 i1 i2
      clear c3 hO
      refine wp_region_plan 10 (.one [0, 4, 5, 6, 7, 8, 9] 1 (.one [2, 3] 10 (.done []))) (by kernel_rfl) (by kernel_rfl) (fun _ _ d _ _ h => by cases d <;> exact h) ?_
      repeat' (first
        | (refine plan_done (fun K hK => ?_); (first | (simp only [pick_cons, pick_nil, toList_some_append, List.getElem?_toArray, List.getElem?_cons_zero, List.getElem?_cons_succ]; repeat (go_big_quiet_step (fail))) | simp only [pick_nil]); refine wpQuiet_nil (hK _ ?_); clear hK K)
        | (refine plan_one (by rfl) (fun K hK => ?_); (first | (simp only [pick_cons, pick_nil, toList_some_append, List.getElem?_toArray, List.getElem?_cons_zero, List.getElem?_cons_succ]; repeat (go_big_quiet_step (fail))) | simp only [pick_nil]); refine wpQuiet_nil (hK _ ?_); clear hK K)
        | ((with_reducible refine at_list ?_); go_wp2_with ((refine wpList_put place_law placeV_inj Tryd.underlying93 (hX.out _ (by repeat (first | with_reducible exact Later.refl _ | with_reducible assumption | with_reducible refine Later.ofdrew ?_ | with_reducible refine Later.ofdrewN ?_ | with_reducible refine Later.setCell ?_ ?_ _ | with_reducible refine Later.alloc ?_ _ | with_reducible refine Later.drewN ?_ _ | with_reducible refine Later.drew ?_ | (with_reducible refine Later.trans ?_ (by assumption)) | (simp only [World.size_setCell, World.size_alloc, World.heap_drewN]; omega) | (simp; done) | (simp; omega)))) rfl _ _ _ rfl rfl (k, d) _ rfl rfl HLIT.out ?_; intro w3 hm3 hg3)); first | refine behind_store (t := 10) (by decide) ?_ | refine behind (by repeat (first | with_reducible exact Later.refl _ | with_reducible assumption | with_reducible refine Later.ofdrew ?_ | with_reducible refine Later.ofdrewN ?_ | with_reducible refine Later.alloc ?_ _ | with_reducible refine Later.drewN ?_ _ | with_reducible refine Later.drew ?_ | (with_reducible refine Later.trans ?_ (by assumption)))) ?_))
      go_wp2
      go_ret
      have hgo : w.grownBy w3 (some m2) := grownBy_trans (grownBy_later (by repeat (first | with_reducible exact Later.refl _ | with_reducible assumption | with_reducible refine Later.ofdrew ?_ | with_reducible refine Later.ofdrewN ?_ | with_reducible refine Later.setCell ?_ ?_ _ | with_reducible refine Later.alloc ?_ _ | with_reducible refine Later.drewN ?_ _ | with_reducible refine Later.drew ?_ | (with_reducible refine Later.trans ?_ (by assumption)) | (simp only [World.size_setCell, World.size_alloc, World.heap_drewN]; omega) | (simp; done) | (simp; omega))) _) hg3
      exact ⟨rfl, ⟨cell_kept hFF.out.c0 hgo hFF.out.x2.obj, cell_kept hFF.out.c1 hgo hFF.out.x2.obj, hFF.out.x1.kept hgo (by have := hFF.out.ne; simp; omega), hm3, hFF.out.ne⟩, hgo⟩
  · have hL : chooseL ch k d q = ch := by unfold chooseL; rw [if_neg (by rw [hE]; exact h1)]
    rw [hL, hE]
    have h3 : (mayI k d bb == 0) = false := by simpa using h1
    generalize mayI k d bb = ck at *
    clear hL h1 hE
    rcases hcase with ⟨rfl, rfl⟩ | ⟨hq1, rfl, rfl⟩ | ⟨hq1, hq2, rfl⟩
    all_goals
      go_enter Tryd.func37, Tryd.ntmps37
      go_wp2_with (go_at_call 41; go_must (refine (HM.out _).mono ?_; rintro e w1 ⟨rfl, rfl⟩))
      go_ret
      exact ⟨rfl, hFF.out.later (by repeat (first | with_reducible exact Later.refl _ | with_reducible assumption | with_reducible refine Later.ofdrew ?_ | with_reducible refine Later.ofdrewN ?_ | with_reducible refine Later.setCell ?_ ?_ _ | with_reducible refine Later.alloc ?_ _ | with_reducible refine Later.drewN ?_ _ | with_reducible refine Later.drew ?_ | (with_reducible refine Later.trans ?_ (by assumption)) | (simp only [World.size_setCell, World.size_alloc, World.heap_drewN]; omega) | (simp; done) | (simp; omega))), grownBy_later (by repeat (first | with_reducible exact Later.refl _ | with_reducible assumption | with_reducible refine Later.ofdrew ?_ | with_reducible refine Later.ofdrewN ?_ | with_reducible refine Later.setCell ?_ ?_ _ | with_reducible refine Later.alloc ?_ _ | with_reducible refine Later.drewN ?_ _ | with_reducible refine Later.drew ?_ | (with_reducible refine Later.trans ?_ (by assumption)) | (simp only [World.size_setCell, World.size_alloc, World.heap_drewN]; omega) | (simp; done) | (simp; omega))) _⟩

theorem zero_fixing (w : World) : (zeroValue 66).run Tryd.prog w = .ok (.agg #[.int .i64 0, .int .i64 0, .int .i64 0, .int .i64 0]) w := by kernel_rfl
/-- What a look up of a fixing hands back. -/
def gotF (fx : List ((Int × Int) × (Int × Int))) (k d : Int) : Int × Int × Bool := match getA fx (k, d) with | none => (0, 0, false) | some v => (v.1, v.2, true)
set_option maxHeartbeats 1600000 in
theorem fixing_any (p m1 m2 : Nat) (fx : List ((Int × Int) × (Int × Int))) (ch : List ((Int × Int) × Int)) (k d : Int) (w : World) (hF : FactsAt w p m1 m2 fx ch) (hk : I64 k) (hd : I64 d) :
    Calls Tryd.prog 14 #[.pointer (some ⟨p, 0, none⟩), .int .i64 k, .int .i64 d] w fun e w' =>
      e = .returned (.tuple #[.agg #[.int .i64 (gotF fx k d).1, .int .i64 (gotF fx k d).2.1], .bool (gotF fx k d).2.2]) ∧ Later w w' := by
  obtain ⟨lit, hlit⟩ := place_key (k, d) hk hd
  have HL := Lib.hid (fun W (hl : Later w W) => map_lookup place_law placeV_inj Tryd.underlying91 (hF.x1.later hl) (k, d) hlit (zero_fixing W))
  have g0 := hF.c0
  have z0 := World.block_lt_of_cell? _ _ g0
  obtain ⟨g, hg⟩ : ∃ g, gotF fx k d = g := ⟨_, rfl⟩
  have hrun : ∃ a b, ∀ W, Later w W → (Instr.lookup 91 (.map (some m1)) (.agg #[.int .i64 k, .int .i64 d]) true).run Tryd.prog W = .ok (.tuple #[.agg #[.int .i64 a, .int .i64 b, .int .i64 g.1, .int .i64 g.2.1], .bool g.2.2]) W := by
    rw [← hg]
    unfold gotF
    cases hga : getA fx (k, d) with
    | none => exact ⟨0, 0, fun W hl => by have := HL.out W hl; rw [hga] at this; exact this⟩
    | some v => exact ⟨k, d, fun W hl => by have := HL.out W hl; rw [hga] at this; exact this⟩
  obtain ⟨a, b, hrun⟩ := hrun
  rw [hg]
  obtain ⟨g1, g2, g3⟩ := g
  simp only at hrun ⊢
  clear HL hF hk hd hlit hg
  have hl0 : Later w (w.alloc (.cells #[.int .i64 0, .int .i64 0] 29)) := (Later.refl _).alloc _
  have hrun1 := hrun _ hl0
  have hO := Lib.hid (own_alloc w #[.int .i64 0, .int .i64 0] 29)
  go_enter Tryd.func14, Tryd.ntmps14
  go_wp2
  exact bodyPost_ret (v := .tuple #[.agg #[.int .i64 g1, .int .i64 g2], .bool g3]) (by simp [results, Tryd.results14, go_sem]) rfl ⟨rfl, by repeat (first | with_reducible exact Later.refl _ | with_reducible assumption | with_reducible refine Later.ofdrew ?_ | with_reducible refine Later.ofdrewN ?_ | with_reducible refine Later.setCell ?_ ?_ _ | with_reducible refine Later.alloc ?_ _ | with_reducible refine Later.drewN ?_ _ | with_reducible refine Later.drew ?_ | (with_reducible refine Later.trans ?_ (by assumption)) | (simp only [World.size_setCell, World.size_alloc, World.heap_drewN]; omega) | (simp; done) | (simp; omega))⟩
end Go.Proofs.YtkpadahpepeaoaaDoor
