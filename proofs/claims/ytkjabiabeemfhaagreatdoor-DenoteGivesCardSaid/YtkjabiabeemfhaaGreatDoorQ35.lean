/- the arguments of a law, opened and read again: words that hang on no struct -/
import Derived.Test.YtkjabiabeemfhaaGreatDoorQ34
import Derived.Test.YtkjabiabeemfhaaGreatDoorQ15
import Derived.Test.YtkjabiabeemfhaaGreatDoorQ17
import Derived.ArgAppend
import Derived.Test.YtkjabiabeemfhaaGreatDoorQ2
import Derived.Below
import Derived.ChangeSame
import Derived.ProofKit
import Derived.Carry
import Derived.Test.YtkjabiabeemfhaaGreatDoorQ13
import Derived.ReadAgain
import Derived.Deep.Slices
import Derived.OpenShut
import Derived.LaidMore
import Derived.Test.YtkjabiabeemfhaaGreatDoorQ4
import Derived.LaidByTextLater
import Derived.Deep.Strs
import Derived.Test.YtkjabiabeemfhaaGreatDoorQ3
set_option linter.all false
set_option linter.all false
section
/- DenoteUpTo: its walk -/
namespace Go.Proofs.YtkjabiabeemfhaaGreatDoor
open Go.RowKit
set_option maxRecDepth 100000

set_option maxHeartbeats 1600000 in
theorem upto_far (ts : List Nd) (l : List Td) (v u : Value) (day tod d : Int) (w : World) (lok : ∀ x ∈ l, x.ok) (hS : Shapes w) (hN : IsNodes w v ts) (hT : IsTolds w u l) (h : ¬ (ts.length ≤ 100 ∧ l.length ≤ 60 ∧ d ≤ tod ∧ -1 ≤ d)) :
    Calls Tryz.prog 4 #[.agg #[v, .int .i64 day, .int .i64 tod, u], .int .i64 d] w fun e w' => e = .returned (.bool true) ∧ Later w w' := by
  have HAW := Lib.hid (fun W (hl : Later w W) => dawake_any W (hS.later hl))
  have HM := Lib.hid (fun W (hl : Later w W) => made_big l (row_len hT) lok u W (hT.later hl))
  have HFW := Lib.hid (fun W (hl : Later w W) => lfew_any ts l v u day tod W (hN.later hl) (hT.later hl))
  obtain ⟨F, hF⟩ : ∃ F, (decide (ts.length ≤ 100) && decide (l.length ≤ 60)) = F := ⟨_, rfl⟩
  rw [hF] at HFW
  have hcase : F = false ∨ (F = true ∧ tod < d) ∨ (F = true ∧ ¬ tod < d ∧ d < -1) := by
    cases F with
    | false => exact .inl rfl
    | true =>
      simp only [Bool.and_eq_true, decide_eq_true_eq] at hF
      by_cases h1 : tod < d
      · exact .inr (.inl ⟨rfl, h1⟩)
      · exact .inr (.inr ⟨rfl, h1, by omega⟩)
  clear hF h hS hN hT lok
  rcases hcase with rfl | ⟨rfl, h1⟩ | ⟨rfl, h1, h2⟩
  all_goals
    go_enter Tryz.func4, Tryz.ntmps4
    go_upto_region 1 with (fail)
    refine wp_opaque (fun w0 hb0 => ?_)
    have hO0 := Own.one hb0
    have hl0 := hb0.un1
    obtain ⟨z0, d0, -⟩ := own_get hO0
    clear hb0
    go_wp2_with (first
      | (go_at_call 15; go_must (refine (HM.out _ hl0).mono ?_; rintro e w1 ⟨p, m1, m2, rfl, hF1, ge1, ge2, hb1⟩; have hl1 : Later w w1 := hl0.trans hb1; clear hF1 d0 z0; obtain ⟨z0, d0, -⟩ := own_get (hO0.later hb1)))
      | (go_at_call 16; go_must (refine (HFW.out _ hl1).mono ?_; rintro e w2 ⟨rfl, hb2⟩; have hl2 := hl1.trans hb2; clear d0 z0; obtain ⟨z0, d0, -⟩ := own_get (hO0.later (hb1.trans hb2))))
      | (go_at_call 17; go_must (refine (HAW.out _ hl2).mono ?_; rintro e w3 ⟨rfl, hb3⟩)))
    go_ret
    exact ⟨rfl, hl2.trans hb3⟩
/-- What is kept of all flows. -/
def uptoL (d : Int) (l : List Fl) : List Fl := l.filter (fun x => decide (x.day ≤ d))
theorem uptoL_take {d : Int} {l : List Fl} {j : Nat} (h : j < l.length) : uptoL d (l.take (j + 1)) = if (l[j]).day ≤ d then uptoL d (l.take j) ++ [l[j]] else uptoL d (l.take j) := by
  unfold uptoL
  rw [List.take_succ_eq_append_getElem h, List.filter_append]
  by_cases hd : (l[j]).day ≤ d <;> simp [hd]
theorem uptoL_len (d : Int) (l : List Fl) (j : Nat) : (uptoL d (l.take j)).length ≤ l.length := Nat.le_trans (List.length_filter_le _ _) (by rw [List.length_take]; omega)
set_option maxHeartbeats 6400000 in
theorem upto_near (ts : List Nd) (l : List Td) (v u : Value) (day tod d : Int) (w : World) (hok : ∀ x ∈ ts, x.ok) (lok : ∀ x ∈ l, x.ok) (hS : Shapes w) (hN : IsNodes w v ts) (hT : IsTolds w u l) (h1 : ts.length ≤ 100) (h2 : l.length ≤ 60) (h3 : d ≤ tod) (h4 : -1 ≤ d) :
    Calls Tryz.prog 4 #[.agg #[v, .int .i64 day, .int .i64 tod, u], .int .i64 d] w fun e w' => e = .returned (.bool true) ∧ Later w w' := by
  have HAW := Lib.hid (fun W (hl : Later w W) => dawake_any W (hS.later hl))
  have HM := Lib.hid (fun W (hl : Later w W) => made_any l (by omega) lok u W (hT.later hl))
  have HFW := Lib.hid (fun W (hl : Later w W) => lfew_any ts l v u day tod W (hN.later hl) (hT.later hl))
  rw [decide_eq_true h1, decide_eq_true h2, Bool.true_and] at HFW
  have hfc := fcOk_made l lok
  have HPRE := Lib.hid (fun W (hl : Later w W) p m1 m2 hF => (⟨by omega, hok, hS.later hl, hN.later hl, hF, hfc.fo, hfc.co, hfc.cn, Nat.le_trans hfc.cl (by omega)⟩ : PreAt W ts v (madeFx l) (madeCh l) p m1 m2))
  have HA := Lib.hid (fun W (hl : Later w W) p m1 m2 hF => flows_any (HPRE.out W hl p m1 m2 hF) day tod)
  have HB := Lib.hid (fun W (hl : Later w W) p m1 m2 hF => flows_any (HPRE.out W hl p m1 m2 hF) day d)
  have HUP := Lib.hid (fun h0 => upto_plain (env := envT (madeFx l) (madeCh l)) (ts := ts) (day := day) (tod := tod) (d := d) h0 h3 h4)
  have HER := Lib.hid (fun h0 => flows_err (env := envT (madeFx l) (madeCh l)) (ts := ts) (day := day) (tod := tod) h0)
  have HLN : Hid ((flowsT (envT (madeFx l) (madeCh l)) ts day tod).length ≤ 64) := Lib.hid (flows_few _ _ _ _)
  have HLM : Hid ((flowsT (envT (madeFx l) (madeCh l)) ts day d).length ≤ 64) := Lib.hid (flows_few _ _ _ _)
  obtain ⟨E1, hE1⟩ : ∃ E, (outT (envT (madeFx l) (madeCh l)) ts day tod).1 = E := ⟨_, rfl⟩
  obtain ⟨E2, hE2⟩ : ∃ E, (outT (envT (madeFx l) (madeCh l)) ts day d).1 = E := ⟨_, rfl⟩
  rw [hE1] at HA HUP HER
  rw [hE2] at HB HUP
  generalize flowsT (envT (madeFx l) (madeCh l)) ts day tod = A at *
  generalize flowsT (envT (madeFx l) (madeCh l)) ts day d = BL at *
  clear hE1 hE2 hfc HPRE
  have k3 : ¬ tod < d := by omega
  have k4 : ¬ d < -1 := by omega
  obtain ⟨pv, cv, rfl⟩ := hN.form
  obtain ⟨pu, cu, rfl⟩ := hT.form
  clear hS hN hT hok lok h1 h2 h3 h4
  generalize madeFx l = FX at *
  generalize madeCh l = CH at *
  generalize ts.length = L at *
  generalize l.length = M at *
  go_enter Tryz.func4, Tryz.ntmps4
  go_upto_region 1 with (fail)
  refine wp_opaque (fun w0 hb0 => ?_)
  have hO0 := Own.one hb0
  have hl0 := hb0.un1
  obtain ⟨z0, d0, -⟩ := own_get hO0
  clear hb0
  go_upto_region 5 with (first
    | (go_at_call 15; go_must (refine (HM.out _ hl0).mono ?_; rintro e w1 ⟨p, m1, m2, rfl, hF1, ge1, ge2, hb1⟩; have hl1 : Later w w1 := hl0.trans hb1; clear d0 z0; obtain ⟨z0, d0, -⟩ := own_get (hO0.later hb1)))
    | (go_at_call 16; go_must (refine (HFW.out _ hl1).mono ?_; rintro e w2 ⟨rfl, hb2⟩; have hl2 := hl1.trans hb2; clear d0 z0; obtain ⟨z0, d0, -⟩ := own_get (hO0.later (hb1.trans hb2))))
    | (go_at_call 18; go_must (refine (HA.out _ hl2 _ _ _ (hF1.later hb2)).mono ?_; rintro e w3 ⟨va, rfl, hfa, hb3⟩; obtain ⟨qa, ca, rfl⟩ := hfa.form; have hl3 := hl2.trans hb3; clear d0 z0; obtain ⟨z0, d0, -⟩ := own_get (hO0.later (hb1.trans (hb2.trans hb3))))))
  have hb13 := hb2.trans hb3
  have hO3 := hO0.later (hb1.trans hb13)
  have HF3 := Lib.hid (hF1.later hb13)
  have HFA := Lib.hid hfa
  clear hb1 hb2 hb3 hb13 hF1 ge1 ge2 hfa hl0 hl1 hl2 HM HFW HA hO0
  go_upto_region 6 with (go_at_call 18; go_must (refine (HB.out _ hl3 _ _ _ HF3.out).mono ?_; rintro e w4 ⟨vb, rfl, hfb, hb4⟩; obtain ⟨qb, cb, rfl⟩ := hfb.form; have hl4 := hl3.trans hb4; clear d0 z0; obtain ⟨z0, d0, -⟩ := own_get (hO3.later hb4)))
  have hO4 := hO3.later hb4
  have HFA4 := Lib.hid (HFA.out.later hb4)
  have HFB := Lib.hid hfb
  clear hb4 hfb HF3 HFA HB hO3 hl3
  by_cases h0 : E1 = 0
  · subst h0
    obtain ⟨rfl, hB, hall⟩ := HUP.out rfl
    have HBE : Hid (BL = uptoL d A) := Lib.hid hB
    have HALL := Lib.hid hall
    clear hB hall HUP HER
    obtain ⟨N, hN⟩ : ∃ N, A.length = N := ⟨_, rfl⟩
    obtain ⟨K, hK⟩ : ∃ K, BL.length = K := ⟨_, rfl⟩
    have HN := Lib.hid (show A.length = N ∧ BL.length = K from ⟨hN, hK⟩)
    rw [hN] at HLN HFA4
    have hN64 := HLN.out
    rw [hK] at HFB
    rw [hN, hK]
    have HFA5 := HFA4
    clear hN hK
    have D1 := d0 1
    have D2 := d0 2
    simp only [List.getElem?_toArray, List.getElem?_cons_zero, List.getElem?_cons_succ] at D1 D2
    clear d0
    go_upto_region 10 with (fail)
    go_loopw [10, 11] (fun s10 s11 wr => ∃ j : Nat, j ≤ N ∧ s11 = .int .i64 j ∧ Hid (wr.ownsRow w4.heap.size 50 3 s10 (uptoL d (A.take j)).length ((uptoL d (A.take j)).flatMap flCs)) ∧ Later w4 wr) (fun _ s11 _ => N - (intOf s11).toNat)
    case atStart => exact ⟨0, Nat.zero_le _, rfl, Lib.hid (World.ownsRow_nil _ _ _ _), Later.refl _⟩
    case round =>
      obtain ⟨j, hj, rfl, hrow, hlat⟩ := hrel
      have E1 := ((bcell hlat).1 _ 1 z0).trans D1
      have E2 := ((bcell hlat).1 _ 2 z0).trans D2
      obtain ⟨L8, hL8⟩ : ∃ X, uptoL d (A.take j) = X := ⟨_, rfl⟩
      have hlen8 : L8.length ≤ 64 := by rw [← hL8]; exact Nat.le_trans (uptoL_len d A j) (by rw [HN.out.1]; exact HLN.out)
      rw [hL8] at hrow
      have HL8 := Lib.hid hL8
      obtain ⟨n8, hn8⟩ : ∃ n, L8.length = n := ⟨_, rfl⟩
      have HR8 := Lib.hid hrow.out
      rw [hn8] at HR8 hlen8
      obtain ⟨p8, c8, rfl⟩ := B.owns_form HR8.out
      have HN8 := Lib.hid hn8
      have HR8L : Hid (wr.ownsRow w4.heap.size 50 3 (.slice p8 n8 c8) L8.length (L8.flatMap flCs)) := Lib.hid (by rw [hn8]; exact HR8.out)
      clear hL8 hn8 hrow
      by_cases hlt : j < N
      · have hjl : j < A.length := by rw [HN.out.1]; exact hlt
        obtain ⟨b, o, c1, hv, hb, g⟩ := HFA5.out.full (i := j) hjl
        rw [HN.out.1] at hv
        cases hv
        have G0 := g 0 (by decide)
        have G1 := g 1 (by decide)
        have G2 := g 2 (by decide)
        simp only [flF, Nat.add_zero] at G0 G1 G2
        have e0 := ((bcell hlat).1 _ _ hb).trans G0
        have e1 := ((bcell hlat).1 _ _ hb).trans G1
        have e2 := ((bcell hlat).1 _ _ hb).trans G2
        obtain ⟨m1, m2, m3⟩ := HALL.out A[j] (List.getElem_mem hjl)
        have HT := Lib.hid (uptoL_take (d := d) hjl)
        have hA3 : A[j] = ⟨(A[j]).day, (A[j]).cur, (A[j]).amt⟩ := rfl
        rw [hA3, HL8.out] at HT
        generalize (A[j]).day = x0 at *
        generalize (A[j]).cur = x1 at *
        generalize (A[j]).amt = x2 at *
        have n1 : ¬ x0 < day := by omega
        have n2 : ¬ tod < x0 := by omega
        have n3 : (x2 == 0) = false := by rw [beq_eq_false_iff_ne]; exact m3
        clear g m1 m2 m3 hA3 HALL
        have HNN9 : Hid ((L8 ++ [(⟨x0, x1, x2⟩ : Fl)]).length = n8 + 1) := Lib.hid (by rw [List.length_append, HN8.out]; rfl)
        by_cases hd : x0 ≤ d
        · rw [if_pos hd] at HT
          go_upto_region 14 with (at_builtin; go_must (refine wpList_flow (base := w4.heap.size) (v := .slice p8 n8 c8) ⟨x0, x1, x2⟩ HR8L.out (Later.size hlat) rfl _ _ rfl rfl 1 _ rfl rfl (by rw [HN8.out]; omega) ?_; intro v9 w9 h1 h2 h3; obtain ⟨p9, c9, hv9⟩ := B.owns_form h1; rw [HNN9.out] at hv9; subst hv9; have hl9 : Later w4 w9 := Later.grown (hlat.alloc _) h2 (fun k hk => (HR8.out.lt k hk).1); clear e0 e1 e2 E1 E2; have e0 := ((bcell hl9).1 _ _ hb).trans G0; have e1 := ((bcell hl9).1 _ _ hb).trans G1; have e2 := ((bcell hl9).1 _ _ hb).trans G2; have E1 := ((bcell hl9).1 _ 1 z0).trans D1; have E2 := ((bcell hl9).1 _ 2 z0).trans D2))
          have HM9 := Lib.hid h1
          clear h1 h2 h3 G0 G1 G2 D1 D2
          refine wp_region_plan 26 (.done [0, 1, 2, 3, 4, 5, 6, 7, 8, 9, 10, 11, 12, 13, 14, 15, 16, 17, 18, 19, 20, 21, 22, 23, 24, 25]) (by kernel_rfl) (by kernel_rfl) (fun _ _ d _ _ h => by cases d <;> exact h) ?_
          repeat' (first
            | (refine plan_done (fun K hK => ?_); (first | (simp only [pick_cons, pick_nil, toList_some_append, List.getElem?_toArray, List.getElem?_cons_zero, List.getElem?_cons_succ]; repeat (go_big_quiet_step (fail))) | simp only [pick_nil]); refine wpQuiet_nil (hK _ ?_); clear hK K)
            | ((with_reducible refine at_list ?_); go_wp2_with (fail); first | refine behind_store (t := 26) (by decide) ?_ | refine behind (by repeat (first | with_reducible exact Later.refl _ | with_reducible assumption | with_reducible refine Later.ofdrew ?_ | with_reducible refine Later.ofdrewN ?_ | with_reducible refine Later.alloc ?_ _ | with_reducible refine Later.drewN ?_ _ | with_reducible refine Later.drew ?_ | (with_reducible refine Later.trans ?_ (by assumption)))) ?_))
          go_wp2
          go_roundw
          case rel => exact ⟨j + 1, by omega, by go_num, Lib.hid (by rw [HT.out]; exact B.owns_later HM9.out ((Later.refl _).drew)), hl9.drew⟩
          case measure => simp [intOf]; omega
        · rw [if_neg hd] at HT
          clear G0 G1 G2 D1 D2
          go_upto_region 14 with (fail)
          refine wp_region_plan 26 (.done [0, 1, 2, 3, 4, 5, 6, 7, 8, 9, 10, 11, 12, 13, 14, 15, 16, 17, 18, 19, 20, 21, 22, 23, 24, 25]) (by kernel_rfl) (by kernel_rfl) (fun _ _ d _ _ h => by cases d <;> exact h) ?_
          repeat' (first
            | (refine plan_done (fun K hK => ?_); (first | (simp only [pick_cons, pick_nil, toList_some_append, List.getElem?_toArray, List.getElem?_cons_zero, List.getElem?_cons_succ]; repeat (go_big_quiet_step (fail))) | simp only [pick_nil]); refine wpQuiet_nil (hK _ ?_); clear hK K)
            | ((with_reducible refine at_list ?_); go_wp2_with (fail); first | refine behind_store (t := 26) (by decide) ?_ | refine behind (by repeat (first | with_reducible exact Later.refl _ | with_reducible assumption | with_reducible refine Later.ofdrew ?_ | with_reducible refine Later.ofdrewN ?_ | with_reducible refine Later.alloc ?_ _ | with_reducible refine Later.drewN ?_ _ | with_reducible refine Later.drew ?_ | (with_reducible refine Later.trans ?_ (by assumption)))) ?_))
          go_wp2
          go_roundw
          case rel => exact ⟨j + 1, by omega, by go_num, Lib.hid (by rw [HT.out, HN8.out]; exact B.owns_later HR8.out ((Later.refl _).drew)), hlat.drew⟩
          case measure => simp [intOf]; omega
      · have hL8 : L8 = BL := by rw [← HL8.out, HBE.out, List.take_of_length_le (by rw [HN.out.1]; omega)]
        have HSAME : Hid (decide (BL = L8) = true) := Lib.hid (by rw [hL8]; simp)
        have HFL8 : Hid (IsFlows wr (.slice p8 n8 c8) L8) := Lib.hid ((owns_flows HR8.out).1)
        have HLF := Lib.hid (fun W (hl : Later wr W) => lflows_any BL L8 (.slice qb K cb) (.slice p8 n8 c8) W (HFB.out.later (hlat.trans hl)) (HFL8.out.later hl) (by have := HLM.out; omega))
        rw [HSAME.out] at HLF
        have hlE := hl4.trans hlat
        clear HL8 HR8 HN8 HFL8 hL8 HALL HFA4 HFA5 HFB E1 E2 D1 D2
        go_wp2_with (first
          | (go_at_call 23; go_must (refine (HLF.out _ (Later.refl _)).mono ?_; rintro e w5 ⟨rfl, hb5⟩))
          | (go_at_call 17; go_must (refine (HAW.out _ (hlE.trans hb5)).mono ?_; rintro e w6 ⟨rfl, hb6⟩)))
        go_ret
        exact ⟨rfl, (hlE.trans hb5).trans hb6⟩
  · have hA0 := HER.out h0
    have he1 : (E1 == 0) = false := by simpa using h0
    have he2 : (E1 != 0) = true := by simpa using h0
    subst hA0
    clear h0 HER HUP HFA4 HFB d0
    go_wp2_with (go_at_call 17; go_must (refine (HAW.out _ hl4).mono ?_; rintro e w5 ⟨rfl, hb5⟩))
    go_ret
    exact ⟨rfl, hl4.trans hb5⟩
theorem upto_any (ts : List Nd) (l : List Td) (v u : Value) (day tod d : Int) (w : World) (hok : ∀ x ∈ ts, x.ok) (lok : ∀ x ∈ l, x.ok) (hS : Shapes w) (hN : IsNodes w v ts) (hT : IsTolds w u l) :
    Calls Tryz.prog 4 #[.agg #[v, .int .i64 day, .int .i64 tod, u], .int .i64 d] w fun e w' => e = .returned (.bool true) ∧ Later w w' := by
  by_cases h : ts.length ≤ 100 ∧ l.length ≤ 60 ∧ d ≤ tod ∧ -1 ≤ d
  · exact upto_near ts l v u day tod d w hok lok hS hN hT h.1 h.2.1 h.2.2.1 h.2.2.2
  · exact upto_far ts l v u day tod d w lok hS hN hT h
end Go.Proofs.YtkjabiabeemfhaaGreatDoor
end
section
/- what a claim asks of a call that leaves all that was there as it was -/
namespace Go.Proofs.YtkjabiabeemfhaaGreatDoor
open Go.RowKit Go.WideShapes Go.ChangeShapes

section
variable {H : Type} {enc : TypeId × Value → H} {P : Program}
/-- The post of a call behind which the world is a later one. -/
theorem post_of_later {f : Func} {s : ChangeSpec} {apart fresh handsOn again : Bool} {W W' : World} {args : Array Value} {v : Value} {ds gs : List (DataW H)} {before pa pv : List MemPlace}
    (hW : DataW.Whole enc P f.params.toList s.vars apart W args.toList ds gs before)
    (hres : ∀ (b : Nat) (sp : Nat → Bool) (hd : Bool), DataW.TrodAll enc P W' b sp hd f.resultTypes.toList (v.resultList f.resultTypes.size) (s.fn H (ds ++ gs)).results [])
    (hargs : ∀ sp : Nat → Bool, (∀ p ∈ before, sp p.block = true) → DataW.TrodAll enc P W' 0 sp true f.params.toList args.toList (s.fn H (ds ++ gs)).args pa)
    (hvars : ∀ sp : Nat → Bool, (∀ p ∈ before, sp p.block = true) → DataW.TrodVars enc P W' sp s.vars (s.fn H (ds ++ gs)).vars pv)
    (hps : before = pa ++ pv) (hb : Later W W')
    (hok : ∀ (j : Nat) (t : TypeId) (r : Value), f.resultTypes[j]? = some t → (v.resultList f.resultTypes.size)[j]? = some r → Value.okWide P W' .any 0 t r) :
    s.post enc P f apart fresh handsOn again W args v W' := by
  have lt : ∀ p ∈ before, p.block < W.heap.size := fun p hp => hW.lt p hp
  have old : ∀ p ∈ before, (fun b => decide (b < W.heap.size)) p.block = true := fun p hp => by simpa using lt p hp
  have kept := Below.frame hb (· ∈ before)
  refine ⟨ds, gs, before, [], pa, pv, hW, hres _ _ _, hargs _ old, hvars _ old, World.keptBut_mono (fun p hp => ⟨hp, ?_⟩) kept, fun _ => ?_⟩
  · rw [hps, List.mem_append] at hp
    exact .inr hp
  · obtain ⟨_, _, _, _, _, hz, hn⟩ := hW
    refine ⟨hok, _, _, ([] ++ pa) ++ pv, ⟨[] ++ pa, pv, trodAll_append (hargs _ (fun _ _ => rfl)) (hres _ _ _), hvars _ (fun _ _ => rfl), rfl, ?_, ?_⟩, ?_⟩
    · intro b off hp
      have mem : MemPlace.cell b off ∈ before := by rw [hps]; simpa using hp
      rw [Below.frozen hb (lt _ mem)]
      exact hz b off mem
    · intro ha
      have := hn ha
      rw [hps] at this
      simpa using this
    · intro p hp _
      rw [hps]
      simpa using hp
end

theorem wf_i64 {x : Int} (h : (Lit.int .i64 x).wf = true) : -9223372036854775808 ≤ x ∧ x ≤ 9223372036854775807 := by
  simp [Lit.wf, IntKind.min, IntKind.max, IntKind.signed, IntKind.bits] at h
  omega
end Go.Proofs.YtkjabiabeemfhaaGreatDoor
end
section
/- the arguments of a law, opened: slices of structs; and read again behind the call -/
namespace Go.Proofs.YtkjabiabeemfhaaGreatDoor
open Go.ChangeShapes Go.WideShapes Go.ChangeAt Go.RowKit

set_option maxRecDepth 100000
section
variable {H : Type} {enc : TypeId × Value → H} {W : World} {r : Reach} {base : Nat} {sp : Nat → Bool} {held : Bool}
theorem int_of_trod {t : TypeId} {n : Nat} {cs : List Value} {y : DataW H × List MemPlace} (ht : Tryz.prog.underlying t = some (.int .i64)) (h : DataW.trod enc Tryz.prog W 0 sp held n t cs = some y) : ∃ a, cs = [.int .i64 a] ∧ I64 a := by
  obtain ⟨a, h1, _, h2⟩ := DataW.trod_int ht h
  exact ⟨a, h1, wf_i64 h2⟩
theorem len2 {α : Type} {l : List α} (h : l.length = 2) : ∃ a b, l = [a, b] := by match l, h with | [a, b], _ => exact ⟨a, b, rfl⟩
theorem len5 {α : Type} {l : List α} (h : l.length = 5) : ∃ a b c d e, l = [a, b, c, d, e] := by match l, h with | [a, b, c, d, e], _ => exact ⟨a, b, c, d, e, rfl⟩
theorem len6 {α : Type} {l : List α} (h : l.length = 6) : ∃ a b c d e g, l = [a, b, c, d, e, g] := by match l, h with | [a, b, c, d, e, g], _ => exact ⟨a, b, c, d, e, g, rfl⟩
theorem some_of_lt {α : Type} {xs : List α} {i : Nat} (h : i < xs.length) : ∃ y, xs[i]? = some y := ⟨_, List.getElem?_eq_getElem h⟩
theorem ratio_of_trod {n : Nat} {cs : List Value} {y : DataW H × List MemPlace} (h : DataW.trod enc Tryz.prog W 0 sp held n 53 cs = some y) : ∃ a b, cs = [.int .i64 a, .int .i64 b] ∧ I64 a ∧ I64 b := by
  obtain ⟨xs, m, _, _, hl, hlen, hf⟩ := DataW.trod_struct Tryz.underlying53 h
  have c0 : Tryz.prog.cellsOf 53 = 2 := by kernel_rfl
  have c1 : Tryz.prog.cellsOf 3 = 1 := by kernel_rfl
  have hlen : xs.length = 2 := hlen
  have f0 : DataW.trod enc Tryz.prog W 0 sp held m 3 ((cs.drop 0).take (Tryz.prog.cellsOf 3)) = xs[0]? := hf 0 _ rfl
  have f1 : DataW.trod enc Tryz.prog W 0 sp held m 3 ((cs.drop 1).take (Tryz.prog.cellsOf 3)) = xs[1]? := hf 1 _ rfl
  obtain ⟨y0, e0⟩ := some_of_lt (xs := xs) (i := 0) (by omega)
  obtain ⟨y1, e1⟩ := some_of_lt (xs := xs) (i := 1) (by omega)
  rw [c1, e0] at f0
  rw [c1, e1] at f1
  rw [c0] at hl
  obtain ⟨a, b, rfl⟩ := len2 hl
  clear hf hl h
  · skip
    obtain ⟨p, hp, ip⟩ := int_of_trod Tryz.underlying3 f0
    obtain ⟨q, hq, iq⟩ := int_of_trod Tryz.underlying3 f1
    simp at hp hq
    subst hp hq
    exact ⟨p, q, rfl, ip, iq⟩
theorem node_of_trod {n : Nat} {cs : List Value} {y : DataW H × List MemPlace} (h : DataW.trod enc Tryz.prog W 0 sp held n 61 cs = some y) : ∃ x : Nd, x.ok ∧ ∀ j, j < 5 → cs[j]? = some (.int .i64 (x.cell j)) := by
  obtain ⟨xs, m, _, _, hl, hlen, hf⟩ := DataW.trod_struct Tryz.underlying61 h
  have c0 : Tryz.prog.cellsOf 61 = 5 := by kernel_rfl
  have c1 : Tryz.prog.cellsOf 3 = 1 := by kernel_rfl
  have c2 : Tryz.prog.cellsOf 53 = 2 := by kernel_rfl
  have hlen : xs.length = 4 := hlen
  have f0 : DataW.trod enc Tryz.prog W 0 sp held m 3 ((cs.drop 0).take (Tryz.prog.cellsOf 3)) = xs[0]? := hf 0 _ rfl
  have f1 : DataW.trod enc Tryz.prog W 0 sp held m 3 ((cs.drop 1).take (Tryz.prog.cellsOf 3)) = xs[1]? := hf 1 _ rfl
  have f2 : DataW.trod enc Tryz.prog W 0 sp held m 3 ((cs.drop 2).take (Tryz.prog.cellsOf 3)) = xs[2]? := hf 2 _ rfl
  have f3 : DataW.trod enc Tryz.prog W 0 sp held m 53 ((cs.drop 3).take (Tryz.prog.cellsOf 53)) = xs[3]? := hf 3 _ rfl
  obtain ⟨y0, e0⟩ := some_of_lt (xs := xs) (i := 0) (by omega)
  obtain ⟨y1, e1⟩ := some_of_lt (xs := xs) (i := 1) (by omega)
  obtain ⟨y2, e2⟩ := some_of_lt (xs := xs) (i := 2) (by omega)
  obtain ⟨y3, e3⟩ := some_of_lt (xs := xs) (i := 3) (by omega)
  rw [c1, e0] at f0
  rw [c1, e1] at f1
  rw [c1, e2] at f2
  rw [c2, e3] at f3
  rw [c0] at hl
  obtain ⟨a, b, c, d, e, rfl⟩ := len5 hl
  clear hf hl h
  · skip
    obtain ⟨p, hp, ip⟩ := int_of_trod Tryz.underlying3 f0
    obtain ⟨q, hq, iq⟩ := int_of_trod Tryz.underlying3 f1
    obtain ⟨r, hr, ir⟩ := int_of_trod Tryz.underlying3 f2
    obtain ⟨s, t, hs, is, it⟩ := ratio_of_trod f3
    simp at hp hq hr hs
    obtain ⟨hs, ht⟩ := hs
    subst hp hq hr hs ht
    refine ⟨⟨p, q, r, s, t⟩, ⟨ip, iq, ir, is, it⟩, fun j hj => ?_⟩
    rcases j with _ | _ | _ | _ | _ | j
    all_goals first | rfl | omega
theorem told_of_trod {n : Nat} {cs : List Value} {y : DataW H × List MemPlace} (h : DataW.trod enc Tryz.prog W 0 sp held n 55 cs = some y) : ∃ x : Td, x.ok ∧ ∀ j, j < 6 → cs[j]? = some (x.cell j) := by
  obtain ⟨xs, m, _, _, hl, hlen, hf⟩ := DataW.trod_struct Tryz.underlying55 h
  have c0 : Tryz.prog.cellsOf 55 = 6 := by kernel_rfl
  have c1 : Tryz.prog.cellsOf 3 = 1 := by kernel_rfl
  have c2 : Tryz.prog.cellsOf 53 = 2 := by kernel_rfl
  have c4 : Tryz.prog.cellsOf 4 = 1 := by kernel_rfl
  have hlen : xs.length = 5 := hlen
  have f0 : DataW.trod enc Tryz.prog W 0 sp held m 4 ((cs.drop 0).take (Tryz.prog.cellsOf 4)) = xs[0]? := hf 0 _ rfl
  have f1 : DataW.trod enc Tryz.prog W 0 sp held m 3 ((cs.drop 1).take (Tryz.prog.cellsOf 3)) = xs[1]? := hf 1 _ rfl
  have f2 : DataW.trod enc Tryz.prog W 0 sp held m 3 ((cs.drop 2).take (Tryz.prog.cellsOf 3)) = xs[2]? := hf 2 _ rfl
  have f3 : DataW.trod enc Tryz.prog W 0 sp held m 53 ((cs.drop 3).take (Tryz.prog.cellsOf 53)) = xs[3]? := hf 3 _ rfl
  have f4 : DataW.trod enc Tryz.prog W 0 sp held m 3 ((cs.drop 5).take (Tryz.prog.cellsOf 3)) = xs[4]? := hf 4 _ rfl
  obtain ⟨y0, e0⟩ := some_of_lt (xs := xs) (i := 0) (by omega)
  obtain ⟨y1, e1⟩ := some_of_lt (xs := xs) (i := 1) (by omega)
  obtain ⟨y2, e2⟩ := some_of_lt (xs := xs) (i := 2) (by omega)
  obtain ⟨y3, e3⟩ := some_of_lt (xs := xs) (i := 3) (by omega)
  obtain ⟨y4, e4⟩ := some_of_lt (xs := xs) (i := 4) (by omega)
  rw [c4, e0] at f0
  rw [c1, e1] at f1
  rw [c1, e2] at f2
  rw [c2, e3] at f3
  rw [c1, e4] at f4
  rw [c0] at hl
  obtain ⟨a, b, c, d, e, g, rfl⟩ := len6 hl
  clear hf hl h
  · skip
    obtain ⟨p, hp, _⟩ := DataW.trod_bool Tryz.underlying4 f0
    obtain ⟨q, hq, iq⟩ := int_of_trod Tryz.underlying3 f1
    obtain ⟨r, hr, ir⟩ := int_of_trod Tryz.underlying3 f2
    obtain ⟨s, t, hs, is, it⟩ := ratio_of_trod f3
    obtain ⟨u, hu, iu⟩ := int_of_trod Tryz.underlying3 f4
    simp at hp hq hr hs hu
    obtain ⟨hs, ht⟩ := hs
    subst hp hq hr hs ht hu
    refine ⟨⟨p, q, r, s, t, u⟩, ⟨iq, ir, is, it, iu⟩, fun j hj => ?_⟩
    rcases j with _ | _ | _ | _ | _ | _ | j
    all_goals first | rfl | omega
/-! Read again behind the call. -/
theorem kidsAll : Kids Tryz.prog (· < Tryz.prog.types.size) := kids_rows (by kernel_rfl) (by kernel_rfl)
theorem slicesFull : ∀ t e, t < Tryz.prog.types.size → Tryz.prog.underlying t = some (.slice e) → 0 < Tryz.prog.cellsOf e := slices_full_of Tryz.prog (by kernel_rfl)
theorem same_later {W W' : World} (hb : Later W W') {p : MemPlace} (h : p.block < W.heap.size) : W.sameAt W' p := by
  cases p with
  | cell b o => exact (bcell hb).1 b o h
  | map b => exact hb.block b h
theorem carryAll {P : Program} {W W' : World} : ∀ {ts : List TypeId} {vs : List Value} {ds : List (DataW H)} {ps : List MemPlace}, DataW.TrodAll enc P W base sp held ts vs ds ps → (∀ p ∈ ps, W.sameAt W' p) → DataW.TrodAll enc P W' base sp held ts vs ds ps
  | [], [], [], _, h, _ => h
  | _ :: _, _ :: _, _ :: _, _, ⟨p, q, ⟨n, h1⟩, h2, e⟩, hs => ⟨p, q, ⟨n, DataW.trod_carry _ _ _ _ h1 (fun x hx => hs x (by rw [e]; exact List.mem_append_left _ hx))⟩, carryAll h2 (fun x hx => hs x (by rw [e]; exact List.mem_append_right _ hx)), e⟩
theorem args_stay {W W' : World} {ts : List TypeId} {vs : List Value} {ds : List (DataW H)} {ps : List MemPlace} {sp : Nat → Bool} (ht : ∀ t ∈ ts, t < Tryz.prog.types.size) (h : DataW.TrodAll enc Tryz.prog W 0 (fun _ => true) true ts vs ds ps)
    (lt : ∀ p ∈ ps, p.block < W.heap.size) (hb : Later W W') (hs : ∀ p ∈ ps, sp p.block = true) : DataW.TrodAll enc Tryz.prog W' 0 sp true ts vs ds ps :=
  (carryAll h (fun p hp => same_later hb (lt p hp))).respare kidsAll slicesFull ht hs
end
end Go.Proofs.YtkjabiabeemfhaaGreatDoor
end
section
/- the table of shapes out of what the rows list -/
namespace Go.Proofs.YtkjabiabeemfhaaGreatDoor
open Go.ChangeShapes Go.WideShapes Go.ChangeAt Go.RowKit

abbrev laidT : List (String × DataW Unit) := Rows.denoteUpToRow.laid
def nameT : String := ((Rows.denoteUpToRow.laid.head?).map (·.1)).getD ""
def shpD (op : Int) : DataW Unit := .agg [.lit (.int .i64 (shp op 0)), .lit (.int .i64 (shp op 1)), .agg [.lit (.int .i64 (shp op 2)), .lit (.int .i64 (shp op 3)), .lit (.int .i64 (shp op 4)), .lit (.int .i64 (shp op 5))]]
theorem laid_shapes : Rows.laid_chattel_term_shapes (H := Unit) = .agg ((List.range 18).map fun i => shpD (i : Nat)) := by rfl
set_option maxRecDepth 100000
section
variable {enc : TypeId × Value → Unit} {W : World} {sp : Nat → Bool} {held : Bool}
theorem len4 {α : Type} {l : List α} (h : l.length = 4) : ∃ a b c d, l = [a, b, c, d] := by match l, h with | [a, b, c, d], _ => exact ⟨a, b, c, d, rfl⟩
theorem four_of_trod {n : Nat} {cs : List Value} {y : DataW Unit × List MemPlace} {p q r s : Int} (h : DataW.trod enc Tryz.prog W 0 sp held n 212 cs = some y) (hy : y.1 = .agg [.lit (.int .i64 p), .lit (.int .i64 q), .lit (.int .i64 r), .lit (.int .i64 s)]) :
    cs = [.int .i64 p, .int .i64 q, .int .i64 r, .int .i64 s] := by
  obtain ⟨xs, m, _, hx, hl, hlen, hf⟩ := DataW.trod_array Tryz.underlying212 h
  have c0 : Tryz.prog.cellsOf 212 = 4 := by kernel_rfl
  have c1 : Tryz.prog.cellsOf 3 = 1 := by kernel_rfl
  have f0 : DataW.trod enc Tryz.prog W 0 sp held m 3 ((cs.drop (0 * Tryz.prog.cellsOf 3)).take (Tryz.prog.cellsOf 3)) = xs[0]? := hf 0 (by omega)
  have f1 : DataW.trod enc Tryz.prog W 0 sp held m 3 ((cs.drop (1 * Tryz.prog.cellsOf 3)).take (Tryz.prog.cellsOf 3)) = xs[1]? := hf 1 (by omega)
  have f2 : DataW.trod enc Tryz.prog W 0 sp held m 3 ((cs.drop (2 * Tryz.prog.cellsOf 3)).take (Tryz.prog.cellsOf 3)) = xs[2]? := hf 2 (by omega)
  have f3 : DataW.trod enc Tryz.prog W 0 sp held m 3 ((cs.drop (3 * Tryz.prog.cellsOf 3)).take (Tryz.prog.cellsOf 3)) = xs[3]? := hf 3 (by omega)
  clear hf h
  rw [c1] at f0 f1 f2 f3
  rw [c0] at hl
  obtain ⟨a, b, c, d, rfl⟩ := len4 hl
  obtain ⟨y0, y1, y2, y3, rfl⟩ := len4 hlen
  subst hx
  simp only [List.map_cons, List.map_nil, DataW.agg.injEq, List.cons.injEq, and_true] at hy
  obtain ⟨h0, h1, h2, h3⟩ := hy
  obtain ⟨z0, a0, b0, _⟩ := DataW.trod_int Tryz.underlying3 (x := y0) f0
  obtain ⟨z1, a1, b1, _⟩ := DataW.trod_int Tryz.underlying3 (x := y1) f1
  obtain ⟨z2, a2, b2, _⟩ := DataW.trod_int Tryz.underlying3 (x := y2) f2
  obtain ⟨z3, a3, b3, _⟩ := DataW.trod_int Tryz.underlying3 (x := y3) f3
  subst b0 b1 b2 b3
  simp at a0 a1 a2 a3 h0 h1 h2 h3
  subst a0 a1 a2 a3 h0 h1 h2 h3
  rfl
theorem shape_of_trod {n : Nat} {cs : List Value} {y : DataW Unit × List MemPlace} {op : Int} (h : DataW.trod enc Tryz.prog W 0 sp held n 214 cs = some y) (hy : y.1 = shpD op) (j : Nat) (hj : j < 6) :
    cs[j]? = some (.int .i64 (shp op j)) := by
  obtain ⟨xs, m, _, hx, hl, hlen, hf⟩ := DataW.trod_struct Tryz.underlying214 h
  have c0 : Tryz.prog.cellsOf 214 = 6 := by kernel_rfl
  have c1 : Tryz.prog.cellsOf 3 = 1 := by kernel_rfl
  have c4 : Tryz.prog.cellsOf 212 = 4 := by kernel_rfl
  have hlen : xs.length = 3 := hlen
  have f0 : DataW.trod enc Tryz.prog W 0 sp held m 3 ((cs.drop 0).take (Tryz.prog.cellsOf 3)) = xs[0]? := hf 0 _ rfl
  have f1 : DataW.trod enc Tryz.prog W 0 sp held m 3 ((cs.drop 1).take (Tryz.prog.cellsOf 3)) = xs[1]? := hf 1 _ rfl
  have f2 : DataW.trod enc Tryz.prog W 0 sp held m 212 ((cs.drop 2).take (Tryz.prog.cellsOf 212)) = xs[2]? := hf 2 _ rfl
  clear hf h
  rw [c1] at f0 f1
  rw [c4] at f2
  rw [c0] at hl
  obtain ⟨a, b, c, d, e, g, rfl⟩ := len6 hl
  obtain ⟨y0, y1, y2, rfl⟩ : ∃ a b c, xs = [a, b, c] := by match xs, hlen with | [a, b, c], _ => exact ⟨a, b, c, rfl⟩
  subst hx
  unfold shpD at hy
  simp only [List.map_cons, List.map_nil, DataW.agg.injEq, List.cons.injEq, and_true] at hy
  obtain ⟨h0, h1, h2⟩ := hy
  obtain ⟨z0, a0, b0, _⟩ := DataW.trod_int Tryz.underlying3 (x := y0) f0
  obtain ⟨z1, a1, b1, _⟩ := DataW.trod_int Tryz.underlying3 (x := y1) f1
  have h4 := four_of_trod (y := y2) f2 h2
  subst b0 b1
  simp at a0 a1 h0 h1 h4
  obtain ⟨e1, e2, e3, e4⟩ := h4
  subst a0 a1 h0 h1 e1 e2 e3 e4
  rcases j with _ | _ | _ | _ | _ | _ | j
  all_goals first | rfl | omega
end
theorem shapes_of_laid {W : World} (h : laidMetH Tryz.prog laidT W) : Shapes W := by
  rw [MakeChecks.laidMetH_plain _ _ _ (by kernel_rfl)] at h
  obtain ⟨ps, ⟨g, t, cs, fuel, p, q, hg, ht, hv, hd, _, _⟩, _, _⟩ := h
  obtain rfl := Option.some.inj ((show Tryz.prog.globalNamed nameT = some 0 by kernel_rfl).symm.trans hg)
  obtain rfl := Option.some.inj ((show (Tryz.prog.globals[0]?).map (·.type) = some 255 by kernel_rfl).symm.trans ht)
  have c1 : Tryz.prog.cellsOf 214 = 6 := by kernel_rfl
  obtain ⟨xs, m, _, ex, hlen, hl, hel⟩ := DataW.trod_array Tryz.underlying255 hd
  rw [laid_shapes] at ex
  have e1 : (List.range 18).map (fun i => shpD (i : Nat)) = xs.map (·.1) := DataW.agg.inj (Prod.mk.inj ex).1
  have key : ∀ op : Nat, op < 18 → ∀ j, j < 6 → W.cell? ⟨0, op * 6 + j, none⟩ = some (.int .i64 (shp op j)) := by
    intro op ho j hj
    rw [World.var?_cell hg hv]
    obtain ⟨y, hy⟩ := some_of_lt (xs := xs) (i := op) (by omega)
    have h1 := hel op ho
    rw [hy, c1] at h1
    have h2 : y.1 = shpD (op : Nat) := by
      have := congrArg (fun l => l[op]?) e1
      simp only [List.getElem?_map, hy, Option.map_some] at this
      rw [List.getElem?_range ho] at this
      simpa using this.symm
    have h3 := shape_of_trod h1 h2 j hj
    rw [List.getElem?_take_of_lt hj, List.getElem?_drop] at h3
    rw [← Array.getElem?_toList]
    exact h3
  exact ⟨by have := World.block_lt_of_cell? _ _ (key 0 (by omega) 0 (by omega)); omega, key⟩
end Go.Proofs.YtkjabiabeemfhaaGreatDoor
end
section
/- the arguments of a law, opened and read again: words that hang on no struct -/
namespace Go.Proofs.YtkjabiabeemfhaaGreatDoor
open Go.ChangeShapes Go.WideShapes Go.ChangeAt Go.RowKit

section
variable {H : Type} {enc : TypeId × Value → H} {W : World} {r : Reach} {base : Nat} {sp : Nat → Bool} {held : Bool}
theorem rd_row {P : Program} {α : Type} {sz : Nat} {f : α → Nat → Value} {ok : α → Prop} {t e : TypeId} {fuel : Nat} {v : Value} {x : DataW H × List MemPlace} (hsz : 0 < sz) (ht : P.underlying t = some (.slice e)) (hc : P.cellsOf e = sz)
    (hel : ∀ n cs d, DataW.trod enc P W 0 (fun _ => true) held n e cs = some d → ∃ y : α, ok y ∧ ∀ j, j < sz → cs[j]? = some (f y j))
    (h : DataW.trod enc P W 0 (fun _ => true) held fuel t [v] = some x) : ∃ xs, IsRow sz f W v xs ∧ ∀ y ∈ xs, ok y := by
  rcases Deep.open_slice ht h with ⟨h0, _⟩ | ⟨a, len, cap, m, n, D, Pl, h0, hb, hl, hm, hmm, _, hx⟩
  · simp only [List.cons.injEq, and_true] at h0
    exact ⟨[], .inl ⟨⟨none, h0⟩, rfl⟩, by simp⟩
  · simp only [List.cons.injEq, and_true] at h0
    subst h0
    rw [if_pos rfl] at hmm
    subst hmm
    rcases Nat.eq_zero_or_pos m with hm0 | hm0
    · subst hm0
      have : len = 0 := by omega
      subst this
      exact ⟨[], .inl ⟨⟨some a, rfl⟩, rfl⟩, by simp⟩
    · have h00 : W.cell? a = none ∨ ∃ u, W.cell? a = some u := by cases W.cell? a with | none => exact .inl rfl | some u => exact .inr ⟨u, rfl⟩
      obtain ⟨u, hu⟩ : ∃ u, W.cell? a = some u := by
        obtain ⟨cs, h1, h2⟩ := hx 0 hm0
        obtain ⟨y, _, h4⟩ := hel _ _ _ h2
        rw [hc, Nat.zero_mul] at h1
        obtain ⟨_, h5, h6⟩ := World.cells?_some h1
        have h7 := h6 0 hsz
        rw [h4 0 hsz] at h7
        have e : (a.add 0).add 0 = a := by obtain ⟨b, o, s⟩ := a; cases s <;> simp [Addr.add]
        rw [e] at h7
        exact ⟨_, h7⟩
      have hs := World.cell?_spot hu
      have hlt := World.block_lt_of_cell? _ _ hu
      obtain ⟨b, o, s⟩ := a
      simp only at hs hlt
      subst hs
      have key : ∀ i : Fin len, ∃ y : α, ok y ∧ ∀ j, j < sz → W.cell? ⟨b, o + i.1 * sz + j, none⟩ = some (f y j) := by
        intro i
        obtain ⟨cs, h1, h2⟩ := hx i.1 (Nat.lt_of_lt_of_le i.2 hl)
        obtain ⟨y, h3, h4⟩ := hel _ _ _ h2
        refine ⟨y, h3, fun j hj => ?_⟩
        rw [hc, add_plain] at h1
        obtain ⟨_, h5, h6⟩ := World.cells?_some h1
        have := h6 j hj
        rw [add_plain] at this
        rw [this]
        exact h4 j hj
      obtain ⟨g, hg⟩ := Classical.axiomOfChoice key
      refine ⟨List.ofFn g, .inr ⟨b, o, m, by rw [List.length_ofFn], hlt, by rw [List.length_ofFn]; exact hl, hm, fun i hi j hj => ?_⟩, fun y hy => ?_⟩
      · rw [List.getElem_ofFn]
        exact (hg ⟨i, by simpa using hi⟩).2 j hj
      · obtain ⟨i, rfl⟩ := List.mem_ofFn.1 hy
        exact (hg i).1
theorem rd_int {t : TypeId} {n : Nat} {cs : List Value} {y : DataW H × List MemPlace} (ht : Tryz.prog.underlying t = some (.int .i64)) (h : DataW.trod enc Tryz.prog W 0 sp held n t cs = some y) : ∃ a, cs = [.int .i64 a] ∧ I64 a := by
  obtain ⟨a, h1, _, h2⟩ := DataW.trod_int ht h
  exact ⟨a, h1, wf_i64 h2⟩
theorem rd_some {α : Type} {xs : List α} {i : Nat} (h : i < xs.length) : ∃ y, xs[i]? = some y := ⟨_, List.getElem?_eq_getElem h⟩
theorem rd_4 {α : Type} {l : List α} (h : l.length = 4) : ∃ a b c d, l = [a, b, c, d] := by match l, h with | [a, b, c, d], _ => exact ⟨a, b, c, d, rfl⟩
/-! Read again behind the call. -/
end
end Go.Proofs.YtkjabiabeemfhaaGreatDoor
end
