/- texts: decimals, Join, a builder that a call has made -/
import Derived.Test.YtckeaibamgkegaaGreatDoorQ17
import Derived.Laws.StructEq
import Derived.Test.YtckeaibamgkegaaGreatDoorQ13
import Derived.Test.YtckeaibamgkegaaGreatDoorQ1
import Derived.Lib.ItoaLen
set_option linter.all false
set_option linter.all false
section
/- a row's head, rows held against each other, looks over rows, sums of rows -/
namespace Go.Proofs.YtckeaibamgkegaaGreatDoor
open Go.RowKit
set_option maxRecDepth 100000

set_option maxHeartbeats 1000000 in
theorem rw_eq (a0 a1 a2 a3 a4 a5 a6 a7 a8 b0 b1 b2 b3 b4 b5 b6 b7 b8 : Int) (W : World) :
    (Op.equalIn 10000 55 (.agg #[.int .i64 a0, .int .i64 a1, .int .i64 a2, .int .i64 a3, .int .i64 a4, .int .i64 a5, .int .i64 a6, .int .i64 a7, .int .i64 a8]) (.agg #[.int .i64 b0, .int .i64 b1, .int .i64 b2, .int .i64 b3, .int .i64 b4, .int .i64 b5, .int .i64 b6, .int .i64 b7, .int .i64 b8])).run Tryz.prog W = .ok (decide ((⟨a0, a1, a2, a3, a4, a5, a6, a7, a8⟩ : Rw) = (⟨b0, b1, b2, b3, b4, b5, b6, b7, b8⟩ : Rw))) W := by
  have hS : Tryz.prog.underlying 55 = some (.struct (Tryz.prog.fieldsOf 55)) := by kernel_rfl
  have hp : Tryz.prog.stoodInHeld 55 = false := by kernel_rfl
  have u3 := Tryz.underlying3
  have ia3 := Tryz.isAgg3
  have z3 := Tryz.sizeOf3
  rw [show (10000 : Nat) = 9999 + 1 from rfl, run_equalIn_agg W 9999 55 _ _ hS hp]
  simp only [Program.fieldsOf, Tryz.underlying55]
  go_simp
  by_cases h0 : a0 = b0 <;> simp [h0]
  by_cases h1 : a1 = b1 <;> simp [h1]
  by_cases h2 : a2 = b2 <;> simp [h2]
  by_cases h3 : a3 = b3 <;> simp [h3]
  by_cases h4 : a4 = b4 <;> simp [h4]
  by_cases h5 : a5 = b5 <;> simp [h5]
  by_cases h6 : a6 = b6 <;> simp [h6]
  by_cases h7 : a7 = b7 <;> simp [h7]
  by_cases h8 : a8 = b8 <;> simp [h8]
theorem rw_neq (a0 a1 a2 a3 a4 a5 a6 a7 a8 b0 b1 b2 b3 b4 b5 b6 b7 b8 : Int) (W : World) : (binOp .neq 55 (.agg #[.int .i64 a0, .int .i64 a1, .int .i64 a2, .int .i64 a3, .int .i64 a4, .int .i64 a5, .int .i64 a6, .int .i64 a7, .int .i64 a8]) (.agg #[.int .i64 b0, .int .i64 b1, .int .i64 b2, .int .i64 b3, .int .i64 b4, .int .i64 b5, .int .i64 b6, .int .i64 b7, .int .i64 b8])).run Tryz.prog W = .ok (.bool (!decide ((⟨a0, a1, a2, a3, a4, a5, a6, a7, a8⟩ : Rw) = (⟨b0, b1, b2, b3, b4, b5, b6, b7, b8⟩ : Rw)))) W := by
  rw [run_neq_struct, rw_eq]; rfl

set_option maxHeartbeats 800000 in
theorem head_any (r0 r1 r2 r3 r4 r5 r6 r7 r8 : Int) (w : World) : Calls Tryz.prog 48 #[.agg #[.int .i64 r0, .int .i64 r1, .int .i64 r2, .int .i64 r3, .int .i64 r4, .int .i64 r5, .int .i64 r6, .int .i64 r7, .int .i64 r8]] w fun e w' => e = .returned (.agg #[.int .i64 r0, .int .i64 r1, .int .i64 r2, .int .i64 r3, .int .i64 r4, .int .i64 r5, .int .i64 0, .int .i64 r7, .int .i64 0]) ∧ Later w w' := by
  go_enter Tryz.func48, Tryz.ntmps48
  go_wp2
  exact bodyPost_ret (v := .agg #[.int .i64 r0, .int .i64 r1, .int .i64 r2, .int .i64 r3, .int .i64 r4, .int .i64 r5, .int .i64 0, .int .i64 r7, .int .i64 0]) (by simp [results, Tryz.results48, go_sem]) rfl ⟨rfl, by repeat (first | with_reducible exact Later.refl _ | with_reducible assumption | with_reducible refine Later.ofdrew ?_ | with_reducible refine Later.ofdrewN ?_ | with_reducible refine Later.setCell ?_ ?_ _ | with_reducible refine Later.alloc ?_ _ | with_reducible refine Later.drewN ?_ _ | with_reducible refine Later.drew ?_ | (with_reducible refine Later.trans ?_ (by assumption)) | (simp only [World.size_setCell, World.size_alloc, World.heap_drewN]; omega) | (simp; done) | (simp; omega))⟩

set_option maxHeartbeats 1600000 in
theorem own1_any (r0 r1 r2 r3 r4 r5 r6 r7 r8 : Int) (B : Nat) (u : Value) (x : List Rw) (hx : x ≠ []) (w : World) (hc : w.cell? ⟨B, 0, none⟩ = some u) (hu : IsRow 9 rwF w u x) :
    Calls Tryz.prog 47 #[.agg #[.int .i64 r0, .int .i64 r1, .int .i64 r2, .int .i64 r3, .int .i64 r4, .int .i64 r5, .int .i64 r6, .int .i64 r7, .int .i64 r8], .pointer (some ⟨B, 0, none⟩)] w fun e w' => e = .returned (.bool (decide ((⟨r0, r1, r2, r3, r4, r5, r6, r7, r8⟩ : Rw).head ≠ (hd x).head))) ∧ Later w w' := by
  obtain ⟨b, o, cap, rfl, hb, hl, g⟩ := hd_cell hu hx
  have zB := World.block_lt_of_cell? _ _ hc
  have hd9 : (decide ((⟨r0, r1, r2, r3, r4, r5, r6, r7, r8⟩ : Rw).head ≠ (hd x).head)) = !decide ((⟨r0, r1, r2, r3, r4, r5, r6, r7, r8⟩ : Rw).head = (hd x).head) := by simp
  rw [hd9]
  clear hd9 hu hx
  have HG := Lib.hid (fun W (hl : Later w W) k (hk : k < 9) => ((bcell hl).1 _ _ hb).trans (g k hk))
  have HC := Lib.hid (fun W (hl : Later w W) => ((bcell hl).1 _ _ zB).trans hc)
  clear g hc
  generalize hd x = y at *
  generalize x.length = L at *
  obtain ⟨y0, y1, y2, y3, y4, y5, y6, y7, y8⟩ := y
  have H1 := Lib.hid (fun W => head_any r0 r1 r2 r3 r4 r5 r6 r7 r8 W)
  have H2 := Lib.hid (fun W => head_any y0 y1 y2 y3 y4 y5 y6 y7 y8 W)
  have HE := rw_neq r0 r1 r2 r3 r4 r5 0 r7 0 y0 y1 y2 y3 y4 y5 0 y7 0
  have e0 : ((⟨r0, r1, r2, r3, r4, r5, 0, r7, 0⟩ : Rw) = ⟨y0, y1, y2, y3, y4, y5, 0, y7, 0⟩) = ((⟨r0, r1, r2, r3, r4, r5, r6, r7, r8⟩ : Rw).head = (⟨y0, y1, y2, y3, y4, y5, y6, y7, y8⟩ : Rw).head) := rfl
  obtain ⟨c, hc⟩ : ∃ c, decide ((⟨r0, r1, r2, r3, r4, r5, r6, r7, r8⟩ : Rw).head = (⟨y0, y1, y2, y3, y4, y5, y6, y7, y8⟩ : Rw).head) = c := ⟨_, rfl⟩
  simp only [e0, hc] at HE
  rw [hc]
  clear hc e0
  have tok1 : True := trivial
  go_enter Tryz.func47, Tryz.ntmps47
  go_upto_region 1 with (fail)
  refine wp_opaque (fun W8 hb8 => ?_)
  obtain ⟨⟨z8, d8, f8⟩, -⟩ := Own.one hb8
  have hb9 := hb8.un1
  have c1 := HC.out W8 hb9
  have zb8 := Nat.lt_of_lt_of_le hb (Later.size hb9)
  have zB8 := Nat.lt_of_lt_of_le zB (Later.size hb9)
  have g0 := HG.out W8 hb9 0 (by omega)
  have g1 := HG.out W8 hb9 1 (by omega)
  have g2 := HG.out W8 hb9 2 (by omega)
  have g3 := HG.out W8 hb9 3 (by omega)
  have g4 := HG.out W8 hb9 4 (by omega)
  have g5 := HG.out W8 hb9 5 (by omega)
  have g6 := HG.out W8 hb9 6 (by omega)
  have g7 := HG.out W8 hb9 7 (by omega)
  have g8 := HG.out W8 hb9 8 (by omega)
  simp only [rwF, Rw.nums, List.getD_cons_zero, List.getD_cons_succ, Nat.add_zero] at g0 g1 g2 g3 g4 g5 g6 g7 g8
  clear hb8
  refine wp_region_plan 8 (.one [0, 2, 3, 4] 1 (.one [] 5 (.done [6, 7]))) (by kernel_rfl) (by kernel_rfl) (fun _ _ d _ _ h => by cases d <;> exact h) ?_
  repeat' (first
    | (refine plan_done (fun K hK => ?_); (first | (simp only [pick_cons, pick_nil, toList_some_append, List.getElem?_toArray, List.getElem?_cons_zero, List.getElem?_cons_succ]; repeat (go_big_quiet_step (fail))) | simp only [pick_nil]); refine wpQuiet_nil (hK _ ?_); clear hK K)
    | (refine plan_one (by rfl) (fun K hK => ?_); (first | (simp only [pick_cons, pick_nil, toList_some_append, List.getElem?_toArray, List.getElem?_cons_zero, List.getElem?_cons_succ]; repeat (go_big_quiet_step (fail))) | simp only [pick_nil]); refine wpQuiet_nil (hK _ ?_); clear hK K)
    | ((with_reducible refine at_list ?_); go_wp2_with (first | (go_at_call 48; clear tok1; go_must (refine (H1.out _).mono ?_; rintro e w2 ⟨rfl, hb2⟩)) | (go_at_call 48; go_must (refine (H2.out _).mono ?_; rintro e w3 ⟨rfl, hb3⟩))); first | refine behind_store (t := 8) (by decide) ?_ | refine behind (by repeat (first | with_reducible exact Later.refl _ | with_reducible assumption | with_reducible refine Later.ofdrew ?_ | with_reducible refine Later.ofdrewN ?_ | with_reducible refine Later.alloc ?_ _ | with_reducible refine Later.drewN ?_ _ | with_reducible refine Later.drew ?_ | (with_reducible refine Later.trans ?_ (by assumption)))) ?_))
  all_goals
    go_wp2
    go_ret
    exact ⟨rfl, by repeat (first | with_reducible exact Later.refl _ | with_reducible assumption | with_reducible refine Later.ofdrew ?_ | with_reducible refine Later.ofdrewN ?_ | with_reducible refine Later.setCell ?_ ?_ _ | with_reducible refine Later.alloc ?_ _ | with_reducible refine Later.drewN ?_ _ | with_reducible refine Later.drew ?_ | (with_reducible refine Later.trans ?_ (by assumption)) | (simp only [World.size_setCell, World.size_alloc, World.heap_drewN]; omega) | (simp; done) | (simp; omega))⟩

set_option maxHeartbeats 400000 in
theorem own2_any (r0 r1 r2 r3 r4 r5 r6 r7 r8 : Int) (w : World) : Calls Tryz.prog 49 #[.agg #[.int .i64 r0, .int .i64 r1, .int .i64 r2, .int .i64 r3, .int .i64 r4, .int .i64 r5, .int .i64 r6, .int .i64 r7, .int .i64 r8]] w fun e w' => e = .returned (.bool true) ∧ Later w w' := by
  go_enter Tryz.func49, Tryz.ntmps49
  go_wp2
  go_ret
  exact ⟨rfl, by repeat (first | with_reducible exact Later.refl _ | with_reducible assumption | with_reducible refine Later.ofdrew ?_ | with_reducible refine Later.ofdrewN ?_ | with_reducible refine Later.setCell ?_ ?_ _ | with_reducible refine Later.alloc ?_ _ | with_reducible refine Later.drewN ?_ _ | with_reducible refine Later.drew ?_ | (with_reducible refine Later.trans ?_ (by assumption)) | (simp only [World.size_setCell, World.size_alloc, World.heap_drewN]; omega) | (simp; done) | (simp; omega))⟩


def foldB (party cur period : Int) (r : Rw) : Bool := decide (r.pty = party ∧ r.cur = cur ∧ r.per = period)
set_option maxHeartbeats 1600000 in
theorem fold1_any (r0 r1 r2 r3 r4 r5 r6 r7 r8 : Int) (B1 B2 B3 : Nat) (party cur period : Int) (w : World) (h1 : w.cell? ⟨B1, 0, none⟩ = some (.int .i64 party)) (h2 : w.cell? ⟨B2, 0, none⟩ = some (.int .i64 cur)) (h3 : w.cell? ⟨B3, 0, none⟩ = some (.int .i64 period)) :
    Calls Tryz.prog 25 #[.agg #[.int .i64 r0, .int .i64 r1, .int .i64 r2, .int .i64 r3, .int .i64 r4, .int .i64 r5, .int .i64 r6, .int .i64 r7, .int .i64 r8], .pointer (some ⟨B1, 0, none⟩), .pointer (some ⟨B2, 0, none⟩), .pointer (some ⟨B3, 0, none⟩)] w fun e w' => e = .returned (.bool (foldB party cur period (⟨r0, r1, r2, r3, r4, r5, r6, r7, r8⟩ : Rw))) ∧ Later w w' := by
  have H1 := Lib.hid (fun W (hl : Later w W) => ((bcell hl).1 _ _ (World.block_lt_of_cell? _ _ h1)).trans h1)
  have H2 := Lib.hid (fun W (hl : Later w W) => ((bcell hl).1 _ _ (World.block_lt_of_cell? _ _ h2)).trans h2)
  have H3 := Lib.hid (fun W (hl : Later w W) => ((bcell hl).1 _ _ (World.block_lt_of_cell? _ _ h3)).trans h3)
  clear h1 h2 h3
  by_cases e1 : r6 = party
  · by_cases e2 : r7 = cur
    · by_cases e3 : r2 = period
      ·
        have hr : foldB party cur period (⟨r0, r1, r2, r3, r4, r5, r6, r7, r8⟩ : Rw) = true := by unfold foldB; simp [*]
        rw [hr]
        go_enter Tryz.func25, Tryz.ntmps25
        go_upto_region 1 with (fail)
        refine wp_opaque (fun W8 hb8 => ?_)
        obtain ⟨⟨z8, d8, f8⟩, -⟩ := Own.one hb8
        have hb9 := hb8.un1
        have c1 := H1.out W8 hb9
        have c2 := H2.out W8 hb9
        have c3 := H3.out W8 hb9
        clear hb8
        go_wp2
        go_ret
        exact ⟨by simp [*], by repeat (first | with_reducible exact Later.refl _ | with_reducible assumption | with_reducible refine Later.ofdrew ?_ | with_reducible refine Later.ofdrewN ?_ | with_reducible refine Later.setCell ?_ ?_ _ | with_reducible refine Later.alloc ?_ _ | with_reducible refine Later.drewN ?_ _ | with_reducible refine Later.drew ?_ | (with_reducible refine Later.trans ?_ (by assumption)) | (simp only [World.size_setCell, World.size_alloc, World.heap_drewN]; omega) | (simp; done) | (simp; omega))⟩
      ·
        have hr : foldB party cur period (⟨r0, r1, r2, r3, r4, r5, r6, r7, r8⟩ : Rw) = false := by unfold foldB; simp [*]
        rw [hr]
        go_enter Tryz.func25, Tryz.ntmps25
        go_upto_region 1 with (fail)
        refine wp_opaque (fun W8 hb8 => ?_)
        obtain ⟨⟨z8, d8, f8⟩, -⟩ := Own.one hb8
        have hb9 := hb8.un1
        have c1 := H1.out W8 hb9
        have c2 := H2.out W8 hb9
        have c3 := H3.out W8 hb9
        clear hb8
        go_wp2
        go_ret
        exact ⟨by simp [*], by repeat (first | with_reducible exact Later.refl _ | with_reducible assumption | with_reducible refine Later.ofdrew ?_ | with_reducible refine Later.ofdrewN ?_ | with_reducible refine Later.setCell ?_ ?_ _ | with_reducible refine Later.alloc ?_ _ | with_reducible refine Later.drewN ?_ _ | with_reducible refine Later.drew ?_ | (with_reducible refine Later.trans ?_ (by assumption)) | (simp only [World.size_setCell, World.size_alloc, World.heap_drewN]; omega) | (simp; done) | (simp; omega))⟩
    ·
      have hr : foldB party cur period (⟨r0, r1, r2, r3, r4, r5, r6, r7, r8⟩ : Rw) = false := by unfold foldB; simp [*]
      rw [hr]
      go_enter Tryz.func25, Tryz.ntmps25
      go_upto_region 1 with (fail)
      refine wp_opaque (fun W8 hb8 => ?_)
      obtain ⟨⟨z8, d8, f8⟩, -⟩ := Own.one hb8
      have hb9 := hb8.un1
      have c1 := H1.out W8 hb9
      have c2 := H2.out W8 hb9
      have c3 := H3.out W8 hb9
      clear hb8
      go_wp2
      go_ret
      exact ⟨by simp [*], by repeat (first | with_reducible exact Later.refl _ | with_reducible assumption | with_reducible refine Later.ofdrew ?_ | with_reducible refine Later.ofdrewN ?_ | with_reducible refine Later.setCell ?_ ?_ _ | with_reducible refine Later.alloc ?_ _ | with_reducible refine Later.drewN ?_ _ | with_reducible refine Later.drew ?_ | (with_reducible refine Later.trans ?_ (by assumption)) | (simp only [World.size_setCell, World.size_alloc, World.heap_drewN]; omega) | (simp; done) | (simp; omega))⟩
  ·
    have hr : foldB party cur period (⟨r0, r1, r2, r3, r4, r5, r6, r7, r8⟩ : Rw) = false := by unfold foldB; simp [*]
    rw [hr]
    go_enter Tryz.func25, Tryz.ntmps25
    go_upto_region 1 with (fail)
    refine wp_opaque (fun W8 hb8 => ?_)
    obtain ⟨⟨z8, d8, f8⟩, -⟩ := Own.one hb8
    have hb9 := hb8.un1
    have c1 := H1.out W8 hb9
    have c2 := H2.out W8 hb9
    have c3 := H3.out W8 hb9
    clear hb8
    go_wp2
    go_ret
    exact ⟨by simp [*], by repeat (first | with_reducible exact Later.refl _ | with_reducible assumption | with_reducible refine Later.ofdrew ?_ | with_reducible refine Later.ofdrewN ?_ | with_reducible refine Later.setCell ?_ ?_ _ | with_reducible refine Later.alloc ?_ _ | with_reducible refine Later.drewN ?_ _ | with_reducible refine Later.drew ?_ | (with_reducible refine Later.trans ?_ (by assumption)) | (simp only [World.size_setCell, World.size_alloc, World.heap_drewN]; omega) | (simp; done) | (simp; omega))⟩


set_option maxHeartbeats 1600000 in
theorem own1_idx (B : Nat) (u : Value) (x l : List Rw) (hx : x ≠ []) (hlen : l.length ≤ 100000) (v : Value) (w : World) (hN : IsRow 9 rwF w v l) (hc : w.cell? ⟨B, 0, none⟩ = some u) (hu : IsRow 9 rwF w u x) :
    Calls Tryz.prog 68 #[v, .func (.func 47) #[] #[.pointer (some ⟨B, 0, none⟩)]] w fun e w' => (∃ r : Int, e = .returned (.int .i64 r) ∧ decide (0 ≤ r) = l.any (fun r => decide (r.head ≠ (hd x).head))) ∧ Later w w' := by
  obtain ⟨p, cp, rfl⟩ := hN.form
  have HCL := Lib.hid (fun (r : Rw) W (hl : Later w W) => own1_any r.no r.seq r.per r.con r.day r.ref r.pty r.cur r.amt B u x hx W (((bcell hl).1 _ _ (World.block_lt_of_cell? _ _ hc)).trans hc) (hu.later hl))
  have HN := Lib.hid hN
  clear hN hu
  obtain ⟨L, hL⟩ : ∃ L, l.length = L := ⟨_, rfl⟩
  rw [hL] at HN hlen ⊢
  have HL := Lib.hid hL
  clear hL
  go_enter Tryz.func68, Tryz.ntmps68
  go_wp2
  go_loopw [8] (fun s8 wr => ∃ j : Nat, j ≤ L ∧ s8 = .int .i64 j ∧ Hid (∀ i (h : i < l.length), i < j → decide ((l[i]).head ≠ (hd x).head) = false) ∧ Later w wr) (fun s8 _ => L - (intOf s8).toNat)
  case atStart => exact ⟨0, Nat.zero_le _, rfl, Lib.hid (fun i _ h => by omega), Later.refl _⟩
  case round =>
    obtain ⟨j, hj, rfl, hall, hlat⟩ := hrel
    by_cases hlt : j < L
    · have hjl : j < l.length := by rw [HL.out]; exact hlt
      obtain ⟨b, o, cp', hv, hb, g⟩ := HN.out.full (i := j) hjl
      rw [HL.out] at hv
      cases hv
      replace g := fun k (hk : k < 9) => ((bcell hlat).1 _ _ hb).trans (g k hk)
      have g0 := g 0 (by omega)
      have g1 := g 1 (by omega)
      have g2 := g 2 (by omega)
      have g3 := g 3 (by omega)
      have g4 := g 4 (by omega)
      have g5 := g 5 (by omega)
      have g6 := g 6 (by omega)
      have g7 := g 7 (by omega)
      have g8 := g 8 (by omega)
      simp only [rwF, Rw.nums, List.getD_cons_zero, List.getD_cons_succ, Nat.add_zero] at g0 g1 g2 g3 g4 g5 g6 g7 g8
      have HC := Lib.hid (fun W (hl : Later wr W) => HCL.out l[j] W (hlat.trans hl))
      clear g HCL HN
      cases hf : decide ((l[j]).head ≠ (hd x).head) with
      | false =>
        have HA : Hid (∀ i (h : i < l.length), i < j + 1 → decide ((l[i]).head ≠ (hd x).head) = false) := Lib.hid (fun i h1 h2 => by
          by_cases h : i = j
          · subst h; exact hf
          · exact hall.out i h1 (by omega))
        rw [hf] at HC
        clear hf hall HL
        generalize l[j] = X at *
        obtain ⟨x0, x1, x2, x3, x4, x5, x6, x7, x8⟩ := X
        simp only at g0 g1 g2 g3 g4 g5 g6 g7 g8 HC
        go_wp2_with (go_at_call 47; go_must (refine (HC.out _ (by repeat (first | with_reducible exact Later.refl _ | with_reducible assumption | with_reducible refine Later.ofdrew ?_ | with_reducible refine Later.ofdrewN ?_ | with_reducible refine Later.setCell ?_ ?_ _ | with_reducible refine Later.alloc ?_ _ | with_reducible refine Later.drewN ?_ _ | with_reducible refine Later.drew ?_ | (with_reducible refine Later.trans ?_ (by assumption)) | (simp only [World.size_setCell, World.size_alloc, World.heap_drewN]; omega) | (simp; done) | (simp; omega)))).mono ?_; rintro e w3 ⟨rfl, hb3⟩))
        go_roundw
        case rel => exact ⟨j + 1, by omega, by go_num, HA, hlat.trans hb3⟩
        case measure => simp [intOf]; omega
      | true =>
        have HF : Hid (l.any (fun r => decide (r.head ≠ (hd x).head)) = true) := Lib.hid (List.any_eq_true.2 ⟨l[j], List.getElem_mem _, hf⟩)
        rw [hf] at HC
        clear hf hall HL
        generalize l[j] = X at *
        obtain ⟨x0, x1, x2, x3, x4, x5, x6, x7, x8⟩ := X
        simp only at g0 g1 g2 g3 g4 g5 g6 g7 g8 HC
        go_wp2_with (go_at_call 47; go_must (refine (HC.out _ (by repeat (first | with_reducible exact Later.refl _ | with_reducible assumption | with_reducible refine Later.ofdrew ?_ | with_reducible refine Later.ofdrewN ?_ | with_reducible refine Later.setCell ?_ ?_ _ | with_reducible refine Later.alloc ?_ _ | with_reducible refine Later.drewN ?_ _ | with_reducible refine Later.drew ?_ | (with_reducible refine Later.trans ?_ (by assumption)) | (simp only [World.size_setCell, World.size_alloc, World.heap_drewN]; omega) | (simp; done) | (simp; omega)))).mono ?_; rintro e w3 ⟨rfl, hb3⟩))
        go_ret
        exact ⟨⟨j, rfl, by rw [HF.out]; simp⟩, hlat.trans hb3⟩
    · have HF : Hid (l.any (fun r => decide (r.head ≠ (hd x).head)) = false) := Lib.hid (by
        rw [List.any_eq_false]
        intro r hr
        obtain ⟨i, hi, rfl⟩ := List.getElem_of_mem hr
        have := hall.out i hi (by rw [HL.out] at hi; omega)
        rw [this]; simp)
      clear hall
      go_wp2
      go_ret
      exact ⟨⟨-1, rfl, by rw [HF.out]; simp⟩, hlat⟩

set_option maxHeartbeats 400000 in
theorem own1_con (B : Nat) (u : Value) (x l : List Rw) (hx : x ≠ []) (hlen : l.length ≤ 100000) (v : Value) (w : World) (hN : IsRow 9 rwF w v l) (hc : w.cell? ⟨B, 0, none⟩ = some u) (hu : IsRow 9 rwF w u x) :
    Calls Tryz.prog 46 #[v, .func (.func 47) #[] #[.pointer (some ⟨B, 0, none⟩)]] w fun e w' => e = .returned (.bool (l.any (fun r => decide (r.head ≠ (hd x).head)))) ∧ Later w w' := by
  have HC := Lib.hid (own1_idx B u x l hx hlen v w hN hc hu)
  obtain ⟨p, cp, rfl⟩ := hN.form
  clear hN hc hu
  generalize l.any (fun r => decide (r.head ≠ (hd x).head)) = bb at *
  go_enter Tryz.func46, Tryz.ntmps46
  go_wp2_with (go_at_call 68; go_must (refine HC.out.mono ?_; rintro e w1 ⟨⟨r, rfl, hr⟩, hb1⟩))
  go_ret
  exact ⟨by rw [← hr]; rfl, hb1⟩


set_option maxHeartbeats 2000000 in
theorem sum_all (l : List Rw) (hlen : l.length ≤ 10000) (hwd : ∀ r ∈ l, I64 r.amt) (v : Value) (w : World) (hN : IsRow 9 rwF w v l) :
    Calls Tryz.prog 24 #[v, .func (.func 49) #[] #[]] w fun e w' => e = .returned (.tuple #[.int .i64 (fitN (sumI ((l.filter (fun _ => true)).map (·.amt)))), .int .i64 (fitE (sumI ((l.filter (fun _ => true)).map (·.amt))))]) ∧ Later w w' := by
  obtain ⟨p, cp, rfl⟩ := hN.form
  have HCL := Lib.hid (fun (r : Rw) W (hl : Later w W) => own2_any r.no r.seq r.per r.con r.day r.ref r.pty r.cur r.amt W)
  have HN := Lib.hid hN
  have hS : ∀ (zs : List Int), zs = (l.filter (fun _ => true)).map (·.amt) → ∀ (u : Value) (W : World), IsInts W u zs → Calls Tryz.prog 54 #[u] W fun e w' => e = .returned (.tuple #[.int .i64 (fitN (sumI zs)), .int .i64 (fitE (sumI zs))]) ∧ Later W w' := by
    rintro zs rfl u W hu
    refine sum_any _ ?_ ?_ u W hu
    · intro x hx
      obtain ⟨y, hy, rfl⟩ := List.mem_map.1 hx
      exact hwd y ((List.mem_filter.1 hy).1)
    · rw [List.length_map]
      have := List.length_filter_le (fun _ => true) l
      omega
  have HS := Lib.hid hS
  clear hN hS hwd
  obtain ⟨L, hL⟩ : ∃ L, l.length = L := ⟨_, rfl⟩
  rw [hL] at HN hlen ⊢
  have HL := Lib.hid hL
  clear hL
  obtain ⟨s1, hs1⟩ : ∃ s, fitN (sumI ((l.filter (fun _ => true)).map (·.amt))) = s := ⟨_, rfl⟩
  obtain ⟨s2, hs2⟩ : ∃ s, fitE (sumI ((l.filter (fun _ => true)).map (·.amt))) = s := ⟨_, rfl⟩
  rw [hs1, hs2]
  have hs1' := Lib.hid hs1
  have hs2' := Lib.hid hs2
  clear hs1 hs2
  go_enter Tryz.func24, Tryz.ntmps24
  go_wp2
  go_loopw [6, 11] (fun s6 s11 wr => ∃ j : Nat, j ≤ L ∧ s11 = .int .i64 j ∧ ∃ k, k ≤ j ∧ Mine w 3 1 wr s6 k ((((l.take j).filter (fun _ => true)).map (·.amt)).map (Value.int .i64))) (fun _ s11 _ => L - (intOf s11).toNat)
  case atStart => exact ⟨0, Nat.zero_le _, rfl, 0, Nat.zero_le _, by simpa using Mine.nil (Later.refl _)⟩
  case round =>
    obtain ⟨j, hj, rfl, k, hk, hM⟩ := hrel
    obtain ⟨p6, cp6, rfl⟩ := hM.form
    have hlat := hM.lat
    have HM := Lib.hid hM
    clear hM
    by_cases hlt : j < L
    · have hjl : j < l.length := by rw [HL.out]; exact hlt
      obtain ⟨b, o, cp', hv, hb, g⟩ := HN.out.full (i := j) hjl
      rw [HL.out] at hv
      cases hv
      replace g := fun k (hk : k < 9) => ((bcell hlat).1 _ _ hb).trans (g k hk)
      have g0 := g 0 (by omega)
      have g1 := g 1 (by omega)
      have g2 := g 2 (by omega)
      have g3 := g 3 (by omega)
      have g4 := g 4 (by omega)
      have g5 := g 5 (by omega)
      have g6 := g 6 (by omega)
      have g7 := g 7 (by omega)
      have g8 := g 8 (by omega)
      simp only [rwF, Rw.nums, List.getD_cons_zero, List.getD_cons_succ, Nat.add_zero] at g0 g1 g2 g3 g4 g5 g6 g7 g8
      have HC := Lib.hid (fun W (hl : Later wr W) => HCL.out l[j] W (hlat.trans hl))
      have hbz := Nat.lt_of_lt_of_le hb (Later.size hlat)
      have HT : Hid (((l.take (j + 1)).filter (fun _ => true)) = ((l.take j).filter (fun _ => true)) ++ (if (fun _ => true) l[j] = true then [l[j]] else [])) := Lib.hid (by
        rw [List.take_add_one, List.getElem?_eq_getElem hjl, Option.toList_some, List.filter_append]
        congr 1
        try simp only [List.filter_cons, List.filter_nil])
      clear g HCL HN HS HL
      generalize l[j] = X at *
      obtain ⟨x0, x1, x2, x3, x4, x5, x6, x7, x8⟩ := X
      simp only at g0 g1 g2 g3 g4 g5 g6 g7 g8
      have HMW := Lib.hid (fun W (h : Later wr W) => HM.out.later h)
      cases hf : (fun _ => true) (⟨x0, x1, x2, x3, x4, x5, x6, x7, x8⟩ : Rw) with
      | false =>
        exact absurd hf (by simp)
      | true =>
        rw [hf, if_pos rfl] at HT
        clear hf
        go_wp2_with (first | (go_at_call 49; go_must (refine (HC.out _ (by repeat (first | with_reducible exact Later.refl _ | with_reducible assumption | with_reducible refine Later.ofdrew ?_ | with_reducible refine Later.ofdrewN ?_ | with_reducible refine Later.setCell ?_ ?_ _ | with_reducible refine Later.alloc ?_ _ | with_reducible refine Later.drewN ?_ _ | with_reducible refine Later.drew ?_ | (with_reducible refine Later.trans ?_ (by assumption)) | (simp only [World.size_setCell, World.size_alloc, World.heap_drewN]; omega) | (simp; done) | (simp; omega)))).mono ?_; rintro e w3 ⟨rfl, hb3⟩; obtain ⟨⟨z8, d8, f8⟩, -⟩ := Own.one hb3)) | (at_builtin; go_must (refine wpList_pushAt sliceInt (HMW.out _ (by repeat (first | with_reducible exact Later.refl _ | with_reducible assumption | with_reducible refine Later.ofdrew ?_ | with_reducible refine Later.ofdrewN ?_ | with_reducible refine Later.setCell ?_ ?_ _ | with_reducible refine Later.alloc ?_ _ | with_reducible refine Later.drewN ?_ _ | with_reducible refine Later.drew ?_ | (with_reducible refine Later.trans ?_ (by assumption)) | (simp only [World.size_setCell, World.size_alloc, World.heap_drewN]; omega) | (simp; done) | (simp; omega)))) rfl _ _ rfl rfl 1 _ rfl (by simp) rfl (by simp [Value.oneCell']) (by omega) (by unfold maxLen; omega) ?_; intro v5 w5 hM5 hg5; have hb5 := hM5.lat; obtain ⟨p5, cp5, rfl⟩ := hM5.form)))
        go_roundw
        case rel => exact ⟨j + 1, by omega, by go_num, k + 1, by omega, by rw [HT.out, List.map_append, List.map_append]; exact hM5⟩
        case measure => simp [intOf]; omega
    · have hI : Hid (IsInts wr (.slice p6 k cp6) ((l.filter (fun _ => true)).map (·.amt))) := Lib.hid (by
        have h := HM.out.ints.1
        rwa [List.take_of_length_le (by rw [HL.out]; omega)] at h)
      have HS2 := Lib.hid (fun W (h : Later wr W) => HS.out _ rfl _ W (hI.out.later h))
      rw [hs1'.out, hs2'.out] at HS2
      clear HS HN HM HCL
      go_wp2_with (go_at_call 54; go_must (refine (HS2.out _ (by repeat (first | with_reducible exact Later.refl _ | with_reducible assumption | with_reducible refine Later.ofdrew ?_ | with_reducible refine Later.ofdrewN ?_ | with_reducible refine Later.setCell ?_ ?_ _ | with_reducible refine Later.alloc ?_ _ | with_reducible refine Later.drewN ?_ _ | with_reducible refine Later.drew ?_ | (with_reducible refine Later.trans ?_ (by assumption)) | (simp only [World.size_setCell, World.size_alloc, World.heap_drewN]; omega) | (simp; done) | (simp; omega)))).mono ?_; rintro e w4 ⟨rfl, hb4⟩))
      go_ret2
      exact ⟨rfl, by repeat (first | with_reducible exact Later.refl _ | with_reducible assumption | with_reducible refine Later.ofdrew ?_ | with_reducible refine Later.ofdrewN ?_ | with_reducible refine Later.setCell ?_ ?_ _ | with_reducible refine Later.alloc ?_ _ | with_reducible refine Later.drewN ?_ _ | with_reducible refine Later.drew ?_ | (with_reducible refine Later.trans ?_ (by assumption)) | (simp only [World.size_setCell, World.size_alloc, World.heap_drewN]; omega) | (simp; done) | (simp; omega))⟩


set_option maxHeartbeats 2000000 in
theorem sum_fold (B1 B2 B3 : Nat) (party cur period : Int) (l : List Rw) (hlen : l.length ≤ 10000) (hwd : ∀ r ∈ l, I64 r.amt) (v : Value) (w : World) (hN : IsRow 9 rwF w v l) (h1 : w.cell? ⟨B1, 0, none⟩ = some (.int .i64 party)) (h2 : w.cell? ⟨B2, 0, none⟩ = some (.int .i64 cur)) (h3 : w.cell? ⟨B3, 0, none⟩ = some (.int .i64 period)) :
    Calls Tryz.prog 24 #[v, .func (.func 25) #[] #[.pointer (some ⟨B1, 0, none⟩), .pointer (some ⟨B2, 0, none⟩), .pointer (some ⟨B3, 0, none⟩)]] w fun e w' => e = .returned (.tuple #[.int .i64 (fitN (sumI ((l.filter (foldB party cur period)).map (·.amt)))), .int .i64 (fitE (sumI ((l.filter (foldB party cur period)).map (·.amt))))]) ∧ Later w w' := by
  obtain ⟨p, cp, rfl⟩ := hN.form
  have HCL := Lib.hid (fun (r : Rw) W (hl : Later w W) => fold1_any r.no r.seq r.per r.con r.day r.ref r.pty r.cur r.amt B1 B2 B3 party cur period W (((bcell hl).1 _ _ (World.block_lt_of_cell? _ _ h1)).trans h1) (((bcell hl).1 _ _ (World.block_lt_of_cell? _ _ h2)).trans h2) (((bcell hl).1 _ _ (World.block_lt_of_cell? _ _ h3)).trans h3))
  have HN := Lib.hid hN
  have hS : ∀ (zs : List Int), zs = (l.filter (foldB party cur period)).map (·.amt) → ∀ (u : Value) (W : World), IsInts W u zs → Calls Tryz.prog 54 #[u] W fun e w' => e = .returned (.tuple #[.int .i64 (fitN (sumI zs)), .int .i64 (fitE (sumI zs))]) ∧ Later W w' := by
    rintro zs rfl u W hu
    refine sum_any _ ?_ ?_ u W hu
    · intro x hx
      obtain ⟨y, hy, rfl⟩ := List.mem_map.1 hx
      exact hwd y ((List.mem_filter.1 hy).1)
    · rw [List.length_map]
      have := List.length_filter_le (foldB party cur period) l
      omega
  have HS := Lib.hid hS
  clear hN hS hwd
  obtain ⟨L, hL⟩ : ∃ L, l.length = L := ⟨_, rfl⟩
  rw [hL] at HN hlen ⊢
  have HL := Lib.hid hL
  clear hL
  obtain ⟨s1, hs1⟩ : ∃ s, fitN (sumI ((l.filter (foldB party cur period)).map (·.amt))) = s := ⟨_, rfl⟩
  obtain ⟨s2, hs2⟩ : ∃ s, fitE (sumI ((l.filter (foldB party cur period)).map (·.amt))) = s := ⟨_, rfl⟩
  rw [hs1, hs2]
  have hs1' := Lib.hid hs1
  have hs2' := Lib.hid hs2
  clear hs1 hs2
  go_enter Tryz.func24, Tryz.ntmps24
  go_wp2
  go_loopw [6, 11] (fun s6 s11 wr => ∃ j : Nat, j ≤ L ∧ s11 = .int .i64 j ∧ ∃ k, k ≤ j ∧ Mine w 3 1 wr s6 k ((((l.take j).filter (foldB party cur period)).map (·.amt)).map (Value.int .i64))) (fun _ s11 _ => L - (intOf s11).toNat)
  case atStart => exact ⟨0, Nat.zero_le _, rfl, 0, Nat.zero_le _, by simpa using Mine.nil (Later.refl _)⟩
  case round =>
    obtain ⟨j, hj, rfl, k, hk, hM⟩ := hrel
    obtain ⟨p6, cp6, rfl⟩ := hM.form
    have hlat := hM.lat
    have HM := Lib.hid hM
    clear hM
    by_cases hlt : j < L
    · have hjl : j < l.length := by rw [HL.out]; exact hlt
      obtain ⟨b, o, cp', hv, hb, g⟩ := HN.out.full (i := j) hjl
      rw [HL.out] at hv
      cases hv
      replace g := fun k (hk : k < 9) => ((bcell hlat).1 _ _ hb).trans (g k hk)
      have g0 := g 0 (by omega)
      have g1 := g 1 (by omega)
      have g2 := g 2 (by omega)
      have g3 := g 3 (by omega)
      have g4 := g 4 (by omega)
      have g5 := g 5 (by omega)
      have g6 := g 6 (by omega)
      have g7 := g 7 (by omega)
      have g8 := g 8 (by omega)
      simp only [rwF, Rw.nums, List.getD_cons_zero, List.getD_cons_succ, Nat.add_zero] at g0 g1 g2 g3 g4 g5 g6 g7 g8
      have HC := Lib.hid (fun W (hl : Later wr W) => HCL.out l[j] W (hlat.trans hl))
      have hbz := Nat.lt_of_lt_of_le hb (Later.size hlat)
      have HT : Hid (((l.take (j + 1)).filter (foldB party cur period)) = ((l.take j).filter (foldB party cur period)) ++ (if (foldB party cur period) l[j] = true then [l[j]] else [])) := Lib.hid (by
        rw [List.take_add_one, List.getElem?_eq_getElem hjl, Option.toList_some, List.filter_append]
        congr 1
        try simp only [List.filter_cons, List.filter_nil])
      clear g HCL HN HS HL
      generalize l[j] = X at *
      obtain ⟨x0, x1, x2, x3, x4, x5, x6, x7, x8⟩ := X
      simp only at g0 g1 g2 g3 g4 g5 g6 g7 g8
      have HMW := Lib.hid (fun W (h : Later wr W) => HM.out.later h)
      cases hf : (foldB party cur period) (⟨x0, x1, x2, x3, x4, x5, x6, x7, x8⟩ : Rw) with
      | false =>
        rw [hf, if_neg (by simp), List.append_nil] at HT
        rw [hf] at HC
        clear hf
        go_wp2_with (go_at_call 25; go_must (refine (HC.out _ (by repeat (first | with_reducible exact Later.refl _ | with_reducible assumption | with_reducible refine Later.ofdrew ?_ | with_reducible refine Later.ofdrewN ?_ | with_reducible refine Later.setCell ?_ ?_ _ | with_reducible refine Later.alloc ?_ _ | with_reducible refine Later.drewN ?_ _ | with_reducible refine Later.drew ?_ | (with_reducible refine Later.trans ?_ (by assumption)) | (simp only [World.size_setCell, World.size_alloc, World.heap_drewN]; omega) | (simp; done) | (simp; omega)))).mono ?_; rintro e w3 ⟨rfl, hb3⟩))
        go_roundw
        case rel => exact ⟨j + 1, by omega, by go_num, k, by omega, by rw [HT.out]; exact HMW.out _ (by repeat (first | with_reducible exact Later.refl _ | with_reducible assumption | with_reducible refine Later.ofdrew ?_ | with_reducible refine Later.ofdrewN ?_ | with_reducible refine Later.setCell ?_ ?_ _ | with_reducible refine Later.alloc ?_ _ | with_reducible refine Later.drewN ?_ _ | with_reducible refine Later.drew ?_ | (with_reducible refine Later.trans ?_ (by assumption)) | (simp only [World.size_setCell, World.size_alloc, World.heap_drewN]; omega) | (simp; done) | (simp; omega)))⟩
        case measure => simp [intOf]; omega
      | true =>
        rw [hf, if_pos rfl] at HT
        rw [hf] at HC; clear hf
        go_wp2_with (first | (go_at_call 25; go_must (refine (HC.out _ (by repeat (first | with_reducible exact Later.refl _ | with_reducible assumption | with_reducible refine Later.ofdrew ?_ | with_reducible refine Later.ofdrewN ?_ | with_reducible refine Later.setCell ?_ ?_ _ | with_reducible refine Later.alloc ?_ _ | with_reducible refine Later.drewN ?_ _ | with_reducible refine Later.drew ?_ | (with_reducible refine Later.trans ?_ (by assumption)) | (simp only [World.size_setCell, World.size_alloc, World.heap_drewN]; omega) | (simp; done) | (simp; omega)))).mono ?_; rintro e w3 ⟨rfl, hb3⟩; obtain ⟨⟨z8, d8, f8⟩, -⟩ := Own.one hb3)) | (at_builtin; go_must (refine wpList_pushAt sliceInt (HMW.out _ (by repeat (first | with_reducible exact Later.refl _ | with_reducible assumption | with_reducible refine Later.ofdrew ?_ | with_reducible refine Later.ofdrewN ?_ | with_reducible refine Later.setCell ?_ ?_ _ | with_reducible refine Later.alloc ?_ _ | with_reducible refine Later.drewN ?_ _ | with_reducible refine Later.drew ?_ | (with_reducible refine Later.trans ?_ (by assumption)) | (simp only [World.size_setCell, World.size_alloc, World.heap_drewN]; omega) | (simp; done) | (simp; omega)))) rfl _ _ rfl rfl 1 _ rfl (by simp) rfl (by simp [Value.oneCell']) (by omega) (by unfold maxLen; omega) ?_; intro v5 w5 hM5 hg5; have hb5 := hM5.lat; obtain ⟨p5, cp5, rfl⟩ := hM5.form)))
        go_roundw
        case rel => exact ⟨j + 1, by omega, by go_num, k + 1, by omega, by rw [HT.out, List.map_append, List.map_append]; exact hM5⟩
        case measure => simp [intOf]; omega
    · have hI : Hid (IsInts wr (.slice p6 k cp6) ((l.filter (foldB party cur period)).map (·.amt))) := Lib.hid (by
        have h := HM.out.ints.1
        rwa [List.take_of_length_le (by rw [HL.out]; omega)] at h)
      have HS2 := Lib.hid (fun W (h : Later wr W) => HS.out _ rfl _ W (hI.out.later h))
      rw [hs1'.out, hs2'.out] at HS2
      clear HS HN HM HCL
      go_wp2_with (go_at_call 54; go_must (refine (HS2.out _ (by repeat (first | with_reducible exact Later.refl _ | with_reducible assumption | with_reducible refine Later.ofdrew ?_ | with_reducible refine Later.ofdrewN ?_ | with_reducible refine Later.setCell ?_ ?_ _ | with_reducible refine Later.alloc ?_ _ | with_reducible refine Later.drewN ?_ _ | with_reducible refine Later.drew ?_ | (with_reducible refine Later.trans ?_ (by assumption)) | (simp only [World.size_setCell, World.size_alloc, World.heap_drewN]; omega) | (simp; done) | (simp; omega)))).mono ?_; rintro e w4 ⟨rfl, hb4⟩))
      go_ret2
      exact ⟨rfl, by repeat (first | with_reducible exact Later.refl _ | with_reducible assumption | with_reducible refine Later.ofdrew ?_ | with_reducible refine Later.ofdrewN ?_ | with_reducible refine Later.setCell ?_ ?_ _ | with_reducible refine Later.alloc ?_ _ | with_reducible refine Later.drewN ?_ _ | with_reducible refine Later.drew ?_ | (with_reducible refine Later.trans ?_ (by assumption)) | (simp only [World.size_setCell, World.size_alloc, World.heap_drewN]; omega) | (simp; done) | (simp; omega))⟩

end Go.Proofs.YtckeaibamgkegaaGreatDoor
end
section
/- blocks that stay: words -/
namespace Go.Proofs.YtckeaibamgkegaaGreatDoor
open Go.RowKit
set_option maxRecDepth 100000

theorem Mine.tag {w0 w : World} {e sz n : Nat} {v : Value} {xs : List Value} (h : Mine w0 e sz w v n xs) : ∀ g, v.ownBlock = some g → ∃ cs fr, w.heap[g]? = some (.cells cs e fr) := by
  intro g hg
  rcases h.1.2 with ⟨h1, h2⟩ | ⟨g', cap, cur, h1, h2, h3, h4⟩
  · rw [h1] at hg; cases hg
  · rw [h1] at hg; cases hg; exact ⟨_, _, h3⟩
theorem block_kept {w0 w w' : World} {e sz n : Nat} {v : Value} {xs : List Value} (hM : Mine w0 e sz w v n xs) (hg : w.grownBy w' v.ownBlock) {b : Nat} {cs : Array Value} {t : TypeId} {fr : Nat × Nat} (hb : w.heap[b]? = some (.cells cs t fr)) (hne : t ≠ e) : w'.heap[b]? = some (.cells cs t fr) :=
  (hg.block b (Array.getElem?_eq_some_iff.1 hb).1 (fun h => by
    obtain ⟨cs', fr', h2⟩ := hM.tag b h.symm
    rw [hb] at h2; cases h2; exact hne rfl)).trans hb
theorem own_of_block {w : World} {b : Nat} {A : Array Value} {t : TypeId} (h : w.heap[b]? = some (.cells A t (0, 0))) : Own w [(b, A)] :=
  Own.cons (Array.getElem?_eq_some_iff.1 h).1 (fun i => by simp [World.cell?, h]) (fun i _ => frozen_of_row w b i A t h) trivial
theorem block_later {w w' : World} {b : Nat} {o : Obj} (h : w.heap[b]? = some o) (hb : Later w w') : w'.heap[b]? = some o := (hb.block b (Array.getElem?_eq_some_iff.1 h).1).trans h

end Go.Proofs.YtckeaibamgkegaaGreatDoor
end
section
/- texts: decimals, Join, a builder that a call has made -/
namespace Go.Proofs.YtckeaibamgkegaaGreatDoor
open Go.RowKit
set_option maxRecDepth 100000

/-- The table of powers of ten. -/
def PowTab (w : World) : Prop := Lib.TabIs Tryz.prog w "internal/strconv.uint64pow10" .u64 Lib.pow10Tab
theorem tab_later {n : String} {k : IntKind} {zs : List Int} {w w' : World} (h : Lib.TabIs Tryz.prog w n k zs) (hb : Later w w') : Lib.TabIs Tryz.prog w' n k zs := by
  unfold Lib.TabIs World.var? at h ⊢
  cases hg : Tryz.prog.globalNamed n with
  | none => rw [hg] at h; cases h
  | some g =>
    rw [hg] at h
    simp only [Option.bind_some] at h ⊢
    have hlt : g < w.heap.size := by
      rcases Nat.lt_or_ge g w.heap.size with h' | h'
      · exact h'
      · rw [Array.getElem?_eq_none h'] at h; cases h
    rw [hb.block g hlt]
    exact h
theorem PowTab.later {w w' : World} (h : PowTab w) (hb : Later w w') : PowTab w' := tab_later h hb
theorem later_grow {w : World} (k : Nat) (os : Array Obj) : Later w (Sort.grow (w.drewN k) os) := by
  refine Below.trans ((Later.refl w).drewN k) ⟨rfl, rfl, rfl, by simp [Sort.grow], fun i hi => ?_⟩
  try simp only [World.heap_drewN] at hi
  simp [Sort.grow, Array.getElem?_append_left hi]
theorem itoa_any (n : Int) (h : I64 n) (w : World) (ht : PowTab w) : Calls Tryz.prog 30 #[.int .i64 n] w fun e w' => e = .returned (.string ⟨(Lib.itoa n).toArray⟩) ∧ Later w w' := by
  refine (Tryz.strconv_Itoa n h.1 h.2 w ht).mono ?_
  rintro e w' ⟨rfl, k, os, rfl⟩
  exact ⟨rfl, later_grow k os⟩
theorem strInfo : (Tryz.prog.info? 9).map (fun i => (i.zero, i.size, i.bytes)) = some (some (.string ⟨#[]⟩), 1, 16) := by kernel_rfl
theorem sliceStr : SliceOf Tryz.prog 73 9 1 16 := sliceOf_mk Tryz.underlying73 strInfo rfl (by decide)
theorem join_any {w0 W : World} {v : Value} (NL : List Int) (n : Nat) (hn : n = NL.length) (hn2 : n ≤ 100000) (hlen : (Lib.join (NL.map Lib.itoa) [32]).length ≤ 100000) (hM : Mine w0 9 1 W v n (NL.map (fun n => Value.string ⟨(Lib.itoa n).toArray⟩))) (w : World) (hl : Later W w) :
    Calls Tryz.prog 32 #[v, .string ⟨#[32]⟩] w fun e w' => e = .returned (.string ⟨(Lib.join (NL.map Lib.itoa) [32]).toArray⟩) ∧ Later w w' := by
  subst hn
  have hM := hM.later hl
  have e1 : (NL.map (fun n => (⟨(Lib.itoa n).toArray⟩ : ByteArray))).map (·.data.toList) = NL.map Lib.itoa := by
    rw [List.map_map]
    refine List.map_congr_left (fun x _ => ?_)
    simp
  rcases hM.1.2 with ⟨rfl, h0⟩ | ⟨g, cap, cur, rfl, h2, h3, h4, h5, h6, h7⟩
  · have : NL = [] := List.eq_nil_of_length_eq_zero h0
    subst this
    exact (Tryz.strings_Join_none none 0 ⟨#[32]⟩ w).mono (fun e w' h => ⟨h.1, by rw [h.2]; exact Later.refl _⟩)
  · have hj := Tryz.strings_Join g 0 cap (NL.map (fun n => (⟨(Lib.itoa n).toArray⟩ : ByteArray))) ⟨#[32]⟩ w ?_ (hM.1.lt g rfl).2 ?_ ?_ ?_
    · rw [e1, List.length_map] at hj
      exact hj
    · intro j x hx
      rw [List.getElem?_map] at hx
      obtain ⟨y, hy, rfl⟩ := Option.map_eq_some_iff.1 hx
      have := hM.1.cells (g := g) rfl j (.string ⟨(Lib.itoa y).toArray⟩) (by rw [List.getElem?_map, hy]; rfl)
      rwa [add_plain] at this
    · rw [List.length_map]; omega
    · rw [List.length_map]; exact h4
    · rw [e1]; simp only; omega
theorem builder_new {w W : World} {b : Nat} (hB : w.heap.size ≤ b) (hb : W.heap[b]? = some (.cells #[.pointer none, .slice none 0 0] 72 (0, 0))) : Lib.IsBuilderF 72 5 w.heap.size b (Lib.byteCells []) W :=
  .inl ⟨hB, .slice none 0 0, hb, World.ownsRowF_of (World.ownsRow_nil _ _ _ _), by simp [Value.ownBlock]⟩
theorem builderAt_later {T e : TypeId} {B b : Nat} {p : Value} {bs : List Value} {W W' : World} (h : Lib.BuilderAtF T e B b p bs W) (hl : Later W W') : Lib.BuilderAtF T e B b p bs W' := by
  obtain ⟨h1, v, h2, h3, h4⟩ := h
  refine ⟨h1, v, (hl.block b (Array.getElem?_eq_some_iff.1 h2).1).trans h2, h3.kept (row := none) (grown_later hl none) (by cases v.ownBlock <;> simp), h4⟩
theorem builder_later {T e : TypeId} {B b : Nat} {bs : List Value} {W W' : World} (h : Lib.IsBuilderF T e B b bs W) (hl : Later W W') : Lib.IsBuilderF T e B b bs W' := h.imp (fun h => builderAt_later h hl) (fun h => builderAt_later h hl)
theorem byteCells_len (T : List UInt8) : (Lib.byteCells T).length = T.length := by unfold Lib.byteCells; simp
theorem write_any (B b : Nat) (T : List UInt8) (s : ByteArray) (w : World) (h : Lib.IsBuilderF 72 5 B b (Lib.byteCells T) w) (hlen : T.length + s.size ≤ 140737488355328) (hB : B ≤ w.heap.size) :
    Calls Tryz.prog 31 #[.pointer (some ⟨b, 0, none⟩), .string s] w fun e w' => e = .returned (.tuple #[.int .i64 s.size, .nilIface]) ∧ Lib.IsBuilderF 72 5 B b (Lib.byteCells T ++ Lib.strCells s) w' ∧ Below B w w' :=
  (Any.Builder_WriteString_f { Tryz.lays156 with } Tryz.Builder_Extra_156 B b (Lib.byteCells T) s w h (by rw [byteCells_len]; exact hlen) hB).mono (fun _ _ h => ⟨h.1, .inr h.2.1, h.2.2⟩)
theorem ba_app_size (s t : ByteArray) : (s ++ t).size = s.size + t.size := ByteArray.size_append
theorem ba_mk_size (S : List UInt8) : (ByteArray.mk S.toArray).size = S.length := by simp [ByteArray.size]
theorem byteCells_str (T S : List UInt8) : Lib.byteCells T ++ Lib.strCells (ByteArray.mk S.toArray ++ ⟨#[10]⟩) = Lib.byteCells (T ++ (S ++ [10])) := by
  unfold Lib.byteCells Lib.strCells
  simp [ByteArray.data_append]
end Go.Proofs.YtckeaibamgkegaaGreatDoor
end
