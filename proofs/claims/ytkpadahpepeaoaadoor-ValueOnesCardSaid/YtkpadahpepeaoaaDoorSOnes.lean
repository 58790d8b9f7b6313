/- ValueOnes: its walk -/
import Derived.Test.YtkpadahpepeaoaaDoorSOnesP
import Derived.Test.YtkpadahpepeaoaaDoorSAppN
set_option linter.all false
namespace Go.Proofs.YtkpadahpepeaoaaDoor
open Go.RowKit
set_option maxRecDepth 100000

theorem heads_three (p0 p1 p2 : Option Addr) (n0 n1 n2 c0 c1 c2 : Nat) (w : World) : (Instr.buildSlice 56 3 #[(0, .slice p0 n0 c0), (1, .slice p1 n1 c1), (2, .slice p2 n2 c2)]).run Tryd.prog w
      = .ok (.slice (some ⟨w.heap.size, 0, none⟩) 3 3) (w.alloc (.cells #[.slice p0 n0 c0, .slice p1 n1 c1, .slice p2 n2 c2] 22)) := by kernel_rfl
theorem head_oks {a : List Nd} (oa : ∀ x ∈ a, x.ok) (j : Nat) : ∀ x ∈ headL j ++ a, x.ok := by
  intro x hx
  rcases List.mem_append.1 hx with h | h
  · have h0 : I64 0 := by unfold I64; omega
    have h1 : I64 1 := by unfold I64; omega
    have h3 : I64 3 := by unfold I64; omega
    have h4 : I64 4 := by unfold I64; omega
    have h6 : I64 6 := by unfold I64; omega
    rcases j with _ | _ | j <;> (simp only [headL, List.mem_cons, List.not_mem_nil, or_false] at h; rcases h with rfl | rfl <;> exact ⟨by assumption, by assumption, by assumption, by assumption, by assumption⟩)
  · exact oa x h
theorem head_len (j : Nat) : (headL j).length = 2 := by rcases j with _ | _ | j <;> rfl
theorem join_oks1 (op : Int) (ho : I64 op) {a b : List Nd} (ha : ∀ x ∈ a, x.ok) (hb : ∀ x ∈ b, x.ok) : ∀ x ∈ joinN op a b, x.ok := by
  intro x hx
  unfold joinN at hx
  have h0 : I64 0 := by unfold I64; omega
  rcases List.mem_cons.1 hx with rfl | hx
  · exact ⟨ho, h0, h0, h0, h0⟩
  · rcases List.mem_append.1 hx with h | h
    · exact ha x h
    · exact hb x h
theorem join_len1 (op : Int) (a b : List Nd) : (joinN op a b).length = a.length + b.length + 1 := by simp [joinN]


set_option maxHeartbeats 1600000 in
theorem ones_far (a : List Nd) (ls : List Td) (day : Int) (va lv : Value) (w : World) (hS : Shapes w) (hA : IsNodes w va a) (hT : IsTolds w lv ls) (h1 : 20 < a.length) :
    Calls Tryd.prog 6 #[va, lv, .int .i64 day] w fun e w' => e = .returned (.bool true) ∧ Later w w' := by
  have HAW := Lib.hid (fun W (hl : Later w W) => vawake_any W (hS.later hl))
  obtain ⟨p0, c0, rfl⟩ := hA.form
  obtain ⟨p2, c2, rfl⟩ := hT.form
  generalize a.length = L at *
  generalize ls.length = N at *
  clear hA hT hS
  have g1 : 20 < (L : Int) := by omega
  clear h1
  go_enter Tryd.func6, Tryd.ntmps6
  go_wp2_with (go_at_call 8; go_must (refine (HAW.out _ (by repeat (first | with_reducible exact Later.refl _ | with_reducible assumption | with_reducible refine Later.ofdrew ?_ | with_reducible refine Later.ofdrewN ?_ | with_reducible refine Later.setCell ?_ ?_ _ | with_reducible refine Later.alloc ?_ _ | with_reducible refine Later.drewN ?_ _ | with_reducible refine Later.drew ?_ | (with_reducible refine Later.trans ?_ (by assumption)) | (simp only [World.size_setCell, World.size_alloc, World.heap_drewN]; omega) | (simp; done) | (simp; omega)))).mono ?_; rintro e w9 ⟨rfl, hb9⟩))
  go_ret
  exact ⟨rfl, by repeat (first | with_reducible exact Later.refl _ | with_reducible assumption | with_reducible refine Later.ofdrew ?_ | with_reducible refine Later.ofdrewN ?_ | with_reducible refine Later.setCell ?_ ?_ _ | with_reducible refine Later.alloc ?_ _ | with_reducible refine Later.drewN ?_ _ | with_reducible refine Later.drew ?_ | (with_reducible refine Later.trans ?_ (by assumption)) | (simp only [World.size_setCell, World.size_alloc, World.heap_drewN]; omega) | (simp; done) | (simp; omega))⟩

set_option maxHeartbeats 1600000 in
theorem ones_far2 (a : List Nd) (ls : List Td) (day : Int) (va lv : Value) (w : World) (hS : Shapes w) (hA : IsNodes w va a) (hT : IsTolds w lv ls) (h1 : a.length ≤ 20) (h2 : 60 < ls.length) :
    Calls Tryd.prog 6 #[va, lv, .int .i64 day] w fun e w' => e = .returned (.bool true) ∧ Later w w' := by
  have HAW := Lib.hid (fun W (hl : Later w W) => vawake_any W (hS.later hl))
  obtain ⟨p0, c0, rfl⟩ := hA.form
  obtain ⟨p2, c2, rfl⟩ := hT.form
  generalize a.length = L at *
  generalize ls.length = N at *
  clear hA hT hS
  have g1 : ¬ (20 < (L : Int)) := by omega
  have g2 : 60 < (N : Int) := by omega
  clear h1 h2
  go_enter Tryd.func6, Tryd.ntmps6
  go_wp2_with (go_at_call 8; go_must (refine (HAW.out _ (by repeat (first | with_reducible exact Later.refl _ | with_reducible assumption | with_reducible refine Later.ofdrew ?_ | with_reducible refine Later.ofdrewN ?_ | with_reducible refine Later.setCell ?_ ?_ _ | with_reducible refine Later.alloc ?_ _ | with_reducible refine Later.drewN ?_ _ | with_reducible refine Later.drew ?_ | (with_reducible refine Later.trans ?_ (by assumption)) | (simp only [World.size_setCell, World.size_alloc, World.heap_drewN]; omega) | (simp; done) | (simp; omega)))).mono ?_; rintro e w9 ⟨rfl, hb9⟩))
  go_ret
  exact ⟨rfl, by repeat (first | with_reducible exact Later.refl _ | with_reducible assumption | with_reducible refine Later.ofdrew ?_ | with_reducible refine Later.ofdrewN ?_ | with_reducible refine Later.setCell ?_ ?_ _ | with_reducible refine Later.alloc ?_ _ | with_reducible refine Later.drewN ?_ _ | with_reducible refine Later.drew ?_ | (with_reducible refine Later.trans ?_ (by assumption)) | (simp only [World.size_setCell, World.size_alloc, World.heap_drewN]; omega) | (simp; done) | (simp; omega))⟩

set_option maxHeartbeats 1600000 in
theorem ones_wrong (a : List Nd) (ls : List Td) (day : Int) (va lv : Value) (w : World) (oa : ∀ x ∈ a, x.ok) (hS : Shapes w) (hA : IsNodes w va a) (hT : IsTolds w lv ls) (h1 : a.length ≤ 20) (h3 : ls.length ≤ 60) (w1 : wrongV a 0 ≠ 0) :
    Calls Tryd.prog 6 #[va, lv, .int .i64 day] w fun e w' => e = .returned (.bool true) ∧ Later w w' := by
  have HAW := Lib.hid (fun W (hl : Later w W) => vawake_any W (hS.later hl))
  have HWA := Lib.hid (fun W (hl : Later w W) => vwrong_any a (by omega) oa va 0 W (hA.later hl))
  obtain ⟨E, hE⟩ : ∃ E, wrongV a 0 = E := ⟨_, rfl⟩
  rw [hE] at HWA w1
  have he1 : (E == 0) = false := by simpa using w1
  have he2 : (E != 0) = true := by simpa using w1
  obtain ⟨p0, c0, rfl⟩ := hA.form
  obtain ⟨p2, c2, rfl⟩ := hT.form
  have g1 : ¬ (20 < (a.length : Int)) := by omega
  have g2 : ¬ (60 < (ls.length : Int)) := by omega
  clear hA hT hS oa h1 h3 w1 hE
  generalize a.length = L at *
  generalize ls.length = N at *
  go_enter Tryd.func6, Tryd.ntmps6
  go_wp2_with (first
    | (go_at_call 11; go_must (refine (HWA.out _ (Later.refl _)).mono ?_; rintro e w1 ⟨rfl, hb1⟩))
    | (go_at_call 8; go_must (refine (HAW.out _ hb1).mono ?_; rintro e w9 ⟨rfl, hb9⟩)))
  go_ret
  exact ⟨rfl, hb1.trans hb9⟩

set_option maxHeartbeats 1600000 in
theorem ones_deep (a : List Nd) (ls : List Td) (day : Int) (va lv : Value) (w : World) (T : Tm) (oa : ∀ x ∈ a, x.ok) (hS : Shapes w) (hA : IsNodes w va a) (hT : IsTolds w lv ls) (h1 : a.length ≤ 20) (h3 : ls.length ≤ 60) (w1 : wrongV a 0 = 0) (hAT : TmAt a 0 T) (hd : 10 < T.depth) :
    Calls Tryd.prog 6 #[va, lv, .int .i64 day] w fun e w' => e = .returned (.bool true) ∧ Later w w' := by
  have HAW := Lib.hid (fun W (hl : Later w W) => vawake_any W (hS.later hl))
  have HWA := Lib.hid (fun W (hl : Later w W) => vwrong_any a (by omega) oa va 0 W (hA.later hl))
  have HDA := Lib.hid (fun W (hl : Later w W) => rdepth_any a (by omega) T 0 va W hAT (hA.later hl))
  rw [w1] at HWA
  obtain ⟨D, hD⟩ : ∃ D, T.depth = D := ⟨_, rfl⟩
  rw [hD] at HDA hd
  have g3 : 10 < (D : Int) := by omega
  obtain ⟨p0, c0, rfl⟩ := hA.form
  obtain ⟨p2, c2, rfl⟩ := hT.form
  have g1 : ¬ (20 < (a.length : Int)) := by omega
  have g2 : ¬ (60 < (ls.length : Int)) := by omega
  clear hA hT hS oa h1 h3 w1 hAT hD hd
  generalize a.length = L at *
  generalize ls.length = N at *
  go_enter Tryd.func6, Tryd.ntmps6
  go_wp2_with (first
    | (go_at_call 11; go_must (refine (HWA.out _ (Later.refl _)).mono ?_; rintro e w1 ⟨rfl, hb1⟩))
    | (go_at_call 17; go_must (refine (HDA.out _ hb1).mono ?_; rintro e w2 ⟨rfl, hb2⟩; have hl2 := hb1.trans hb2))
    | (go_at_call 8; go_must (refine (HAW.out _ hl2).mono ?_; rintro e w9 ⟨rfl, hb9⟩)))
  go_ret
  exact ⟨rfl, hl2.trans hb9⟩

set_option maxHeartbeats 6400000 in
theorem ones_near (a : List Nd) (ls : List Td) (day : Int) (va lv : Value) (w : World) (T : Tm) (oa : ∀ x ∈ a, x.ok) (lok : ∀ x ∈ ls, x.ok) (hday : I64 day) (hS : Shapes w) (hA : IsNodes w va a) (hT : IsTolds w lv ls) (h1 : a.length ≤ 20) (h3 : ls.length ≤ 60) (w1 : wrongV a 0 = 0) (hAT : TmAt a 0 T) (hd : T.depth ≤ 10) :
    Calls Tryd.prog 6 #[va, lv, .int .i64 day] w fun e w' => e = .returned (.bool true) ∧ Later w w' := by
  have HAW := Lib.hid (fun W (hl : Later w W) => vawake_any W (hS.later hl))
  have HWA := Lib.hid (fun W (hl : Later w W) => vwrong_any a (by omega) oa va 0 W (hA.later hl))
  have HDA := Lib.hid (fun W (hl : Later w W) => rdepth_any a (by omega) T 0 va W hAT (hA.later hl))
  have HM := Lib.hid (fun W (hl : Later w W) => made_any ls (by omega) lok lv W (hT.later hl))
  have HNA := Lib.hid (fun W (hl : Later w W) => hA.later hl)
  have hg := getOk_of (fxOk_made ls lok) day
  obtain ⟨e1, e2⟩ := ones_all oa w1 h1 hAT hd hg
  have HX := Lib.hid (fun p m1 m2 W (hl : Later w W) hF => vat_any a (madeFx ls) (madeCh ls) p m1 m2 0 day va W (by omega) oa hday hg (hS.later hl) (hA.later hl) hF)
  have HH := Lib.hid (fun (j : Nat) (hj : j < 3) p m1 m2 v W (hl : Later w W) hN hF => vat_any (headL j ++ a) (madeFx ls) (madeCh ls) p m1 m2 0 day v W (by rw [List.length_append, head_len]; omega) (head_oks oa j) hday hg (hS.later hl) hN hF)
  have HO := Lib.hid (fun (j : Nat) (hj : (j : Int) = 7 ∨ (j : Int) = 8) p m1 m2 v W (hl : Later w W) hN hF => vat_any (joinN j a a) (madeFx ls) (madeCh ls) p m1 m2 0 day v W (by rw [join_len1]; omega) (join_oks1 j (by unfold I64; omega) oa oa) hday hg (hS.later hl) hN hF)
  obtain ⟨r, hr⟩ : ∃ r, atV a (madeFx ls) 0 day = r := ⟨_, rfl⟩
  have HH := Lib.hid (fun (j : Nat) (hj : j < 3) p m1 m2 v W (hl : Later w W) hN hF => (e1 j hj).trans hr ▸ HH.out j hj p m1 m2 v W hl hN hF)
  have HO := Lib.hid (fun (j : Nat) (hj : (j : Int) = 7 ∨ (j : Int) = 8) p m1 m2 v W (hl : Later w W) hN hF => (e2 j hj).trans hr ▸ HO.out j hj p m1 m2 v W hl hN hF)
  rw [hr] at HX
  unfold valR at HH HO HX
  clear hr e1 e2 hg
  generalize r.1 = re at *
  generalize r.2.isSome = ri at *
  generalize outN r = rn at *
  generalize outD r = rd at *
  rw [w1] at HWA
  obtain ⟨D, hD⟩ : ∃ D, T.depth = D := ⟨_, rfl⟩
  rw [hD] at HDA hd
  have g3 : ¬ (10 < (D : Int)) := by omega
  have hpos : 0 < a.length := by have := hAT.le; have := T.size_pos; omega
  obtain ⟨p0, c0, rfl⟩ := hA.form
  obtain ⟨p2, c2, rfl⟩ := hT.form
  have g1 : ¬ (20 < (a.length : Int)) := by omega
  have g2 : ¬ (60 < (ls.length : Int)) := by omega
  clear hA hT hS oa lok hday w1 hAT hD hd h3
  generalize ls.length = N at *
  go_enter Tryd.func6, Tryd.ntmps6
  go_upto_region 7 with (first
    | (go_at_call 11; go_must (refine (HWA.out _ (Later.refl _)).mono ?_; rintro e w1 ⟨rfl, hb1⟩))
    | (go_at_call 17; go_must (refine (HDA.out _ hb1).mono ?_; rintro e w2 ⟨rfl, hb2⟩; have hl2 := hb1.trans hb2))
    | (go_at_call 9; go_must (refine (HM.out _ hl2).mono ?_; rintro e w3 ⟨p, m1, m2, rfl, hF3, -, -, hb3⟩; have hl3 := hl2.trans hb3))
    | (go_at_call 10; go_must (refine (HX.out _ _ _ _ hl3 hF3).mono ?_; rintro e w4 ⟨rfl, hb4⟩)))
  refine wp_opaque (fun w5 hb5 => ?_)
  have hO5 := Own.one hb5
  have hl5 := hl3.trans (hb4.trans hb5.un1)
  have hF5 := hF3.later (hb4.trans hb5.un1)
  clear HM HWA HDA HX hb1 hb2 hb3 hb4 hb5 hl2 hl3 hF3
  generalize w4.heap.size = XB at *
  go_upto_region 8 with (first | (first | refine wpList_built (node_build _) rfl rfl rfl ?_ | refine wpList_built (node_build1 _ _) rfl rfl rfl ?_ | refine wpList_built (node_build3 _ _ _) rfl rfl rfl ?_ | refine wpList_built (ratio_build _ _) rfl rfl rfl ?_ | refine wpList_builtS (nodes_one _ _ _ _ _) rfl rfl rfl ?_ | refine wpList_builtS (nodes_two _ _ _ _ _ _ _ _ _ _) rfl rfl rfl ?_ | refine wpList_builtS (nodes_three _ _ _ _ _ _ _ _ _ _ _ _ _ _ _) rfl rfl rfl ?_) | refine wpList_builtS (heads_three _ _ _ _ _ _ _ _ _) rfl rfl rfl ?_)
  refine wp_opaque (fun w6 hb6 => ?_)
  have hO6 := Own.four hb6
  have hb56 := hb6.un1.un1.un1.un1
  have HHD : ∀ j, j < 3 → ∃ b, w6.cell? ⟨w5.heap.size + 1 + 1 + 1, j, none⟩ = some (.slice (some ⟨b, 0, none⟩) 2 2) ∧ b < w6.heap.size ∧ IsNodes w6 (.slice (some ⟨b, 0, none⟩) 2 2) (headL j) := by
    intro j hj
    obtain ⟨oa, ob, oc, od, -⟩ := hO6
    have hj3 : j = 0 ∨ j = 1 ∨ j = 2 := by omega
    rcases hj3 with rfl | rfl | rfl
    · exact ⟨_, (od.2.1 0).trans rfl, oa.1, nodes_of_own ⟨oa, trivial⟩ (headL 0) rfl (by decide)⟩
    · exact ⟨_, (od.2.1 1).trans rfl, ob.1, nodes_of_own ⟨ob, trivial⟩ (headL 1) rfl (by decide)⟩
    · exact ⟨_, (od.2.1 2).trans rfl, oc.1, nodes_of_own ⟨oc, trivial⟩ (headL 2) rfl (by decide)⟩
  have hzB : w5.heap.size + 1 + 1 + 1 < w6.heap.size := hO6.2.2.2.1.1
  have hO6x := hO5.later hb56
  have hl6 := hl5.trans hb56
  have hF6 := Lib.hid (hF5.later hb56)
  have HHD := Lib.hid HHD
  clear hb6 hO6 hb56 hO5 hl5 hF5
  generalize w5.heap.size + 1 + 1 + 1 = HB at *
  go_wp2
  go_loopw [11] (fun s11 wr => ∃ j : Nat, j ≤ 3 ∧ s11 = .int .i64 j ∧ Later w6 wr) (fun s11 _ => 3 - (intOf s11).toNat)
  case atStart => exact ⟨0, Nat.zero_le _, rfl, Later.refl _⟩
  case round =>
    obtain ⟨j, hj, rfl, hlat⟩ := hrel
    by_cases hlt : j < 3
    · obtain ⟨b, gc, gb, gn⟩ := HHD.out j hlt
      have gc := ((bcell hlat).1 _ _ hzB).trans gc
      have gn := Lib.hid (gn.later hlat)
      have HNA1 := Lib.hid (HNA.out _ (hl6.trans hlat))
      have HHJ := HH.out j hlt p m1 m2
      have HHJ := Lib.hid (fun v W (hl : Later w6 W) hN => HHJ v W (hl6.trans hl) hN (hF6.out.later hl))
      have hll := head_len j
      obtain ⟨hdj, hhd⟩ : ∃ l, headL j = l := ⟨_, rfl⟩
      rw [hhd] at HHJ gn hll
      clear hhd HH HO HHD
      have hzb := Later.size hlat
      obtain ⟨zx, dx, -⟩ := own_get (hO6x.later hlat)
      go_upto_region 13 with (at_builtin; go_must (refine wpList_nodes_full gn.out hll HNA1.out hpos rfl _ _ rfl rfl rfl (by omega) ?_; intro v7 w7 hM7))
      have hb7 := hM7.lat
      go_upto_region 14 with (go_at_call 10; go_must (refine (HHJ.out _ _ (hlat.trans hb7) hM7.nodes).mono ?_; rintro e w8 ⟨rfl, hb8⟩))
      refine wp_opaque (fun wk hbk => ?_)
      have hOk := Own.one hbk
      have hlk := hb7.trans (hb8.trans hbk.un1)
      clear dx zx hM7 hb7 hb8 hbk
      obtain ⟨zx, dx, -⟩ := own_get (hO6x.later (hlat.trans hlk))
      obtain ⟨zk, dk, -⟩ := own_get hOk
      go_wp2
      go_roundw
      case rel => exact ⟨j + 1, by omega, by go_num, hlat.trans hlk⟩
      case measure => simp [intOf]; omega
    · have hge : ¬ ((j : Int) < 3) := by omega
      clear HH HHD hlt hj
      go_wp2
      go_loopw [15] (fun s15 ws => ∃ j : Nat, 7 ≤ j ∧ j ≤ 9 ∧ s15 = .int .i64 j ∧ Later w6 ws) (fun s15 _ => 9 - (intOf s15).toNat)
      case atStart => exact ⟨7, by omega, by omega, rfl, hlat⟩
      case round =>
        clear hlat
        obtain ⟨j, hj7, hj, rfl, hlat⟩ := hrel
        by_cases hlt : j < 9
        · have hj2 : (j : Int) = 7 ∨ (j : Int) = 8 := by omega
          have HNA1 := Lib.hid (fun W (hl : Later _ W) => HNA.out W ((hl6.trans hlat).trans hl))
          have HOJ := HO.out j hj2 p m1 m2
          have HOJ := Lib.hid (fun v W (hl : Later w6 W) hN => HOJ v W (hl6.trans hl) hN (hF6.out.later hl))
          clear HO hj2
          have hjle : ((j : Int) ≤ 8) := by omega
          go_upto_region 22 with (first
            | refine wpList_built (node_build _) rfl rfl rfl ?_
            | refine wpList_builtS (nodes_one _ _ _ _ _) rfl rfl rfl ?_
            | (at_builtin; go_must (first
              | (refine wpList_nodes (L := [⟨(j : Int), 0, 0, 0, 0⟩]) (Mine.lit (Later.refl _) rfl (show 1 ≤ maxLen by decide)) (HNA1.out _ ((Later.refl _).alloc _)) rfl _ _ rfl rfl rfl (by simp only [List.length_cons, List.length_nil]; omega) ?_; intro v7 w7 hM7 hb7)
              | (refine wpList_nodes hM7 (HNA1.out _ hb7) rfl _ _ rfl rfl rfl (by simp only [List.length_append, List.length_cons, List.length_nil]; omega) ?_; intro v8 w8 hM8 hb8))))
          have hN8 : IsNodes w8 v8 (joinN j a a) := hM8.nodes
          clear hM7 hM8 hb7
          go_upto_region 23 with (go_at_call 10; go_must (refine (HOJ.out _ _ (hlat.trans hb8) hN8).mono ?_; rintro e wm ⟨rfl, hbm⟩))
          refine wp_opaque (fun wk hbk => ?_)
          have hOk := Own.one hbk
          have hlk := hb8.trans (hbm.trans hbk.un1)
          clear hN8 hb8 hbm hbk
          obtain ⟨zx, dx, -⟩ := own_get (hO6x.later (hlat.trans hlk))
          obtain ⟨zk, dk, -⟩ := own_get hOk
          go_wp2
          go_roundw
          case rel => exact ⟨j + 1, by omega, by omega, by go_num, hlat.trans hlk⟩
          case measure => simp [intOf]; omega
        · have hjle : ¬ ((j : Int) ≤ 8) := by omega
          have hlE := hl6.trans hlat
          clear HO HNA
          go_wp2_with (go_at_call 8; go_must (refine (HAW.out _ hlE).mono ?_; rintro e w9 ⟨rfl, hb9⟩))
          go_ret
          exact ⟨rfl, hlE.trans hb9⟩

theorem ones_any (a : List Nd) (ls : List Td) (day : Int) (va lv : Value) (w : World) (oa : ∀ x ∈ a, x.ok) (lok : ∀ x ∈ ls, x.ok) (hday : I64 day) (hS : Shapes w) (hA : IsNodes w va a) (hT : IsTolds w lv ls) :
    Calls Tryd.prog 6 #[va, lv, .int .i64 day] w fun e w' => e = .returned (.bool true) ∧ Later w w' := by
  by_cases h1 : a.length ≤ 20
  · by_cases h2 : ls.length ≤ 60
    · by_cases h3 : wrongV a 0 = 0
      · obtain ⟨T, hT', -, -⟩ := first_fine oa h3
        have hAT := (treeOf_at hT'.tree).1
        by_cases h4 : T.depth ≤ 10
        · exact ones_near a ls day va lv w T oa lok hday hS hA hT h1 h2 h3 hAT h4
        · exact ones_deep a ls day va lv w T oa hS hA hT h1 h2 h3 hAT (by omega)
      · exact ones_wrong a ls day va lv w oa hS hA hT h1 h2 h3
    · exact ones_far2 a ls day va lv w hS hA hT h1 (by omega)
  · exact ones_far a ls day va lv w hS hA hT (by omega)
end Go.Proofs.YtkpadahpepeaoaaDoor
