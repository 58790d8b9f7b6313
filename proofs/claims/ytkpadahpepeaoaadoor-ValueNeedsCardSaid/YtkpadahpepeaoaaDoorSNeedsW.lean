/- walks: chattelref05.Keys, chattellaw01.Ints, term.Size -/
import Derived.Test.YtkpadahpepeaoaaDoorSNeedsP
set_option linter.all false
namespace Go.Proofs.YtkpadahpepeaoaaDoor
open Go.RowKit
set_option maxRecDepth 100000

theorem keyB_take (op op' : Int) (l : List Nd) (j i : Nat) (hi : i < l.length) : keyB op op' (l.take (i + 1)) j = (keyB op op' (l.take i) j || decide ((l[i].op = op ∨ l[i].op = op') ∧ l[i].a = (j : Int))) := by
  unfold keyB
  rw [List.take_succ_eq_append_getElem hi, List.any_append]
  simp

set_option maxHeartbeats 3200000 in
theorem rkeys_any (l : List Nd) (hlen : l.length ≤ 100000) (v : Value) (op op' : Int) (w : World) (hN : IsNodes w v l) :
    Calls Tryd.prog 21 #[v, .int .i64 op, .int .i64 op'] w fun e w' => ∃ v', e = .returned v' ∧ IsInts w' v' (keysI op op' l) ∧ Later w w' := by
  obtain ⟨p0, c0, rfl⟩ := hN.form
  obtain ⟨L, hL⟩ : ∃ L, l.length = L := ⟨_, rfl⟩
  have HN := Lib.hid hN
  rw [hL] at HN hlen ⊢
  have HL := Lib.hid hL
  have HU := Lib.hid (keysU_succ op op' l)
  have HT := Lib.hid (keyB_take op op' l)
  have HL0 := Lib.hid (fun j => keysU_len op op' l j)
  clear hN hL
  go_enter Tryd.func21, Tryd.ntmps21
  go_wp2
  go_loopw [7, 8] (fun s7 s8 wr => ∃ (j : Nat) (xs : List Int), j ≤ 64 ∧ s8 = .int .i64 j ∧ Hid (xs = keysU op op' l j) ∧ xs.length ≤ j ∧ Mine w 3 1 wr s7 xs.length (xs.map (Value.int .i64))) (fun _ s8 _ => 64 - (intOf s8).toNat)
  case atStart => exact ⟨0, [], Nat.zero_le _, rfl, Lib.hid rfl, Nat.le_refl _, Mine.nil (Later.refl _)⟩
  case round =>
    obtain ⟨j, xs, hj, rfl, hxs, hxl, hM⟩ := hrel
    obtain ⟨p', cp', rfl⟩ := hM.form
    have HM := Lib.hid hM
    clear hM
    by_cases hlt : j < 64
    · go_wp2
      obtain ⟨wq, hwq⟩ : ∃ W, wr = W := ⟨_, rfl⟩
      rw [hwq] at HM ⊢
      clear hwq
      go_loopw [9, 10] (fun s9 s10 ws => ∃ (i : Nat) (b : Bool), i ≤ L ∧ s10 = .int .i64 i ∧ s9 = .bool b ∧ Hid (b = keyB op op' (l.take i) j) ∧ wq = ws) (fun _ s10 _ => L - (intOf s10).toNat)
      case atStart => exact ⟨0, false, Nat.zero_le _, rfl, rfl, Lib.hid rfl, rfl⟩
      case round =>
        obtain ⟨i, b, hi, rfl, rfl, hb, rfl⟩ := hrel
        by_cases hlt2 : i < L
        · obtain ⟨B, o, cp, hv, hB, hcap, g0, g1, -⟩ := HN.out.full (i := i) (by rw [HL.out]; exact hlt2)
          rw [HL.out] at hv
          cases hv
          have g0 := ((bcell HM.out.lat).1 _ _ hB).trans g0
          have g1 := ((bcell HM.out.lat).1 _ _ hB).trans g1
          have ht := HT.out j i (by rw [HL.out]; exact hlt2)
          rw [← hb.out] at ht
          obtain ⟨xo, hxo⟩ : ∃ y, (l[i]'(by rw [HL.out]; exact hlt2)).op = y := ⟨_, rfl⟩
          obtain ⟨xa, hxa⟩ : ∃ y, (l[i]'(by rw [HL.out]; exact hlt2)).a = y := ⟨_, rfl⟩
          rw [hxo] at g0 ht
          rw [hxa] at g1 ht
          clear hxo hxa hb HN
          have hcase : (b = true) ∨ (b = false ∧ xo = op ∧ xa = (j : Int)) ∨ (b = false ∧ xo = op ∧ xa ≠ (j : Int)) ∨ (b = false ∧ xo ≠ op ∧ xo = op' ∧ xa = (j : Int)) ∨ (b = false ∧ xo ≠ op ∧ xo = op' ∧ xa ≠ (j : Int)) ∨ (b = false ∧ xo ≠ op ∧ xo ≠ op') := by
            cases b
            · by_cases h1 : xo = op <;> by_cases h2 : xo = op' <;> by_cases h3 : xa = (j : Int) <;> simp only [h1, h2, h3, true_and, and_true, false_and, and_false, or_true, true_or, or_false, false_or, not_true_eq_false, not_false_eq_true, ne_eq, Bool.false_eq_true] <;> first | trivial | exact Classical.em _ | omega
            · exact .inl rfl
          rcases hcase with rfl | ⟨rfl, h1, h2⟩ | ⟨rfl, h1, h2⟩ | ⟨rfl, h1, h2, h3⟩ | ⟨rfl, h1, h2, h3⟩ | ⟨rfl, h1, h2⟩
          · have hbn : Hid (true = keyB op op' (l.take (i + 1)) j) := Lib.hid (by rw [ht]; rfl)
            clear ht
            go_wp2
            go_roundw
            case rel => exact ⟨i + 1, true, by omega, by go_num, rfl, hbn, trivial⟩
            case measure => simp [intOf]; omega
          · have hbn : Hid (true = keyB op op' (l.take (i + 1)) j) := Lib.hid (by rw [ht, h1, h2]; simp)
            have e1 : (xo == op) = true := by simpa using h1
            have e2 : (xa == (j : Int)) = true := by simpa using h2
            clear ht h1 h2
            go_wp2
            go_roundw
            case rel => exact ⟨i + 1, true, by omega, by go_num, rfl, hbn, trivial⟩
            case measure => simp [intOf]; omega
          · have hbn : Hid (false = keyB op op' (l.take (i + 1)) j) := Lib.hid (by rw [ht]; simp [h2])
            have e1 : (xo == op) = true := by simpa using h1
            have e2 : (xa == (j : Int)) = false := by simpa using h2
            clear ht h1 h2
            go_wp2
            go_roundw
            case rel => exact ⟨i + 1, false, by omega, by go_num, rfl, hbn, trivial⟩
            case measure => simp [intOf]; omega
          · have hbn : Hid (true = keyB op op' (l.take (i + 1)) j) := Lib.hid (by rw [ht, h2, h3]; simp)
            have e1 : (xo == op) = false := by simpa using h1
            have e2 : (xo == op') = true := by simpa using h2
            have e3 : (xa == (j : Int)) = true := by simpa using h3
            clear ht h1 h2 h3
            go_wp2
            go_roundw
            case rel => exact ⟨i + 1, true, by omega, by go_num, rfl, hbn, trivial⟩
            case measure => simp [intOf]; omega
          · have hbn : Hid (false = keyB op op' (l.take (i + 1)) j) := Lib.hid (by rw [ht]; simp [h3])
            have e1 : (xo == op) = false := by simpa using h1
            have e2 : (xo == op') = true := by simpa using h2
            have e3 : (xa == (j : Int)) = false := by simpa using h3
            clear ht h1 h2 h3
            go_wp2
            go_roundw
            case rel => exact ⟨i + 1, false, by omega, by go_num, rfl, hbn, trivial⟩
            case measure => simp [intOf]; omega
          · have hbn : Hid (false = keyB op op' (l.take (i + 1)) j) := Lib.hid (by rw [ht]; simp [h1, h2])
            have e1 : (xo == op) = false := by simpa using h1
            have e2 : (xo == op') = false := by simpa using h2
            clear ht h1 h2
            go_wp2
            go_roundw
            case rel => exact ⟨i + 1, false, by omega, by go_num, rfl, hbn, trivial⟩
            case measure => simp [intOf]; omega
        · obtain rfl : i = L := by omega
          have hbk : b = keyB op op' l j := by have := hb.out; rwa [List.take_of_length_le (by rw [HL.out]; exact Nat.le_refl _)] at this
          have hn := HU.out j
          rw [← hbk, ← hxs.out] at hn
          clear hbk hb HN HT
          cases b
          · have HX : Hid (xs = keysU op op' l (j + 1)) := Lib.hid (by rw [hn]; simp)
            clear hn
            go_wp2
            go_roundw
            case rel => exact ⟨j + 1, xs, by omega, by go_num, HX, by omega, HM.out⟩
            case measure => simp [intOf]; omega
          · have HX : Hid (xs ++ [(j : Int)] = keysU op op' l (j + 1)) := Lib.hid (by rw [hn]; simp)
            clear hn
            go_wp2_with (at_builtin; go_must (refine wpList_push sliceInt HM.out rfl _ _ rfl rfl 1 rfl rfl (by simp [Value.oneCell']) (by omega) (by unfold maxLen; omega) ?_; intro v5 w3 hM3 hg3))
            go_roundw
            case rel => exact ⟨j + 1, xs ++ [(j : Int)], by omega, by go_num, HX, by simp; omega, by rw [List.length_append, List.map_append]; exact hM3⟩
            case measure => simp [intOf]; omega
    · obtain rfl : j = 64 := by omega
      go_wp2
      go_ret
      have h2 : xs = keysI op op' l := hxs.out
      exact ⟨_, rfl, by rw [← h2]; exact HM.out.ints.1, HM.out.lat⟩


set_option maxHeartbeats 1600000 in
theorem ints_same (zs : List Int) (hz : zs.length ≤ 100000) (va vb : Value) (w : World) (hA : IsInts w va zs) (hB : IsInts w vb zs) :
    Calls Tryd.prog 20 #[va, vb] w fun e w' => e = .returned (.bool true) ∧ Later w w' := by
  obtain ⟨p0, c0, rfl⟩ := hA.form
  obtain ⟨p1, c1, rfl⟩ := hB.form
  obtain ⟨L, hL⟩ : ∃ L, zs.length = L := ⟨_, rfl⟩
  have HA := Lib.hid hA
  have HB := Lib.hid hB
  rw [hL] at HA HB hz ⊢
  have HL := Lib.hid hL
  clear hA hB hL
  go_enter Tryd.func20, Tryd.ntmps20
  go_wp2
  go_loopw [5] (fun s5 wr => ∃ j : Nat, j ≤ L ∧ s5 = .int .i64 j ∧ Later w wr) (fun s5 _ => L - (intOf s5).toNat)
  case atStart => exact ⟨0, Nat.zero_le _, rfl, Later.refl _⟩
  case round =>
    obtain ⟨j, hj, rfl, hlat⟩ := hrel
    by_cases hlt : j < L
    · obtain ⟨b1, o1, d1, hv1, hb1, g1⟩ := HA.out.full (j := j) (by rw [HL.out]; exact hlt)
      rw [HL.out] at hv1
      cases hv1
      obtain ⟨b2, o2, d2, hv2, hb2, g2⟩ := HB.out.full (j := j) (by rw [HL.out]; exact hlt)
      rw [HL.out] at hv2
      cases hv2
      have g1 := ((bcell hlat).1 _ _ hb1).trans g1
      have g2 := ((bcell hlat).1 _ _ hb2).trans g2
      generalize zs[j]'(by rw [HL.out]; exact hlt) = z at *
      clear HA HB
      go_upto_region 6 with (fail)
      refine wp_region_plan 9 (.done [0, 1, 2, 3, 4, 5, 6, 7, 8]) (by kernel_rfl) (by kernel_rfl) (fun _ _ d _ _ h => by cases d <;> exact h) ?_
      repeat' (first
        | (refine plan_done (fun K hK => ?_); (first | (simp only [pick_cons, pick_nil, toList_some_append, List.getElem?_toArray, List.getElem?_cons_zero, List.getElem?_cons_succ]; repeat (go_big_quiet_step (fail))) | simp only [pick_nil]); refine wpQuiet_nil (hK _ ?_); clear hK K)
        | ((with_reducible refine at_list ?_); go_wp2_with (fail); first | refine behind_store (t := 9) (by decide) ?_ | refine behind (by repeat (first | with_reducible exact Later.refl _ | with_reducible assumption | with_reducible refine Later.ofdrew ?_ | with_reducible refine Later.ofdrewN ?_ | with_reducible refine Later.alloc ?_ _ | with_reducible refine Later.drewN ?_ _ | with_reducible refine Later.drew ?_ | (with_reducible refine Later.trans ?_ (by assumption)))) ?_))
      go_wp2
      go_roundw
      case rel => exact ⟨j + 1, by omega, by go_num, by repeat (first | with_reducible exact Later.refl _ | with_reducible assumption | with_reducible refine Later.ofdrew ?_ | with_reducible refine Later.ofdrewN ?_ | with_reducible refine Later.setCell ?_ ?_ _ | with_reducible refine Later.alloc ?_ _ | with_reducible refine Later.drewN ?_ _ | with_reducible refine Later.drew ?_ | (with_reducible refine Later.trans ?_ (by assumption)) | (simp only [World.size_setCell, World.size_alloc, World.heap_drewN]; omega) | (simp; done) | (simp; omega))⟩
      case measure => simp [intOf]; omega
    · go_wp2
      go_ret
      exact ⟨rfl, hlat⟩


set_option maxHeartbeats 1600000 in
theorem tsize_any (ts : List Nd) (j : Nat) (s : Tm) (v : Value) (w : World) (hlen : ts.length ≤ 100000) (hs : TmAt ts j s) (hS : Shapes w) (hN : IsNodes w v ts) :
    Calls Tryd.prog 40 #[v, .int .i64 j] w fun e w' => e = .returned (.tuple #[.int .i64 (s.size : Int), .int .i64 0]) ∧ Later w w' := by
  have hle := hs.le
  have hp := s.size_pos
  have HE := Lib.hid (fun W (hl : Later w W) => end_any ts hlen _ j v W (Nat.le_refl _) (by omega) (hS.later hl) (hN.later hl))
  rw [hs.end_] at HE
  have ho : optI (some (j + s.size)) = ((j + s.size : Nat) : Int) := rfl
  rw [ho] at HE
  obtain ⟨p0, c0, rfl⟩ := hN.form
  generalize ts.length = L at *
  generalize s.size = z at *
  obtain ⟨q, hq⟩ : ∃ q, j + z = q := ⟨_, rfl⟩
  rw [hq] at HE hle
  clear hN hS hs ho
  have hzq : (z : Int) = (q : Int) - (j : Int) := by omega
  rw [hzq]
  have HQ := Lib.hid hq
  have hjq : j < q := by omega
  clear hq hzq
  go_enter Tryd.func40, Tryd.ntmps40
  go_wp2_with (go_at_call 57; go_must (refine (HE.out _ (by repeat (first | with_reducible exact Later.refl _ | with_reducible assumption | with_reducible refine Later.ofdrew ?_ | with_reducible refine Later.ofdrewN ?_ | with_reducible refine Later.setCell ?_ ?_ _ | with_reducible refine Later.alloc ?_ _ | with_reducible refine Later.drewN ?_ _ | with_reducible refine Later.drew ?_ | (with_reducible refine Later.trans ?_ (by assumption)) | (simp only [World.size_setCell, World.size_alloc, World.heap_drewN]; omega) | (simp; done) | (simp; omega)))).mono ?_; rintro e w2 ⟨rfl, hb2⟩))
  go_ret2
  exact ⟨rfl, hb2⟩
end Go.Proofs.YtkpadahpepeaoaaDoor
