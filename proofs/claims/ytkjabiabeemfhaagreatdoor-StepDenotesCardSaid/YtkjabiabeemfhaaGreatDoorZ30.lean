/- slices.Compact at waits: the walk -/
import Derived.Test.YtkjabiabeemfhaaGreatDoorZ29
set_option linter.all false
set_option linter.all false
section
namespace Go.Proofs.YtkjabiabeemfhaaGreatDoor
open Go.RowKit
set_option maxRecDepth 100000
def Inner (base : Nat) (w : World) (g o cap : Nat) (L : List Wt) (w' : World) (k m : Nat) : Prop :=
 ∃ M : List Wt, M.length = L.length ∧ B.Que base 3 w' (.slice (some ⟨g, o, none⟩) L.length cap) L.length (M.flatMap wtCs) ∧ k = (cmpL (L.take m)).length ∧ M.take k = cmpL (L.take m) ∧ (∀ i, m ≤ i + 1 → M[i]? = L[i]?) ∧ k < m ∧ S.LatB (fun k => k = g) w w'
theorem Inner.drew {base : Nat} {w : World} {g o cap : Nat} {L : List Wt} {w' : World} {k m : Nat} (h : Inner base w g o cap L w' k m) : Inner base w g o cap L w'.drew k m := by
 obtain ⟨M, m1, m2, m3, m4, m5, m6, m7⟩ := h
 exact ⟨M, m1, m2.later ((Later.refl _).drew), m3, m4, m5, m6, m7.drew⟩
theorem wt_at {base : Nat} {w : World} {g o cap n : Nat} {M : List Wt} (h : B.Que base 3 w (.slice (some ⟨g, o, none⟩) n cap) n (M.flatMap wtCs)) (hM : M.length = n) {i : Nat} (hi : i < n) (x : Wt) (hx : M[i]? = some x) :
  w.cell? ⟨g, o + i * 3, none⟩ = some (.bool x.cho) ∧ w.cell? ⟨g, o + i * 3 + 1, none⟩ = some (.int .i64 x.key) ∧ w.cell? ⟨g, o + i * 3 + 2, none⟩ = some (.int .i64 x.day) := by
 rcases h.2 with ⟨h1, _⟩ | ⟨g', o', cap', h1, h2, h3, h4, h5, h6, h7⟩
 ·cases h1
 ·cases h1
  obtain ⟨hi', rfl⟩ := List.getElem?_eq_some_iff.1 hx
  have key : ∀ j, j < 3 → w.cell? ⟨g, o + i * 3 + j, none⟩ = (wtCs M[i])[j]? := fun j hj => by
   have := h6 (i * 3 + j) (by omega)
   rw [flat_get wtCs wtCs_len M i hi' j hj, ← Nat.add_assoc] at this
   exact this
  exact ⟨key 0 (by decide), key 1 (by decide), key 2 (by decide)⟩
theorem wt_free {base : Nat} {w : World} {g o cap n : Nat} {xs : List Value} (h : B.Que base 3 w (.slice (some ⟨g, o, none⟩) n cap) n xs) {i : Nat} (hi : i < n) :
  w.frozen? ⟨g, o + i * 3, none⟩ = false ∧ w.frozen? ⟨g, o + i * 3 + 1, none⟩ = false ∧ w.frozen? ⟨g, o + i * 3 + 2, none⟩ = false := by
 rcases h.2 with ⟨h1, _⟩ | ⟨g', o', cap', h1, h2, h3, h4, h5, h6, h7⟩
 ·cases h1
 ·cases h1
  have a := (h7 (i * 3) (by omega)).2
  have b := (h7 (i * 3 + 1) (by omega)).2
  have c := (h7 (i * 3 + 2) (by omega)).2
  exact ⟨a, by rw [Nat.add_assoc]; exact b, by rw [Nat.add_assoc]; exact c⟩
set_option maxHeartbeats 8000000 in
theorem compact_any (L : List Wt) (hlen : L.length ≤ 1000000) (base : Nat) (v : Value) (w : World) (hQ : B.Que base 3 w v L.length (L.flatMap wtCs)) :
  Calls Tryz.prog 55 #[v] w fun e w' => ∃ v', e = .returned v' ∧ B.Que base 3 w' v' (cmpL L).length ((cmpL L).flatMap wtCs) ∧ S.LatB (fun k => v.ownBlock = some k) w w' := by
 obtain ⟨N, hN⟩ : ∃ N, L.length = N := ⟨_, rfl⟩
 have HN := Lib.hid hN
 by_cases h2 : L.length < 2
 ·have hc : cmpL L = L := by
   match L, h2 with
   | [], _ => rfl
   | [a], _ => rfl
  obtain ⟨p0, c0, hv⟩ := hQ.form
  have HQ := Lib.hid hQ
  have HC := Lib.hid hc
  have HV := Lib.hid hv
  subst hv
  rw [hN] at h2 ⊢
  have h2I : (N : Int) < 2 := by omega
  clear hQ hc hN
  go_enter Tryz.func55, Tryz.ntmps55
  go_wp2
  go_ret
  exact ⟨_, rfl, by rw [HC.out]; have := HQ.out; rw [HN.out] at this; rw [HN.out]; exact this, S.LatB.refl _⟩
 ·have hQ' := hQ.2
  rw [hN] at hQ h2 hQ' hlen
  rcases hQ' with ⟨_, h0⟩ | ⟨g, o, cap, rfl, hg1, hg2, hcap, hcm, -, -⟩
  ·omega
  have HQ := Lib.hid hQ
  have h2I : ¬ (N : Int) < 2 := by omega
  clear hQ hg1 hg2 hcm
  go_enter Tryz.func55, Tryz.ntmps55
  go_wp2
  go_loopw [3] (fun s3 wr => ∃ k : Nat, 1 ≤ k ∧ k ≤ N ∧ s3 = .int .i64 k ∧ Later w wr ∧ Hid (cmpL (L.take k) = L.take k)) (fun s3 _ => N - (intOf s3).toNat)
  case atStart => exact ⟨1, Nat.le_refl _, by omega, rfl, Later.refl _, Lib.hid (by
   match L, HN.out with
   | [], _ => rfl
   | a :: r, _ => rfl)⟩
  case round =>
   obtain ⟨k, hk1, hk, rfl, hlr, HK⟩ := hrel
   obtain ⟨wa, hwa⟩ : ∃ wa : World, wa = wr := ⟨_, rfl⟩
   subst hwa
   by_cases hlt : k < N
   ·have hltI : (k : Int) < N := by omega
    have hkl : k < L.length := by rw [HN.out]; exact hlt
    have hkm : k - 1 < L.length := by omega
    obtain ⟨a0, a1, a2⟩ := wt_at (HQ.out.later hlr) HN.out hlt L[k] (List.getElem?_eq_getElem hkl)
    obtain ⟨b0, b1, b2⟩ := wt_at (HQ.out.later hlr) HN.out (i := k - 1) (by omega) L[k - 1] (List.getElem?_eq_getElem hkm)
    have HT := Lib.hid (cmpL_take hk1 hkl)
    have HTK : Hid (L.take (k + 1) = L.take k ++ [L[k]]) := Lib.hid (List.take_succ_eq_append_getElem hkl)
    have HAA : Hid (L[k]? = some L[k] ∧ L[k - 1]? = some L[k - 1]) := Lib.hid ⟨List.getElem?_eq_getElem hkl, List.getElem?_eq_getElem hkm⟩
    obtain ⟨x, hx⟩ : ∃ x, L[k] = x := ⟨_, rfl⟩
    obtain ⟨y, hy⟩ : ∃ y, L[k - 1] = y := ⟨_, rfl⟩
    rw [hx, hy] at HT HAA
    rw [hx] at a0 a1 a2 HTK
    rw [hy] at b0 b1 b2
    obtain ⟨x0, x1, x2⟩ := x
    obtain ⟨y0, y1, y2⟩ := y
    simp only at a0 a1 a2 b0 b1 b2
    clear hx hy hkl hkm
    by_cases hxy : (⟨x0, x1, x2⟩ : Wt) = ⟨y0, y1, y2⟩
    ·have HE : ∀ W : World, (binOp .eql 46 (.agg #[.bool x0, .int .i64 x1, .int .i64 x2]) (.agg #[.bool y0, .int .i64 y1, .int .i64 y2])).run Tryz.prog W = .ok (.bool true) W := fun W => by rw [wt_eql, decide_eq_true hxy]
     have HXY := Lib.hid hxy
     clear hxy
     have hsl := fun W => wait_from g o N cap k hlt hcap W
     have hI0 : Hid (Inner base w g o cap L wa k (k + 1)) := Lib.hid ⟨L, rfl, by rw [HN.out]; exact HQ.out.later hlr, by rw [HT.out, if_pos HXY.out.symm, HK.out, List.length_take, HN.out]; omega, by rw [HT.out, if_pos HXY.out.symm, HK.out], fun _ _ => rfl, Nat.lt_succ_self k, S.LatB.of hlr⟩
     clear HT HTK HAA HK
     go_upto_region 6 with (fail)
     refine wp_region_plan 10 (.done [0, 1, 2, 3, 4, 5, 6, 7, 8, 9]) (by kernel_rfl) (by kernel_rfl) (fun _ _ d _ _ h => by cases d <;> exact h) ?_
     repeat' (first
      | (refine plan_done (fun K hK => ?_); (first | (simp only [zq9]; repeat (go_big_quiet_step (fail))) | simp only [pick_nil]); refine wpQuiet_nil (hK _ ?_); clear hK K)
      | ((with_reducible refine at_list ?_); go_wp2_with (fail); first | refine behind_store (t := 10) (by decide) ?_ | refine behind (by with_reducible repeat (first | exact zq1 _ | assumption | refine zq2 ?_ | refine zq5 ?_ _ | refine zq6 ?_ _ | refine zq7 ?_ | refine zq8 ?_ (by assumption))) ?_))
     clear a0 a1 a2 b0 b1 b2 HE
     go_upto_region 9 with (fail)
     clear hsl
     go_loopw [3, 5] (fun s3 s5 wr => ∃ kk q : Nat, 1 ≤ q ∧ k + q ≤ N ∧ s3 = .int .i64 kk ∧ s5 = .int .i64 q ∧ Hid (Inner base w g o cap L wr kk (k + q))) (fun _ s5 _ => N - (intOf s5).toNat)
     case atStart => exact ⟨k, 1, Nat.le_refl _, hlt, rfl, rfl, Lib.hid hI0.out.drew⟩
     case round =>
      obtain ⟨kk, q, hq1, hq, rfl, rfl, HI⟩ := hrel
      obtain ⟨wb, hwb⟩ : ∃ wa : World, wa = wr := ⟨_, rfl⟩
      subst hwb
      clear hI0
      by_cases hqN : k + q < N
      ·have hqI : (q : Int) < ((N - k : Nat) : Int) := by omega
       have hkl : k + q < L.length := by rw [HN.out]; exact hqN
       have hkm : k + q - 1 < L.length := by omega
       have HT := Lib.hid (cmpL_take (l := L) (i := k + q) (by omega) hkl)
       obtain ⟨M, m1, m2, m3, m4, m5, m6, m7⟩ := HI.out
       rw [HN.out] at m1 m2
       obtain ⟨a0, a1, a2⟩ := wt_at m2 m1 hqN L[k + q] (by rw [m5 _ (by omega)]; exact List.getElem?_eq_getElem hkl)
       obtain ⟨b0, b1, b2⟩ := wt_at m2 m1 (i := k + q - 1) (by omega) L[k + q - 1] (by rw [m5 _ (by omega)]; exact List.getElem?_eq_getElem hkm)
       have hkN : kk < N := by omega
       obtain ⟨f0, f1, f2⟩ := wt_free m2 hkN
       obtain ⟨d0, d1, d2⟩ := wt_at m2 m1 hkN M[kk] (List.getElem?_eq_getElem (by omega))
       rw [show o + (k + q) * 3 = o + k * 3 + q * 3 by omega] at a0 a1 a2
       rw [show o + (k + q - 1) * 3 = o + k * 3 + (q - 1) * 3 by omega] at b0 b1 b2
       have HM := Lib.hid (show M.length = N ∧ B.Que base 3 wb (.slice (some ⟨g, o, none⟩) N cap) N (M.flatMap wtCs) ∧ kk = (cmpL (L.take (k + q))).length ∧ M.take kk = cmpL (L.take (k + q)) ∧ (∀ i, k + q ≤ i + 1 → M[i]? = L[i]?) ∧ kk < k + q ∧ S.LatB (fun k => k = g) w wb from ⟨m1, m2, m3, m4, m5, m6, m7⟩)
       obtain ⟨x, hx⟩ : ∃ x, L[k + q] = x := ⟨_, rfl⟩
       obtain ⟨y, hy⟩ : ∃ y, L[k + q - 1] = y := ⟨_, rfl⟩
       obtain ⟨z, hz⟩ : ∃ z, M[kk] = z := ⟨_, rfl⟩
       rw [hx, hy] at HT
       rw [hx] at a0 a1 a2
       rw [hy] at b0 b1 b2
       rw [hz] at d0 d1 d2
       obtain ⟨x0, x1, x2⟩ := x
       obtain ⟨y0, y1, y2⟩ := y
       obtain ⟨z0, z1, z2⟩ := z
       simp only at a0 a1 a2 b0 b1 b2 d0 d1 d2
       have hzb : g < wb.heap.size := World.block_lt_of_cell? _ _ d0
       clear m1 m2 m3 m4 m5 m6 m7 hx hy hz hkm HI
       by_cases hxy : (⟨x0, x1, x2⟩ : Wt) = ⟨y0, y1, y2⟩
       ·have HE : ∀ W : World, (binOp .neq 46 (.agg #[.bool x0, .int .i64 x1, .int .i64 x2]) (.agg #[.bool y0, .int .i64 y1, .int .i64 y2])).run Tryz.prog W = .ok (.bool false) W := fun W => by rw [wt_neq, decide_eq_true hxy]; rfl
        have HR : Hid (Inner base w g o cap L wb kk (k + (q + 1))) := Lib.hid (by
         obtain ⟨m1, m2, m3, m4, m5, m6, m7⟩ := HM.out
         have e : cmpL (L.take (k + (q + 1))) = cmpL (L.take (k + q)) := by rw [← Nat.add_assoc, HT.out, if_pos hxy.symm]
         exact ⟨M, by rw [m1, HN.out], by rw [HN.out]; exact m2, by rw [e]; exact m3, by rw [e]; exact m4, fun i hi => m5 i (by omega), by omega, m7⟩)
        clear hxy HT HM hkl
        go_upto_region 11 with (fail)
        refine wp_region_plan 10 (.done [0, 1, 2, 3, 4, 5, 6, 7, 8, 9]) (by kernel_rfl) (by kernel_rfl) (fun _ _ d _ _ h => by cases d <;> exact h) ?_
        repeat' (first
         | (refine plan_done (fun K hK => ?_); (first | (simp only [zq9]; repeat (go_big_quiet_step (fail))) | simp only [pick_nil]); refine wpQuiet_nil (hK _ ?_); clear hK K)
         | ((with_reducible refine at_list ?_); go_wp2_with (fail); first | refine behind_store (t := 10) (by decide) ?_ | refine behind (by with_reducible repeat (first | exact zq1 _ | assumption | refine zq2 ?_ | refine zq5 ?_ _ | refine zq6 ?_ _ | refine zq7 ?_ | refine zq8 ?_ (by assumption))) ?_))
        go_wp2_with fail
        go_roundw
        case rel => exact ⟨kk, q + 1, by omega, by omega, rfl, by go_num, Lib.hid HR.out.drew⟩
        case measure => simp [intOf]; omega
       ·have HE : ∀ W : World, (binOp .neq 46 (.agg #[.bool x0, .int .i64 x1, .int .i64 x2]) (.agg #[.bool y0, .int .i64 y1, .int .i64 y2])).run Tryz.prog W = .ok (.bool true) W := fun W => by rw [wt_neq, decide_eq_false hxy]; rfl
        have HR : Hid (Inner base w g o cap L (wb.setCells g (o + kk * 3) (wtCs ⟨x0, x1, x2⟩)) (kk + 1) (k + (q + 1))) := Lib.hid (by
         obtain ⟨m1, m2, m3, m4, m5, m6, m7⟩ := HM.out
         have e : cmpL (L.take (k + (q + 1))) = cmpL (L.take (k + q)) ++ [⟨x0, x1, x2⟩] := by rw [← Nat.add_assoc, HT.out, if_neg (fun e => hxy e.symm)]
         refine ⟨M.set kk ⟨x0, x1, x2⟩, by rw [List.length_set, m1, HN.out], by rw [HN.out]; exact B.Que.put wtCs_len m2 m1 hkN _, by rw [e, List.length_append, ← m3]; rfl, ?_, fun i hi => by rw [List.getElem?_set_ne (by omega)]; exact m5 i (by omega), by omega, B.lat_setCells m7 rfl _⟩
         rw [e, ← m4, List.take_succ_eq_append_getElem (by rw [List.length_set, m1]; exact hkN), List.getElem_set_self, List.take_set_of_le (Nat.le_refl _)])
        clear hxy HT HM hkl
        go_upto_region 11 with (fail)
        refine wp_region_plan 10 (.done [0, 1, 2, 3, 4, 5, 6, 7, 8, 9]) (by kernel_rfl) (by kernel_rfl) (fun _ _ d _ _ h => by cases d <;> exact h) ?_
        repeat' (first
         | (refine plan_done (fun K hK => ?_); (first | (simp only [zq9]; repeat (go_big_quiet_step (fail))) | simp only [pick_nil]); refine wpQuiet_nil (hK _ ?_); clear hK K)
         | ((with_reducible refine at_list ?_); go_wp2_with (fail); first | refine behind_store (t := 10) (by decide) ?_ | refine behind (by with_reducible repeat (first | exact zq1 _ | assumption | refine zq2 ?_ | refine zq5 ?_ _ | refine zq6 ?_ _ | refine zq7 ?_ | refine zq8 ?_ (by assumption))) ?_))
        go_wp2_with fail
        go_roundw
        case rel => exact ⟨kk + 1, q + 1, by omega, by omega, by go_num, by go_num, Lib.hid HR.out.drew⟩
        case measure => simp [intOf]; omega
      ·obtain rfl : q = N - k := by omega
       have hqI : ¬ (((N - k : Nat) : Int) < ((N - k : Nat) : Int)) := by omega
       obtain ⟨M, m1, m2, m3, m4, m5, m6, m7⟩ := HI.out
       rw [HN.out] at m1 m2
       rw [show k + (N - k) = N by omega] at m3 m4 m6
       have hkN : kk < N := by omega
       have htk : L.take N = L := List.take_of_length_le (by rw [HN.out]; exact Nat.le_refl _)
       rw [htk] at m3 m4
       obtain ⟨hs1, hs2⟩ : (∀ j, j < (N - kk) * 3 → (wb.cell? ⟨g, o + kk * 3 + j, none⟩).isSome = true) ∧ (∀ j, j < (N - kk) * 3 → wb.frozen? ⟨g, o + kk * 3 + j, none⟩ = false) := by
        rcases m2.2 with ⟨h1, _⟩ | ⟨g', o', cap', h1, h2, h3, h4, h5, h6, h7⟩
        ·cases h1
        ·cases h1
         refine ⟨fun j hj => ?_, fun j hj => ?_⟩
         ·have := (h7 (kk * 3 + j) (by omega)).1
          rwa [← Nat.add_assoc] at this
         ·have := (h7 (kk * 3 + j) (by omega)).2
          rwa [← Nat.add_assoc] at this
       have hsl := fun W => wait_from g o N cap kk hkN hcap W
       obtain ⟨vs, hvl, hcl⟩ := clear_wait wb 34 g (o + kk * 3) (N - kk) (cap - kk) (by omega) hs1 hs2
       have hcl' : ∀ ty, (Builtin.clear_ #[34] ty #[.slice (some ⟨g, o + kk * 3, none⟩) (N - kk) (cap - kk)]).run Tryz.prog wb = .ok (.tuple #[]) (wb.setCells g (o + kk * 3) vs) := fun ty => hcl
       have hup := fun W => wait_upto g o N cap kk (by omega) W
       have HFIN : Hid (B.Que base 3 (wb.setCells g (o + kk * 3) vs) (.slice (some ⟨g, o, none⟩) kk cap) (cmpL L).length ((cmpL L).flatMap wtCs) ∧ S.LatB (fun k => (Value.slice (some ⟨g, o, none⟩) N cap).ownBlock = some k) w (wb.setCells g (o + kk * 3) vs)) := Lib.hid (by
        have hu := B.Que.upto m2 (k := kk) (by omega) vs hvl
        have e : (M.flatMap wtCs).take (kk * 3) = (cmpL L).flatMap wtCs := by
         rw [← m4]
         have h3 := congrArg (·.flatMap wtCs) (List.take_append_drop kk M)
         simp only [List.flatMap_append] at h3
         rw [← h3, List.take_left']
         rw [flat_len (sz := 3) wtCs wtCs_len, List.length_take, m1]
         congr 1; omega
        rw [e] at hu
        refine ⟨by rw [← m3]; exact hu, (B.lat_setCells m7 rfl vs).mono (fun i hi => by rw [hi]; rfl)⟩)
       clear m1 m2 m3 m4 m5 m6 m7 hs1 hs2 hvl hcl HI htk
       go_wp2_with fail
       go_ret
       exact ⟨_, rfl, HFIN.out.1, HFIN.out.2⟩
    ·have HE : ∀ W : World, (binOp .eql 46 (.agg #[.bool x0, .int .i64 x1, .int .i64 x2]) (.agg #[.bool y0, .int .i64 y1, .int .i64 y2])).run Tryz.prog W = .ok (.bool false) W := fun W => by rw [wt_eql, decide_eq_false hxy]
     have HR : Hid (cmpL (L.take (k + 1)) = L.take (k + 1)) := Lib.hid (by rw [HT.out, if_neg (fun e => hxy e.symm), HK.out, HTK.out])
     clear hxy HT HTK HAA HK
     go_upto_region 6 with (fail)
     refine wp_region_plan 10 (.done [0, 1, 2, 3, 4, 5, 6, 7, 8, 9]) (by kernel_rfl) (by kernel_rfl) (fun _ _ d _ _ h => by cases d <;> exact h) ?_
     repeat' (first
      | (refine plan_done (fun K hK => ?_); (first | (simp only [zq9]; repeat (go_big_quiet_step (fail))) | simp only [pick_nil]); refine wpQuiet_nil (hK _ ?_); clear hK K)
      | ((with_reducible refine at_list ?_); go_wp2_with (fail); first | refine behind_store (t := 10) (by decide) ?_ | refine behind (by with_reducible repeat (first | exact zq1 _ | assumption | refine zq2 ?_ | refine zq5 ?_ _ | refine zq6 ?_ _ | refine zq7 ?_ | refine zq8 ?_ (by assumption))) ?_))
     go_wp2_with fail
     go_roundw
     case rel => exact ⟨k + 1, by omega, by omega, by go_num, by repeat (first | with_reducible (first | exact zq1 _ | assumption | refine zq2 ?_ | refine zq4 ?_ ?_ _ | refine zq5 ?_ _ | refine zq6 ?_ _ | refine zq7 ?_ | refine zq8 ?_ (by assumption)) | (simp only [zq10]; omega) | (simp; done) | (simp; omega)), HR⟩
     case measure => simp [intOf]; omega
   ·have hge : ¬ ((k : Int) < N) := by omega
    obtain rfl : k = N := by omega
    have HC : Hid (cmpL L = L) := Lib.hid (by have := HK.out; rwa [List.take_of_length_le (by rw [HN.out]; exact Nat.le_refl _)] at this)
    go_wp2_with fail
    go_ret
    exact ⟨_, rfl, by rw [HC.out, HN.out]; exact HQ.out.later hlr, S.LatB.of hlr⟩
end Go.Proofs.YtkjabiabeemfhaaGreatDoor
end
