/- walks: chattelref01: Mul -/
import Derived.Test.YtckeaibamgkegaaDoorRefG
import Derived.Test.YtckeaibamgkegaaDoorOps
set_option linter.all false
namespace Go.Proofs.YtckeaibamgkegaaDoor
open Go.RowKit
set_option maxRecDepth 100000

theorem bit_shift (a k i : Nat) : bit (a * 2 ^ k) i = if i < k then 0 else bit a (i - k) := by
  unfold bit
  have hp : 0 < 2 ^ k := Nat.pow_pos (by omega)
  split
  · rename_i h
    obtain ⟨d, rfl⟩ : ∃ d, k = i + (d + 1) := ⟨k - i - 1, by omega⟩
    rw [Nat.pow_add, Nat.mul_left_comm, Nat.mul_div_cancel_left _ (Nat.pow_pos (by omega)), Nat.pow_succ, ← Nat.mul_assoc, Nat.mul_mod_left]
    rfl
  · rename_i h
    obtain ⟨d, rfl⟩ : ∃ d, i = k + d := ⟨i - k, by omega⟩
    rw [Nat.pow_add, ← Nat.div_div_eq_div_mul, Nat.mul_div_cancel _ hp]
    simp
theorem bitsV_shift (a k L : Nat) : bitsV (a * 2 ^ k) (k + L) = List.replicate k (.int .i64 0) ++ bitsV a L := by
  apply List.ext_getElem?
  intro i
  by_cases h : i < k + L
  · rw [bitsV_get h, bit_shift]
    by_cases h2 : i < k
    · rw [if_pos h2, List.getElem?_append_left (by simpa using h2)]; simp [h2]
    · rw [if_neg h2, List.getElem?_append_right (by simp; omega), List.length_replicate, bitsV_get (by omega)]
  · rw [List.getElem?_eq_none (by rw [bitsV_len]; omega), List.getElem?_eq_none (by simp [bitsV_len]; omega)]
theorem mul_bit (a b k : Nat) : a * (b % 2 ^ (k + 1)) = a * (b % 2 ^ k) + a * 2 ^ k * (b / 2 ^ k % 2) := by
  rw [mod_step, Nat.mul_add, Nat.mul_assoc]


theorem made_zero (k : Nat) : (madeCells #[.int .i64 0] k).toList = List.replicate k (.int .i64 0) := by
  apply List.ext_getElem?
  intro i
  by_cases h : i < k
  · simp [madeCells, h, Nat.mod_one]
  · simp [madeCells, h]

theorem slInt : SliceOf Tryd.prog 58 3 1 8 := sliceOf_mk (z := .int .i64 0) Tryd.underlying58 intInfo rfl (by decide)
theorem zeroInt {z : Value} (h : ∃ i, Tryd.prog.info? 3 = some i ∧ i.zero = some z) : z = .int .i64 0 := by
  obtain ⟨i, h1, h2⟩ := h
  obtain ⟨i0, hi, hz0, _⟩ := info_parts intInfo
  rw [hi] at h1; cases h1; rw [hz0] at h2; cases h2; rfl
theorem cells_bits {w : World} {b L n : Nat} (hc : ∀ i, i < L → w.cell? ⟨b, i, none⟩ = some (.int .i64 (bit n i))) : CellsAt w b 0 (bitsV n L) := by
  intro j hj
  rw [bitsV_len] at hj
  rw [Nat.zero_add, hc j hj, bitsV_get hj]
theorem bits_one {n L : Nat} : ∀ u ∈ bitsV n L, u.oneCell' = true := by
  intro u hu
  simp only [bitsV, List.mem_map] at hu
  obtain ⟨i, _, rfl⟩ := hu; rfl
theorem Mine.zeros {w0 w : World} {v : Value} {k : Nat} (h : Mine w0 3 1 w v k (madeCells (Value.int .i64 0).cells (k * 1)).toList) : Mine w0 3 1 w v k (List.replicate k (.int .i64 0)) := by
  rw [Nat.mul_one] at h
  rw [← made_zero]; exact h
theorem Mine.row {w0 w : World} {v : Value} {n L : Nat} (h : Mine w0 3 1 w v L (bitsV n L)) (hn : n < 2 ^ L) : Row w v n L := Row.of_own h.1 hn
theorem Mine.shift {w0 w : World} {v : Value} {a k L : Nat} (h : Mine w0 3 1 w v (k + L) (List.replicate k (.int .i64 0) ++ bitsV a L)) (hn : a < 2 ^ L) : Row w v (a * 2 ^ k) (k + L) := by
  rw [← bitsV_shift] at h
  refine h.row ?_
  rw [Nat.pow_add, Nat.mul_comm]
  exact Nat.mul_lt_mul_of_pos_left hn (Nat.pow_pos (by omega))

set_option maxHeartbeats 1600000 in
theorem rmul_big (x y : Value) (s t : Bool) (a b : Nat) (w : World) (h : IsBig w x s a) (g : IsBig w y t b) (hL : nlen a ≤ 40000) (hM : nlen b ≤ 40000) :
    Calls Tryd.prog 75 #[x, y] w fun e w' => ∃ r, e = .returned r ∧ IsBig w' r (xor s t && decide (0 < a * b)) (a * b) ∧ Later w w' := by
  obtain ⟨v, rfl, hv⟩ := h
  obtain ⟨u, rfl, hu⟩ := g
  have hla := lt_nlen a
  unfold Num at hv
  obtain ⟨la, hl⟩ : ∃ la, nlen a = la := ⟨_, rfl⟩
  rw [hl] at hv hla hL
  clear hl
  obtain ⟨p, cp, rfl⟩ := Row.form hv
  obtain ⟨q, cq, rfl⟩ := Row.form hu
  go_enter Tryd.func75, Tryd.ntmps75
  go_wp2
  refine wp_opaque (fun w0 hb0 => ?_)
  have hO := Own.three hb0
  have hw0 : Later w w0 := hb0.un1.un1.un1
  have hv2 : Row w0 _ a la := hv.later hw0
  have hu2 : Num w0 _ b := hu.later hw0
  clear hb0 hv hu
  go_loopw [5, 6] (fun s5 s6 wr => ∃ k K : Nat, k ≤ nlen b ∧ s6 = .int .i64 k ∧ Row wr s5 (a * (b % 2 ^ k)) K ∧ K ≤ la + k ∧ Later w0 wr) (fun _ s6 _ => nlen b - (intOf s6).toNat)
  case atStart => exact ⟨0, 0, by omega, rfl, ⟨by simp [Nat.mod_one], .inl ⟨rfl, rfl⟩⟩, by omega, Later.refl _⟩
  case round =>
    obtain ⟨k, K, hk, rfl, hrow, hK, hlat⟩ := hrel
    obtain ⟨po, co, rfl⟩ := Row.form hrow
    obtain ⟨⟨z0, c0, -⟩, ⟨z1, c1, -⟩, ⟨z2, c2, f2⟩, -⟩ := hO.later hlat
    have hv3 := hv2.later hlat
    have hu3 := hu2.later hlat
    by_cases hkM : k < nlen b
    · obtain ⟨bb, cc, hvv, hb, hcap, hcells⟩ := Row.full hu3 (by omega)
      cases hvv
      have hcell := hcells k hkM
      clear hcells
      have hmb := mul_bit a b k
      have hbd : bit b k = ((b / 2 ^ k % 2 : Nat) : Int) := rfl
      rcases bit_cases b k with hb0' | hb0'
      · rw [hb0'] at hcell
        have hnx : a * (b % 2 ^ (k + 1)) = a * (b % 2 ^ k) := by rw [hmb, show b / 2 ^ k % 2 = 0 by omega]; simp
        have R := Lib.hid hrow
        have HN := Lib.hid hnx
        clear hmb hbd hb0' hrow hnx
        go_wp2
        go_roundw
        case rel => exact ⟨k + 1, K, by omega, by go_num, by rw [HN.out]; exact R.out, by omega, hlat⟩
        case measure => simp [intOf]; omega
      · rw [hb0'] at hcell
        have hnx : a * (b % 2 ^ (k + 1)) = a * (b % 2 ^ k) + a * 2 ^ k := by rw [hmb, show b / 2 ^ k % 2 = 1 by omega]; simp
        have R := Lib.hid hrow
        have HN := Lib.hid hnx
        have HLA := Lib.hid hla
        clear hmb hbd hb0' hrow hnx
        rcases hv3.2 with ⟨hn, rfl⟩ | ⟨ba, capa, hn, hba, _, hca⟩
        · cases hn
          clear hv3 hu3
          go_wp2_with (first
            | (at_make; go_must (refine wpList_mk slInt hlat rfl _ _ rfl k rfl rfl (by omega) (by unfold maxLen; omega) ?_; intro w1 z hz hm hl1; cases zeroInt hz; clear c0 c1 c2 f2 z0 z1 z2 hz hcell; replace hm := Mine.zeros hm; obtain ⟨⟨z0, c0, -⟩, ⟨z1, c1, -⟩, ⟨z2, c2, f2⟩, -⟩ := hO.later hm.lat; replace R := Lib.hid (R.out.later hl1)))
            | (at_builtin; go_must (refine wpList_app_none slInt hm rfl _ _ rfl rfl rfl ?_; have hF := Mine.shift (L := 0) (by rw [bitsV_zero, List.append_nil]; exact hm) HLA.out; simp only [Nat.add_zero] at hF))
            | (go_at_call 104; go_must (refine (rplus_any _ _ _ _ _ _ _ R.out hF (by omega) (by omega)).mono ?_; rintro e w3 ⟨r, K', rfl, hr, hK1, -, hb3⟩; obtain ⟨pr, cr, rfl⟩ := Row.form hr; clear c0 c1 c2 f2 z0 z1 z2)))
          have hr2 := Lib.hid hr
          have hl3 := hm.lat.trans hb3
          clear hr hm
          go_roundw
          case rel => exact ⟨k + 1, _, by omega, by go_num, by rw [HN.out]; exact hr2.out, by omega, hl3⟩
          case measure => simp [intOf]; omega
        · cases hn
          have hca' := Lib.hid (cells_bits hca)
          clear hca hv3 hu3
          go_wp2_with (first
            | (at_make; go_must (refine wpList_mk slInt hlat rfl _ _ rfl k rfl rfl (by omega) (by unfold maxLen; omega) ?_; intro w1 z hz hm hl1; cases zeroInt hz; clear c0 c1 c2 f2 z0 z1 z2 hz hcell; replace hm := Mine.zeros hm; obtain ⟨⟨z0, c0, -⟩, ⟨z1, c1, -⟩, ⟨z2, c2, f2⟩, -⟩ := hO.later hm.lat; replace hca' := Lib.hid (hca'.out.later hl1 hba)))
            | (at_builtin; go_must (refine wpList_app slInt hm rfl _ _ rfl rfl ba 0 la cp (bitsV a la) rfl (by simp [bitsV_len]) hca'.out bits_one (by omega) (by unfold maxLen; omega) ?_; intro v2 w2 hm2 hg2; have hF := Mine.shift hm2 HLA.out; replace R := Lib.hid (R.out.later (Later.grown hl1 hg2 (by intro k hk; cases hk; exact Nat.le_refl _)))))
            | (go_at_call 104; go_must (refine (rplus_any _ _ _ _ _ _ _ R.out hF (by omega) (by omega)).mono ?_; rintro e w3 ⟨r, K', rfl, hr, hK1, -, hb3⟩; obtain ⟨pr, cr, rfl⟩ := Row.form hr; clear c0 c1 c2 f2 z0 z1 z2)))
          have hr2 := Lib.hid hr
          have hl3 := hm2.lat.trans hb3
          clear hr hm hm2 hF hg2
          go_roundw
          case rel => exact ⟨k + 1, _, by omega, by go_num, by rw [HN.out]; exact hr2.out, by omega, hl3⟩
          case measure => simp [intOf]; omega
    · obtain rfl : k = nlen b := by omega
      rw [Nat.mod_eq_of_lt (lt_nlen b)] at hrow
      have hpos : 0 < nlen (a * b) ↔ 0 < a * b := nlen_pos
      have key : ∀ r : Bool, r = (xor s t && decide (0 < nlen (a * b))) → r = (xor s t && decide (0 < a * b)) := by intro r hr; rw [hr]; simp only [hpos]
      have HK := Lib.hid key
      have hlw := hw0.trans hlat
      clear key hpos hkM hk hla
      by_cases hpos : 0 < nlen (a * b)
      all_goals
        cases s <;> cases t
        all_goals
          go_wp2_with (go_at_call 86; go_must (refine (trim_any _ _ _ _ hrow (by omega)).mono ?_; rintro e w3 ⟨u, rfl, hu4, rfl⟩; obtain ⟨pu, cu, rfl⟩ := Row.form hu4))
          first
            | (obtain ⟨e0, e1, hI⟩ := big_end (s := false) c2 hu4
               exact bodyPost_ret (v := .agg #[.bool false, .slice pu (nlen (a * b)) cu]) (by simp [results, Tryd.results75, go_sem, e0, e1]) rfl ⟨_, rfl, by rw [← HK.out false (by simp [hpos])]; exact hI, by repeat (first | with_reducible exact Later.refl _ | with_reducible assumption | with_reducible refine Later.ofdrew ?_ | with_reducible refine Later.ofdrewN ?_ | with_reducible refine Later.setCell ?_ ?_ _ | with_reducible refine Later.alloc ?_ _ | with_reducible refine Later.drewN ?_ _ | with_reducible refine Later.drew ?_ | (with_reducible refine Later.trans ?_ (by assumption)) | (simp only [World.size_setCell, World.size_alloc, World.heap_drewN]; omega) | (simp; done) | (simp; omega))⟩)
            | (obtain ⟨e0, e1, hI⟩ := big_end (s := true) c2 hu4
               exact bodyPost_ret (v := .agg #[.bool true, .slice pu (nlen (a * b)) cu]) (by simp [results, Tryd.results75, go_sem, e0, e1]) rfl ⟨_, rfl, by rw [← HK.out true (by simp [hpos])]; exact hI, by repeat (first | with_reducible exact Later.refl _ | with_reducible assumption | with_reducible refine Later.ofdrew ?_ | with_reducible refine Later.ofdrewN ?_ | with_reducible refine Later.setCell ?_ ?_ _ | with_reducible refine Later.alloc ?_ _ | with_reducible refine Later.drewN ?_ _ | with_reducible refine Later.drew ?_ | (with_reducible refine Later.trans ?_ (by assumption)) | (simp only [World.size_setCell, World.size_alloc, World.heap_drewN]; omega) | (simp; done) | (simp; omega))⟩)
theorem rmul_any (x y : Value) (i j : Int) (w : World) (h : IsZ w x i) (g : IsZ w y j) (hL : nlen i.natAbs ≤ 40000) (hM : nlen j.natAbs ≤ 40000) :
    Calls Tryd.prog 75 #[x, y] w fun e w' => ∃ r, e = .returned r ∧ IsZ w' r (i * j) ∧ Later w w' := by
  refine (rmul_big x y _ _ _ _ w h g hL hM).mono fun e w' ⟨r, h1, h2, h3⟩ => ⟨r, h1, ?_, h3⟩
  unfold IsZ
  rw [Int.natAbs_mul]
  have : decide (i * j < 0) = (xor (decide (i < 0)) (decide (j < 0)) && decide (0 < i.natAbs * j.natAbs)) := by
    rcases Int.lt_trichotomy i 0 with hi | rfl | hi <;> rcases Int.lt_trichotomy j 0 with hj | rfl | hj
    all_goals first
      | (simp; done)
      | (have h1 : 0 < i.natAbs * j.natAbs := Nat.mul_pos (by omega) (by omega)
         have h2 : i * j < 0 ↔ ((i < 0) ≠ (j < 0)) := by
           first
             | (have := Int.mul_pos_of_neg_of_neg hi hj; simp [hi, hj]; omega)
             | (have := Int.mul_neg_of_neg_of_pos hi hj; simp [hi]; omega)
             | (have := Int.mul_neg_of_pos_of_neg hi hj; simp [hj]; omega)
             | (have := Int.mul_pos hi hj; simp; omega)
         have e1 : decide (i < 0) = decide (i < 0) := rfl
         simp only [h1, decide_true, Bool.and_true, h2]
         by_cases a : i < 0 <;> by_cases b : j < 0 <;> simp [a, b])
  rw [this]; exact h2
end Go.Proofs.YtckeaibamgkegaaDoor
