/- math/bits.Div64: the quotient and the rest of two words through one; no condition but that the quotient fits. -/
import Derived.Test.YtckeaibamgkegaaDoorShelf
import Derived.Test.YtckeaibamgkegaaDoorRows
import Derived.Test.YtckeaibamgkegaaDoorDivMath
import Derived.WalkKit
import Derived.WalkSpells
import Derived.WalkSmall
import Derived.WalkLawsBesides
import Derived.BigQuiet
import Derived.Deep.RegionHeld3
import Derived.Deep.DeepCutAuto
import Derived.Deep.CutBlock
import Derived.Lib.Hide
set_option linter.all false
namespace Go.Proofs.YtckeaibamgkegaaDoor
open Go.RowKit
set_option maxRecDepth 100000


theorem wrap_u64 (n : Int) : IntKind.u64.wrap n = n % 18446744073709551616 := by simp [IntKind.wrap, IntKind.bits, IntKind.signed]

theorem wrap_three (A B C : Int) (h0 : 0 ≤ A + B - C) (h1 : A + B - C ≤ 18446744073709551615) : IntKind.u64.wrap (IntKind.u64.wrap (IntKind.u64.wrap A + B) - IntKind.u64.wrap C) = A + B - C := by
  simp only [wrap_u64]; omega

theorem wrap_two (A C : Int) (h0 : 0 ≤ A - C) (h1 : A - C ≤ 18446744073709551615) : IntKind.u64.wrap (A - IntKind.u64.wrap C) = A - C := by
  simp only [wrap_u64]; omega

set_option maxHeartbeats 1000000 in
theorem div64_core (hi lo y : Int) (w : World) (h1 : 0 ≤ hi) (h2 : hi < y) (h3 : 0 ≤ lo) (h4 : lo ≤ 18446744073709551615) (h5 : y ≤ 18446744073709551615) (hz : ¬ hi = 0)
    (k : Nat) (Y a b u v v1 v0 : Int) (hk : (k : Int) ≤ 63) (HS : Hid (64 - (Lib.bitLen y.toNat : Int) = k)) (eY : IntKind.u64.wrap (y * 2 ^ k) = Y)
    (ea : Y / 4294967296 = a) (eb : bits BinOp.and IntKind.u64 Y 4294967295 = b) (a1 : 2147483648 ≤ a) (a2 : a ≤ 4294967295) (b1 : 0 ≤ b) (b2 : b ≤ 4294967295) (HY : Hid (Y = a * 4294967296 + b)) (Y1 : 0 ≤ Y) (Y2 : Y ≤ 18446744073709551615)
    (eu : bits BinOp.or IntKind.u64 (IntKind.u64.wrap (hi * 2 ^ k)) (lo / 2 ^ (64 - k)) = u) (u1 : 0 ≤ u) (u2 : u < a * 4294967296 + b) (u3 : u ≤ 18446744073709551615)
    (ev : IntKind.u64.wrap (lo * 2 ^ k) = v) (ev1 : v / 4294967296 = v1) (ev0 : bits BinOp.and IntKind.u64 v 4294967295 = v0) (v10 : 0 ≤ v1) (v11 : v1 ≤ 4294967295) (v00 : 0 ≤ v0) (v01 : v0 ≤ 4294967295) (v2 : 0 ≤ v) (v3 : v ≤ 18446744073709551615) :
    Calls Tryd.prog 107 #[.int .u64 hi, .int .u64 lo, .int .u64 y] w fun e w' => e = .returned (.tuple #[.int .u64 ((u * 18446744073709551616 + (v1 * 4294967296 + v0)) / Y), .int .u64 ((u * 18446744073709551616 + (v1 * 4294967296 + v0)) % Y / 2 ^ k)]) ∧ w = w' := by
    have hy : 0 < y := by omega
    have I := DInv.start a1 a2 b1 b2 u1 u2 v10 v11
    have er : IntKind.u64.wrap (u - IntKind.u64.wrap (u / a * a)) = u - u / a * a := wrap_two _ _ (by have := I.r0; omega) (by have := Int.mul_nonneg I.q0 (show 0 ≤ a by omega); omega)
    have r2 : u - u / a * a < 4294967296 := by
      have h1 := Int.emod_add_mul_ediv u a
      have h3 := Int.emod_lt_of_pos u (show 0 < a by omega)
      have h4 : u / a * a = a * (u / a) := Int.mul_comm _ _
      omega
    have r1 := I.r0
    have q1 := I.q0
    generalize hqq : u / a = q at *
    generalize hrr : u - q * a = r at *
    clear hrr
    have I' : DInv a b u v1 (u / a) r := by rw [hqq]; exact I
    have HI := Lib.hid I'
    clear I'
    go_enter Tryd.func107, Tryd.ntmps107
    go_upto_block 0 with (go_at_call 125; refine (Tryd.bits_LeadingZeros64 _ _ (by omega) (by omega)).mono ?_; rw [HS.out]; rintro e w' ⟨rfl, rfl⟩)
    clear eY ea eb eu ev ev1 ev0 er hqq
    go_cut [15, 16] (fun s15 s16 wx => ∃ q1 r1 : Int, s15 = .int .u64 q1 ∧ s16 = .int .u64 r1 ∧ DEnd a b u v1 q1 ∧ wx = w')
    case first =>
      go_wp2_with fail
      go_loop [15, 16] (fun s15 s16 => ∃ q r : Int, s15 = .int .u64 q ∧ s16 = .int .u64 r ∧ r < 4294967296 ∧ DInv a b u v1 q r) (fun s15 _ => (intOf s15).toNat)
      case atStart => exact ⟨_, _, rfl, rfl, r2, HI.out⟩
      case round =>
        obtain ⟨q, r, rfl, rfl, hr, J⟩ := hrel
        have j0 := J.q0
        have j1 := J.r0
        have j2 := J.qb
        by_cases hq : 4294967296 ≤ q
        · have N := J.next a1 a2 b1 b2 u2 v10 v11 (.inl hq)
          have n1 := N.1
          by_cases hr2 : 4294967296 ≤ r + a
          · go_wp2
            go_meet
            exact ⟨_, _, rfl, rfl, N.2.leave a1 b1 b2 u2 v10 v11 (by have := J.qb; omega) hr2, rfl⟩
          · go_wp2
            go_round
            case rel => exact ⟨_, _, rfl, rfl, by omega, N.2⟩
            case measure => simp [intOf]; omega
        · have hsm := J.small b1 b2 (by omega)
          obtain ⟨s0, s1⟩ := hsm
          by_cases hc : 4294967296 * r + v1 < q * b
          · have N := J.next a1 a2 b1 b2 u2 v10 v11 (.inr hc)
            have n1 := N.1
            by_cases hr2 : 4294967296 ≤ r + a
            · go_wp2
              go_meet
              exact ⟨_, _, rfl, rfl, N.2.leave a1 b1 b2 u2 v10 v11 (by have := J.qb; omega) hr2, rfl⟩
            · go_wp2
              go_round
              case rel => exact ⟨_, _, rfl, rfl, by omega, N.2⟩
              case measure => simp [intOf]; omega
          · go_wp2
            go_meet
            exact ⟨_, _, rfl, rfl, J.stop (by omega) (by omega), rfl⟩
    case rest =>
      obtain ⟨q1, r1, rfl, rfl, E, rfl⟩ := hcut
      clear HI I r2
      have y1 : q1 * Y = q1 * a * 4294967296 + q1 * b := by rw [HY.out, Int.mul_add, Int.mul_assoc]
      have w0 : 0 ≤ u * 4294967296 + v1 - q1 * Y := by have := E.lo; omega
      have w1 : u * 4294967296 + v1 - q1 * Y < a * 4294967296 + b := by have := E.up; omega
      have eun : IntKind.u64.wrap (IntKind.u64.wrap (IntKind.u64.wrap (u * 4294967296) + v1) - IntKind.u64.wrap (q1 * Y)) = u * 4294967296 + v1 - q1 * Y := wrap_three _ _ _ w0 (by have := HY.out; omega)
      have T := fun (q0 : Int) (h0 : DEnd a b (u * 4294967296 + v1 - q1 * Y) v0 q0) => two_digits (q0 := q0) HY.out E h0 (by have := HY.out; omega)
      clear y1
      generalize huu : u * 4294967296 + v1 - q1 * Y = u' at *
      have HU := Lib.hid huu
      clear huu
      have u2' := w1
      have I := DInv.start a1 a2 b1 b2 w0 w1 v00 v01
      have er : IntKind.u64.wrap (u' - IntKind.u64.wrap (u' / a * a)) = u' - u' / a * a := wrap_two _ _ (by have := I.r0; omega) (by have := Int.mul_nonneg I.q0 (show 0 ≤ a by omega); omega)
      have r2' : u' - u' / a * a < 4294967296 := by
        have h1 := Int.emod_add_mul_ediv u' a
        have h3 := Int.emod_lt_of_pos u' (show 0 < a by omega)
        have h4 : u' / a * a = a * (u' / a) := Int.mul_comm _ _
        omega
      have r1' := I.r0
      have q1' := I.q0
      generalize hqq : u' / a = q' at *
      generalize hrr : u' - q' * a = r' at *
      clear hrr
      have I' : DInv a b u' v0 (u' / a) r' := by rw [hqq]; exact I
      have HI2 := Lib.hid I'
      clear I'
      go_upto_block 2 with fail
      clear er eun hqq
      go_cut [18, 16] (fun s18 s16 wx => ∃ q0 r1 : Int, s18 = .int .u64 q0 ∧ s16 = .int .u64 r1 ∧ DEnd a b u' v0 q0 ∧ wx = wc)
      case first =>
        go_wp2_with fail
        go_loop [18, 16] (fun s18 s16 => ∃ q r : Int, s18 = .int .u64 q ∧ s16 = .int .u64 r ∧ r < 4294967296 ∧ DInv a b u' v0 q r) (fun s18 _ => (intOf s18).toNat)
        case atStart => exact ⟨_, _, rfl, rfl, r2', HI2.out⟩
        case round =>
          obtain ⟨q, r, rfl, rfl, hr, J⟩ := hrel
          have j0 := J.q0
          have j1 := J.r0
          have j2 := J.qb
          by_cases hq : 4294967296 ≤ q
          · have N := J.next a1 a2 b1 b2 u2' v00 v01 (.inl hq)
            have n1 := N.1
            by_cases hr2 : 4294967296 ≤ r + a
            · go_wp2
              go_meet
              exact ⟨_, _, rfl, rfl, N.2.leave a1 b1 b2 u2' v00 v01 (by have := J.qb; omega) hr2, rfl⟩
            · go_wp2
              go_round
              case rel => exact ⟨_, _, rfl, rfl, by omega, N.2⟩
              case measure => simp [intOf]; omega
          · have hsm := J.small b1 b2 (by omega)
            obtain ⟨s0, s1⟩ := hsm
            by_cases hc : 4294967296 * r + v0 < q * b
            · have N := J.next a1 a2 b1 b2 u2' v00 v01 (.inr hc)
              have n1 := N.1
              by_cases hr2 : 4294967296 ≤ r + a
              · go_wp2
                go_meet
                exact ⟨_, _, rfl, rfl, N.2.leave a1 b1 b2 u2' v00 v01 (by have := J.qb; omega) hr2, rfl⟩
              · go_wp2
                go_round
                case rel => exact ⟨_, _, rfl, rfl, by omega, N.2⟩
                case measure => simp [intOf]; omega
            · go_wp2
              go_meet
              exact ⟨_, _, rfl, rfl, J.stop (by omega) (by omega), rfl⟩
      case rest =>
        obtain ⟨q0, r0, rfl, rfl, F, rfl⟩ := hcut
        obtain ⟨t1, t2⟩ := T q0 F
        have g1 : IntKind.u64.wrap (IntKind.u64.wrap (q1 * 4294967296) + q0) = q1 * 4294967296 + q0 := by
          have := E.q0; have := E.qb; have := F.q0; have := F.qb
          simp only [wrap_u64]; omega
        have y2 : q0 * Y = q0 * a * 4294967296 + q0 * b := by rw [HY.out, Int.mul_add, Int.mul_assoc]
        have w2 : 0 ≤ u' * 4294967296 + v0 - q0 * Y := by have := F.lo; omega
        have w3 : u' * 4294967296 + v0 - q0 * Y ≤ 18446744073709551615 := by have := F.up; have := HY.out; omega
        have g2 : IntKind.u64.wrap (IntKind.u64.wrap (IntKind.u64.wrap (u' * 4294967296) + v0) - IntKind.u64.wrap (q0 * Y)) = u' * 4294967296 + v0 - q0 * Y := wrap_three _ _ _ w2 w3
        have T1 := Lib.hid t1
        have T2 := Lib.hid t2
        clear t1 t2 y2 T
        generalize u' * 4294967296 + v0 - q0 * Y = R at *
        clear g1
        have q5 := E.q0
        have q6 := E.qb
        have q7 := F.q0
        have q8 := F.qb
        go_wp2
        go_ret2
        exact ⟨by rw [← T1.out, ← T2.out]; rfl, rfl⟩

theorem masked (x : Int) (h0 : 0 ≤ x) (h1 : x ≤ 18446744073709551615) : bits BinOp.and IntKind.u64 x 4294967295 = x % 4294967296 := by
  have := bits_mask IntKind.u64 64 (by simp [IntKind.bits]) (fun n h0 h1 => by rw [wrap_u64]; omega) 32 (by omega) x h0 (by omega)
  simpa using this

theorem div64_any (hi lo y : Int) (w : World) (h1 : 0 ≤ hi) (h2 : hi < y) (h3 : 0 ≤ lo) (h4 : lo ≤ 18446744073709551615) (h5 : y ≤ 18446744073709551615) :
    Calls Tryd.prog 107 #[.int .u64 hi, .int .u64 lo, .int .u64 y] w fun e w' => e = .returned (.tuple #[.int .u64 ((hi * 18446744073709551616 + lo) / y), .int .u64 ((hi * 18446744073709551616 + lo) % y)]) ∧ ∃ n, w' = w.drewN n := by
  have hy : 0 < y := by omega
  by_cases hz : hi = 0
  · subst hz
    go_enter Tryd.func107, Tryd.ntmps107
    go_wp2
    go_quiet (fail)
    go_wp2
    go_ret2
    exact ⟨by simp, _, rfl⟩
  · obtain ⟨H, rfl⟩ := Int.eq_ofNat_of_zero_le h1
    obtain ⟨L, rfl⟩ := Int.eq_ofNat_of_zero_le h3
    obtain ⟨y', rfl⟩ := Int.eq_ofNat_of_zero_le (show 0 ≤ y by omega)
    obtain ⟨k, hk, hb, k1, k2⟩ := bits_pow y' (by omega) (by omega)
    obtain ⟨s1, s2, s3, s4, s5⟩ := shift_two H L y' k hk k2 (by omega) (by omega)
    have c1 : ((y' : Int) * 2 ^ k) = ((y' * 2 ^ k : Nat) : Int) := by simp
    have c2 : ((H : Int) * 2 ^ k) = ((H * 2 ^ k : Nat) : Int) := by simp
    have c3 : ((L : Int) / 2 ^ (64 - k)) = ((L / 2 ^ (64 - k) : Nat) : Int) := by simp
    have c4 : ((L : Int) * 2 ^ k) = ((L * 2 ^ k : Nat) : Int) := by simp
    have eY : IntKind.u64.wrap ((y' : Int) * 2 ^ k) = ((y' * 2 ^ k : Nat) : Int) := by rw [c1, wrap_u64]; omega
    have eu : bits BinOp.or IntKind.u64 (IntKind.u64.wrap ((H : Int) * 2 ^ k)) ((L : Int) / 2 ^ (64 - k)) = ((H * 2 ^ k + L / 2 ^ (64 - k) : Nat) : Int) := by
      have e1 : IntKind.u64.wrap ((H : Int) * 2 ^ k) = ((H * 2 ^ k : Nat) : Int) := by rw [c2, wrap_u64]; omega
      have := (bits_nat IntKind.u64 64 (by simp [IntKind.bits]) (fun n h0 h1 => by rw [wrap_u64]; omega) (H * 2 ^ k) (L / 2 ^ (64 - k)) s1 (by omega)).2
      rw [e1, c3, this, s3]
    have ev : IntKind.u64.wrap ((L : Int) * 2 ^ k) = ((L * 2 ^ k % 18446744073709551616 : Nat) : Int) := by rw [c4, wrap_u64]; omega
    have core := div64_core H L y' w h1 h2 h3 h4 h5 hz k _ _ _ _ _ _ _ (by omega) (show Hid _ from (show 64 - (Lib.bitLen (y' : Int).toNat : Int) = k by simpa using hb)) eY rfl (masked _ (by omega) (by omega)) (by omega) (by omega) (by omega) (by omega) (show Hid _ from (show _ = _ from by omega)) (by omega) (by omega)
      eu (by omega) (by omega) (by omega) ev rfl (masked _ (by omega) (by omega)) (by omega) (by omega) (by omega) (by omega) (by omega) (by omega)
    refine core.mono ?_
    rintro e w' ⟨he, rfl⟩
    have hp : (0 : Nat) < 2 ^ k := Nat.two_pow_pos _
    refine ⟨?_, 0, rfl⟩
    rw [he]
    generalize L * 2 ^ k % 18446744073709551616 = V at *
    generalize L / 2 ^ (64 - k) = LL at *
    have e5 : (((H * 2 ^ k + LL : Nat) : Int) * 18446744073709551616 + ((V : Int) / 4294967296 * 4294967296 + (V : Int) % 4294967296)) = (((H * 18446744073709551616 + L) * 2 ^ k : Nat) : Int) := by
      rw [← s5]; omega
    have e6 : ((H : Int) * 18446744073709551616 + (L : Int)) = ((H * 18446744073709551616 + L : Nat) : Int) := by simp
    rw [e5, e6]
    have e7 : (((H * 18446744073709551616 + L) * 2 ^ k : Nat) : Int) / ((y' * 2 ^ k : Nat) : Int) = ((H * 18446744073709551616 + L : Nat) : Int) / (y' : Int) := by
      rw [← Int.natCast_ediv, ← Int.natCast_ediv, Nat.mul_div_mul_right _ _ hp]
    have e8 : (((H * 18446744073709551616 + L) * 2 ^ k : Nat) : Int) % ((y' * 2 ^ k : Nat) : Int) / 2 ^ k = ((H * 18446744073709551616 + L : Nat) : Int) % (y' : Int) := by
      have e9 : ((2 : Int) ^ k) = ((2 ^ k : Nat) : Int) := by simp
      rw [e9, ← Int.natCast_emod, ← Int.natCast_emod, ← Int.natCast_ediv, Nat.mul_mod_mul_right, Nat.mul_div_cancel _ hp]
    rw [e7, e8]

end Go.Proofs.YtckeaibamgkegaaDoor
