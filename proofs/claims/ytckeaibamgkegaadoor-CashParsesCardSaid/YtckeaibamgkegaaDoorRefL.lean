/- walks: chattelref01: Int -/
import Derived.Test.YtckeaibamgkegaaDoorRefK
set_option linter.all false
namespace Go.Proofs.YtckeaibamgkegaaDoor
open Go.RowKit
set_option maxRecDepth 100000

/-- A number of a sign and a size fits. -/
def fitsB (s : Bool) (n : Nat) : Bool := decide (n ≤ 9223372036854775807) || (s && decide (n = 9223372036854775808))
def intV (s : Bool) (n : Nat) : Int := if fitsB s n then (if s then -(n : Int) else n) else 0
theorem not_fits {s : Bool} {n : Nat} (h : fitsB s n = false) : intV s n = 0 := by simp [intV, h]
theorem fits_le {s : Bool} {n : Nat} (h : fitsB s n = true) : n ≤ 9223372036854775808 := by
  simp [fitsB] at h; omega
theorem fits_pos {n : Nat} (h : fitsB false n = true) : n ≤ 9223372036854775807 := by
  simp [fitsB] at h; omega
theorem neg_step (n k : Nat) : 2 * (-((n / 2 ^ (k + 1) : Nat) : Int)) - bit n k = -((n / 2 ^ k : Nat) : Int) := by
  have := div_step n k
  unfold bit; omega
theorem mod_bit0 {n k : Nat} (h : n % 2 ^ k = 0) (hb : bit n k = 0) : n % 2 ^ (k + 1) = 0 := by
  rw [mod_step, h]; unfold bit at hb; rw [show n / 2 ^ k % 2 = 0 by omega]; simp
theorem mod_bit1 {n k L : Nat} (hk : k < L) (hb : bit n k ≠ 0) : n % 2 ^ L ≠ 0 := by
  intro h
  obtain ⟨c, hc⟩ := Nat.dvd_of_mod_eq_zero h
  apply hb
  rw [hc, Nat.mul_comm, bit_shift, if_pos hk]
theorem fit_full {n : Nat} (h : nlen n = 64) (hm : n % 2 ^ 63 = 0) : n = 9223372036854775808 := by
  have h1 := lt_nlen n
  have h2 : 2 ^ (nlen n - 1) ≤ n := nlen_low (nlen_pos.1 (by omega))
  rw [h] at h1 h2
  omega
theorem unfit_full {s : Bool} {n : Nat} (h : nlen n = 64) (hm : n % 2 ^ 63 ≠ 0) : fitsB s n = false := by
  have h2 : 2 ^ (nlen n - 1) ≤ n := nlen_low (nlen_pos.1 (by omega))
  rw [h] at h2
  simp [fitsB]
  refine ⟨by omega, fun _ h => ?_⟩
  subst h; exact hm (by decide)
theorem unfit_long {s : Bool} {n : Nat} (h : 64 < nlen n) : fitsB s n = false := by
  have h2 : 2 ^ (nlen n - 1) ≤ n := nlen_low (nlen_pos.1 (by omega))
  have h3 : 2 ^ 64 ≤ 2 ^ (nlen n - 1) := Nat.pow_le_pow_right (by omega) (by omega)
  simp [fitsB]
  omega
theorem fit_short {s : Bool} {n : Nat} (h : nlen n < 64) : fitsB s n = true := by
  have h1 := lt_nlen n
  have h3 : 2 ^ nlen n ≤ 2 ^ 63 := Nat.pow_le_pow_right (by omega) (by omega)
  simp [fitsB]; omega

theorem ret_ib {a b : Int} {c d : Bool} (h1 : a = b) (h2 : c = d) : Ending.returned (.tuple #[.int .i64 a, .bool c]) = .returned (.tuple #[.int .i64 b, .bool d]) := by rw [h1, h2]

set_option maxHeartbeats 1600000 in
theorem rint_any (x : Value) (s : Bool) (n : Nat) (w : World) (h : IsBig w x s n) (hL : nlen n ≤ 40000) :
    Calls Tryd.prog 43 #[x] w fun e w' => e = .returned (.tuple #[.int .i64 (intV s n), .bool (fitsB s n)]) ∧ Later w w' := by
  obtain ⟨p, cp, rfl, hv⟩ := h.open
  unfold Num at hv
  clear h
  obtain ⟨L, hLn⟩ : ∃ L, nlen n = L := ⟨_, rfl⟩
  rw [hLn] at hv hL ⊢
  have HLN := Lib.hid hLn
  clear hLn
  go_enter Tryd.func43, Tryd.ntmps43
  go_upto_region 1 with fail
  refine wp_opaque (fun w0 hb0 => ?_)
  have hO := Own.one hb0
  have hw0 : Later w w0 := hb0.un1
  replace hv := hv.later hw0
  obtain ⟨z0, c0, -⟩ := own_get hO
  clear hb0
  by_cases hlong : 64 < L
  · have hf := unfit_long (s := s) (n := n) (by rw [HLN.out]; exact hlong)
    have hi := not_fits hf
    have HF := Lib.hid (And.intro hf hi)
    clear hf hi hv hO
    go_wp2
    go_ret2
    exact ⟨ret_ib HF.out.2.symm HF.out.1.symm, hw0⟩
  go_upto_if 14 with fail
  go_cut [4] (fun s4 wx => fitsB s n = true ∧ wx = w0)
  case first =>
    by_cases hl : L = 64
    · subst hl
      obtain ⟨ba, capa, hvv, hba, _, hca⟩ := Row.full hv (by omega)
      cases hvv
      have HCA := Lib.hid hca
      clear hca hv
      go_wp2
      go_loop [4] (fun s4 => ∃ k : Nat, k ≤ 63 ∧ s4 = .int .i64 k ∧ n % 2 ^ k = 0) (fun s4 => 63 - (intOf s4).toNat)
      case atStart => exact ⟨0, by omega, rfl, Nat.mod_one n⟩
      case round =>
        obtain ⟨k, hk, rfl, hm⟩ := hrel
        have HM := Lib.hid hm
        clear hm
        by_cases hk63 : k < 63
        · have hcell := HCA.out k (by omega)
          by_cases hb0 : bit n k = 0
          · have HN := Lib.hid (mod_bit0 HM.out hb0)
            rw [hb0] at hcell
            clear hb0
            go_wp2
            go_round
            case rel => exact ⟨k + 1, by omega, by go_num, HN.out⟩
            case measure => simp [intOf]; omega
          · have hb1 : bit n k = 1 := (bit_cases n k).resolve_left hb0
            have hf := unfit_full (s := s) HLN.out (mod_bit1 hk63 hb0)
            have hi := not_fits hf
            have HF := Lib.hid (And.intro hf hi)
            rw [hb1] at hcell
            clear hf hi hb0 hb1
            go_wp2
            go_ret2
            exact ⟨ret_ib HF.out.2.symm HF.out.1.symm, hw0⟩
        · obtain rfl : k = 63 := by omega
          have hfull := fit_full HLN.out HM.out
          cases s
          · have hf : fitsB false n = false := by rw [hfull]; rfl
            have hi := not_fits hf
            have HF := Lib.hid (And.intro hf hi)
            clear hf hi hfull
            go_wp2
            go_ret2
            exact ⟨ret_ib HF.out.2.symm HF.out.1.symm, hw0⟩
          · have hf : fitsB true n = true := by rw [hfull]; rfl
            have HF := Lib.hid hf
            clear hf hfull
            go_wp2
            go_meet
            first | exact ⟨HF.out, rfl⟩ | exact ⟨HF.out, trivial⟩ | exact HF.out
    · have hf := fit_short (s := s) (n := n) (by rw [HLN.out]; omega)
      have HF := Lib.hid hf
      clear hf hv hO
      go_wp2
      go_meet
      exact ⟨HF.out, rfl⟩
  case rest =>
    obtain ⟨hf, rfl⟩ := hcut
    have hle := fits_le hf
    have HF := Lib.hid (And.intro hf (show intV s n = if s then -(n : Int) else n by unfold intV; rw [hf]; rfl))
    have hlt := hv.1
    clear hlong hf
    go_wp2
    go_loop [5, 6] (fun s5 s6 => ∃ k : Nat, k ≤ L ∧ s6 = .int .i64 ((k : Int) - 1) ∧ s5 = .int .i64 (-((n / 2 ^ k : Nat) : Int))) (fun _ s6 => (intOf s6 + 1).toNat)
    case atStart => exact ⟨L, Nat.le_refl _, rfl, by rw [Nat.div_eq_of_lt hlt]; rfl⟩
    case round =>
      obtain ⟨k, hk, rfl, rfl⟩ := hrel
      rcases k with _ | j
      · rw [Nat.pow_zero, Nat.div_one]
        rw [show (((0 : Nat) : Int) - 1) = -1 from rfl]
        clear hlt hv
        cases s
        · have hp := fits_pos HF.out.1
          go_wp2
          go_ret2
          exact ⟨ret_ib (by rw [HF.out.2]; simp) HF.out.1.symm, hw0⟩
        · go_wp2
          go_ret2
          exact ⟨ret_ib HF.out.2.symm HF.out.1.symm, hw0⟩
      · obtain ⟨ba, capa, hvv, hba, _, hca⟩ := Row.full hv (by omega)
        cases hvv
        have hcell := hca j (by omega)
        have hst := neg_step n j
        have hbt := bit_cases n j
        have hq1 : n / 2 ^ j ≤ n := Nat.div_le_self _ _
        have hq2 : n / 2 ^ (j + 1) ≤ n := Nat.div_le_self _ _
        have hq3 := div_step n j
        rw [show (((j + 1 : Nat) : Int) - 1) = (j : Int) by omega]
        clear hca hlt hv
        obtain ⟨bt, hbte⟩ : ∃ bt, bit n j = bt := ⟨_, rfl⟩
        obtain ⟨q, hq⟩ : ∃ q, n / 2 ^ (j + 1) = q := ⟨_, rfl⟩
        obtain ⟨q', hq'⟩ : ∃ q', n / 2 ^ j = q' := ⟨_, rfl⟩
        rw [hbte] at hst hbt hcell
        rw [hq] at hst hq2 hq3 ⊢
        rw [hq'] at hst hq1 hq3
        have HS := Lib.hid hst
        have HQ := Lib.hid hq'
        have hb0 : 0 ≤ bt := by omega
        have hb1 : bt ≤ 1 := by omega
        have hq4 : 2 * q ≤ n := by omega
        have hq5 : -9223372036854775808 ≤ 2 * -(q : Int) - bt := by omega
        clear hbte hq hq' hst hbt hq3
        go_wp2
        go_round
        case rel => exact ⟨j, by omega, rfl, by rw [HQ.out, ← HS.out]⟩
        case measure => simp [intOf]
end Go.Proofs.YtckeaibamgkegaaDoor
