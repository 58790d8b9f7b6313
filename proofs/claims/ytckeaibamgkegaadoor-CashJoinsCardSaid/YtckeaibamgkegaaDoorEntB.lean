/- sums of two words; what is wrong with an entry -/
import Derived.Test.YtckeaibamgkegaaDoorEntA
set_option linter.all false
namespace Go.Proofs.YtckeaibamgkegaaDoor
open Go.RowKit
set_option maxRecDepth 100000

def hiM (S : Int) : Int := (S / 18446744073709551616) % 18446744073709551616
theorem hiM_bd (S : Int) : 0 ≤ hiM S ∧ hiM S ≤ 18446744073709551615 := by unfold hiM; omega
theorem u64_wrap (x : Int) : IntKind.u64.wrap x = lo64 x := rfl
theorem sum_take {l : List Int} {j : Nat} (h : j < l.length) : sumI (l.take (j + 1)) = sumI (l.take j) + l[j] := by
  rw [List.take_add_one, List.getElem?_eq_getElem h, Option.toList_some]
  unfold sumI
  rw [List.sum_append, List.sum_singleton]
theorem sum_bd : ∀ (l : List Int), (∀ x ∈ l, I64 x) → -(l.length * 9223372036854775808) ≤ sumI l ∧ sumI l ≤ l.length * 9223372036854775808
  | [], _ => by simp [sumI]
  | x :: r, h => by
    have h1 := h x (by simp)
    have h2 := sum_bd r (fun y hy => h y (by simp [hy]))
    have e : sumI (x :: r) = x + sumI r := by unfold sumI; simp
    rw [e, List.length_cons]
    unfold I64 at h1
    omega
theorem hi_step (S x : Int) (hx : I64 x) : hiM (S + x) = IntKind.u64.wrap (hiM S + IntKind.u64.wrap (IntKind.u64.wrap (x / 9223372036854775808) + hi64 (lo64 S + lo64 x))) := by
  unfold I64 at hx
  simp only [u64_wrap]
  obtain ⟨q, r, rfl, h0, h1⟩ : ∃ q r : Int, S = 18446744073709551616 * q + r ∧ 0 ≤ r ∧ r < 18446744073709551616 := ⟨S / 18446744073709551616, S % 18446744073709551616, by omega, by omega, by omega⟩
  have e1 : lo64 (18446744073709551616 * q + r) = r := by unfold lo64; omega
  have e2 : hiM (18446744073709551616 * q + r) = q % 18446744073709551616 := by unfold hiM; omega
  rw [e1, e2]
  by_cases hn : x < 0
  · have e3 : lo64 x = x + 18446744073709551616 := by unfold lo64; omega
    have e4 : lo64 (x / 9223372036854775808) = 18446744073709551615 := by unfold lo64; omega
    rw [e3, e4]
    obtain ⟨c, hc, hc2⟩ : ∃ c : Int, hi64 (r + (x + 18446744073709551616)) = c ∧ (c = 0 ∨ c = 1) := ⟨_, rfl, by unfold hi64; omega⟩
    have e5 : hiM (18446744073709551616 * q + r + x) = (q + c - 1) % 18446744073709551616 := by unfold hiM; unfold hi64 at hc; omega
    rw [hc, e5]
    unfold lo64
    rcases hc2 with rfl | rfl <;> omega
  · have e3 : lo64 x = x := by unfold lo64; omega
    have e4 : lo64 (x / 9223372036854775808) = 0 := by unfold lo64; omega
    rw [e3, e4]
    obtain ⟨c, hc, hc2⟩ : ∃ c : Int, hi64 (r + x) = c ∧ (c = 0 ∨ c = 1) := ⟨_, rfl, by unfold hi64; omega⟩
    have e5 : hiM (18446744073709551616 * q + r + x) = (q + c) % 18446744073709551616 := by unfold hiM; unfold hi64 at hc; omega
    rw [hc, e5]
    unfold lo64
    rcases hc2 with rfl | rfl <;> omega
theorem sum_over (S : Int) (hb : -(100000 * 9223372036854775808) ≤ S ∧ S ≤ 100000 * 9223372036854775808) (hf : ¬ (-9223372036854775808 ≤ S ∧ S ≤ 9223372036854775807)) : (hiM S == IntKind.u64.wrap (wrap64 (lo64 S) / 9223372036854775808)) = false := by
  rw [beq_eq_false_iff_ne, u64_wrap]
  obtain ⟨q, r, rfl, h0, h1⟩ : ∃ q r : Int, S = 18446744073709551616 * q + r ∧ 0 ≤ r ∧ r < 18446744073709551616 := ⟨S / 18446744073709551616, S % 18446744073709551616, by omega, by omega, by omega⟩
  have e1 : lo64 (18446744073709551616 * q + r) = r := by unfold lo64; omega
  have e2 : hiM (18446744073709551616 * q + r) = q % 18446744073709551616 := by unfold hiM; omega
  rw [e1, e2]
  have hq : -100001 ≤ q ∧ q ≤ 100001 := by omega
  by_cases hr : r < 9223372036854775808
  · have e3 : wrap64 r = r := by unfold wrap64; omega
    have e4 : lo64 (r / 9223372036854775808) = 0 := by unfold lo64; omega
    rw [e3, e4]
    omega
  · have e3 : wrap64 r = r - 18446744073709551616 := by unfold wrap64; omega
    have e4 : lo64 ((r - 18446744073709551616) / 9223372036854775808) = 18446744073709551615 := by unfold lo64; omega
    rw [e3, e4]
    omega

set_option maxHeartbeats 1600000 in
theorem sum_any (l : List Int) (hw : ∀ x ∈ l, I64 x) (hlen : l.length ≤ 100000) (v : Value) (w : World) (hN : IsInts w v l) :
    Calls Tryd.prog 46 #[v] w fun e w' => e = .returned (.tuple #[.int .i64 (fitN (sumI l)), .int .i64 (fitE (sumI l))]) ∧ Later w w' := by
  obtain ⟨p, cp, rfl⟩ := hN.form
  have HN := Lib.hid hN
  have HW := Lib.hid hw
  clear hN hw
  obtain ⟨L, hL⟩ : ∃ L, l.length = L := ⟨_, rfl⟩
  rw [hL] at HN hlen ⊢
  have HL := Lib.hid hL
  clear hL
  obtain ⟨S, hT⟩ : ∃ S, sumI l = S := ⟨_, rfl⟩
  rw [hT]
  have HT := Lib.hid hT
  clear hT
  go_enter Tryd.func46, Tryd.ntmps46
  go_wp2
  go_loopw [4, 5, 12] (fun s4 s5 s12 wr => ∃ j : Nat, j ≤ L ∧ s4 = .int .u64 (hiM (sumI (l.take j))) ∧ s5 = .int .u64 (lo64 (sumI (l.take j))) ∧ s12 = .int .i64 j ∧ Later w wr) (fun _ _ s12 _ => L - (intOf s12).toNat)
  case atStart => exact ⟨0, Nat.zero_le _, by simp [sumI, hiM], by simp [sumI, lo64], rfl, Later.refl _⟩
  case round =>
    obtain ⟨j, hj, rfl, rfl, rfl, hlat⟩ := hrel
    by_cases hlt : j < L
    · have hjl : j < l.length := by rw [HL.out]; exact hlt
      obtain ⟨b, o, cp', hv, hb, g⟩ := HN.out.full (j := j) hjl
      rw [HL.out] at hv
      cases hv
      replace g := ((bcell hlat).1 _ _ hb).trans g
      have hx := HW.out _ (List.getElem_mem hjl)
      have HS := Lib.hid (sum_take hjl)
      generalize l[j] = x at *
      clear HT
      obtain ⟨U, hS⟩ : ∃ U, sumI (l.take j) = U := ⟨_, rfl⟩
      rw [hS] at HS ⊢
      clear hS HN HW
      have a1 := lo_bd U
      have a2 := lo_bd x
      have a3 := hiM_bd U
      have hwx := u64_wrap x
      have HA := Lib.hid (fun W => add64_0 (lo64 U) (lo64 x) a1.1 a1.2 a2.1 a2.2 W)
      have hx' := hx
      unfold I64 at hx
      go_wp2_with (simp only [HA.out])
      go_roundw
      case rel =>
        refine ⟨j + 1, by omega, ?_, ?_, by go_num, by repeat (first | with_reducible exact Later.refl _ | with_reducible assumption | with_reducible refine Later.ofdrew ?_ | with_reducible refine Later.ofdrewN ?_ | with_reducible refine Later.setCell ?_ ?_ _ | with_reducible refine Later.alloc ?_ _ | with_reducible refine Later.drewN ?_ _ | with_reducible refine Later.drew ?_ | (with_reducible refine Later.trans ?_ (by assumption)) | (simp only [World.size_setCell, World.size_alloc, World.heap_drewN]; omega) | (simp; done) | (simp; omega))⟩
        · rw [HS.out]
          exact congrArg _ (hi_step U x hx').symm
        · rw [HS.out]
          simp only [lo64]
          congr 1
          omega
      case measure => simp [intOf]; omega
    · have hjL : j = l.length := by rw [HL.out]; omega
      have HS : sumI (l.take j) = S := by rw [hjL, List.take_length]; exact HT.out
      have hb : -(100000 * 9223372036854775808) ≤ S ∧ S ≤ 100000 * 9223372036854775808 := by
        have := sum_bd l HW.out
        rw [HL.out, HT.out] at this
        omega
      rw [HS]
      clear HW hjL HL HN HS HT
      by_cases hf : -9223372036854775808 ≤ S ∧ S ≤ 9223372036854775807
      · have e1 : Hid (fitN S = S) := Lib.hid (if_pos hf)
        have e2 : Hid (fitE S = 0) := Lib.hid (if_pos hf)
        have e3 : wrap64 (lo64 S) = S := by unfold wrap64 lo64; omega
        have e4 : (hiM S == IntKind.u64.wrap (S / 9223372036854775808)) = true := by
          rw [beq_iff_eq, u64_wrap]; unfold hiM lo64; omega
        clear hf hb
        go_wp2
        go_ret2
        exact ⟨by rw [e1.out, e2.out]; simp [e3], hlat⟩
      · have e1 : Hid (fitN S = 0) := Lib.hid (if_neg hf)
        have e2 : Hid (fitE S = 11) := Lib.hid (if_neg hf)
        have e4 : (hiM S == IntKind.u64.wrap (wrap64 (lo64 S) / 9223372036854775808)) = false := by
          exact sum_over S hb hf
        clear hf hb
        go_wp2
        go_ret2
        exact ⟨by rw [e1.out, e2.out]; rfl, hlat⟩

end Go.Proofs.YtckeaibamgkegaaDoor
