/- decimals of the references: what strconv prints -/
import Derived.Test.YtckeaibamgkegaaGreatDoorQ20
import Derived.Test.YtckeaibamgkegaaGreatDoorQ4
import Derived.Test.YtckeaibamgkegaaGreatDoorQ3
import Derived.Lib.ItoaLen
import Derived.Lib.SlBytesRow
set_option linter.all false
set_option linter.all false
section
/- walks: chattelref01: Int -/
namespace Go.Proofs.YtckeaibamgkegaaGreatDoor
open Go.RowKit
set_option maxRecDepth 100000

/-- A number of a sign and a size fits. -/
def fitsB (s : Bool) (n : Nat) : Bool := decide (n ≤ 9223372036854775807) || (s && decide (n = 9223372036854775808))
def intV (s : Bool) (n : Nat) : Int := if fitsB s n then (if s then -(n : Int) else n) else 0
theorem not_fits {s : Bool} {n : Nat} (h : fitsB s n = false) : intV s n = 0 := by simp [intV, h]
theorem fits_le {s : Bool} {n : Nat} (h : fitsB s n = true) : n ≤ 9223372036854775808 := by
  simp [fitsB] at h; omega
theorem fits_pos {n : Nat} (h : fitsB false n = true) : n ≤ 9223372036854775807 := by
  simp [fitsB] at h; omega
theorem neg_step (n k : Nat) : 2 * (-((n / 2 ^ (k + 1) : Nat) : Int)) - bit n k = -((n / 2 ^ k : Nat) : Int) := by
  have := div_step n k
  unfold bit; omega
theorem mod_bit0 {n k : Nat} (h : n % 2 ^ k = 0) (hb : bit n k = 0) : n % 2 ^ (k + 1) = 0 := by
  rw [mod_step, h]; unfold bit at hb; rw [show n / 2 ^ k % 2 = 0 by omega]; simp
theorem mod_bit1 {n k L : Nat} (hk : k < L) (hb : bit n k ≠ 0) : n % 2 ^ L ≠ 0 := by
  intro h
  obtain ⟨c, hc⟩ := Nat.dvd_of_mod_eq_zero h
  apply hb
  rw [hc, Nat.mul_comm, bit_shift, if_pos hk]
theorem fit_full {n : Nat} (h : nlen n = 64) (hm : n % 2 ^ 63 = 0) : n = 9223372036854775808 := by
  have h1 := lt_nlen n
  have h2 : 2 ^ (nlen n - 1) ≤ n := nlen_low (nlen_pos.1 (by omega))
  rw [h] at h1 h2
  omega
theorem unfit_full {s : Bool} {n : Nat} (h : nlen n = 64) (hm : n % 2 ^ 63 ≠ 0) : fitsB s n = false := by
  have h2 : 2 ^ (nlen n - 1) ≤ n := nlen_low (nlen_pos.1 (by omega))
  rw [h] at h2
  simp [fitsB]
  refine ⟨by omega, fun _ h => ?_⟩
  subst h; exact hm (by decide)
theorem unfit_long {s : Bool} {n : Nat} (h : 64 < nlen n) : fitsB s n = false := by
  have h2 : 2 ^ (nlen n - 1) ≤ n := nlen_low (nlen_pos.1 (by omega))
  have h3 : 2 ^ 64 ≤ 2 ^ (nlen n - 1) := Nat.pow_le_pow_right (by omega) (by omega)
  simp [fitsB]
  omega
theorem fit_short {s : Bool} {n : Nat} (h : nlen n < 64) : fitsB s n = true := by
  have h1 := lt_nlen n
  have h3 : 2 ^ nlen n ≤ 2 ^ 63 := Nat.pow_le_pow_right (by omega) (by omega)
  simp [fitsB]; omega

theorem ret_ib {a b : Int} {c d : Bool} (h1 : a = b) (h2 : c = d) : Ending.returned (.tuple #[.int .i64 a, .bool c]) = .returned (.tuple #[.int .i64 b, .bool d]) := by rw [h1, h2]

set_option maxHeartbeats 1600000 in
theorem rint_any (x : Value) (s : Bool) (n : Nat) (w : World) (h : IsBig w x s n) (hL : nlen n ≤ 40000) :
    Calls Tryz.prog 26 #[x] w fun e w' => e = .returned (.tuple #[.int .i64 (intV s n), .bool (fitsB s n)]) ∧ Later w w' := by
  obtain ⟨p, cp, rfl, hv⟩ := h.open
  unfold Num at hv
  clear h
  obtain ⟨L, hLn⟩ : ∃ L, nlen n = L := ⟨_, rfl⟩
  rw [hLn] at hv hL ⊢
  have HLN := Lib.hid hLn
  clear hLn
  go_enter Tryz.func26, Tryz.ntmps26
  go_upto_region 1 with fail
  refine wp_opaque (fun w0 hb0 => ?_)
  have hO := Own.one hb0
  have hw0 : Later w w0 := hb0.un1
  replace hv := hv.later hw0
  obtain ⟨z0, c0, -⟩ := own_get hO
  clear hb0
  by_cases hlong : 64 < L
  · have hf := unfit_long (s := s) (n := n) (by rw [HLN.out]; exact hlong)
    have hi := not_fits hf
    have HF := Lib.hid (And.intro hf hi)
    clear hf hi hv hO
    go_wp2
    go_ret2
    exact ⟨ret_ib HF.out.2.symm HF.out.1.symm, hw0⟩
  go_upto_if 14 with fail
  go_cut [4] (fun s4 wx => fitsB s n = true ∧ wx = w0)
  case first =>
    by_cases hl : L = 64
    · subst hl
      obtain ⟨ba, capa, hvv, hba, _, hca⟩ := Row.full hv (by omega)
      cases hvv
      have HCA := Lib.hid hca
      clear hca hv
      go_wp2
      go_loop [4] (fun s4 => ∃ k : Nat, k ≤ 63 ∧ s4 = .int .i64 k ∧ n % 2 ^ k = 0) (fun s4 => 63 - (intOf s4).toNat)
      case atStart => exact ⟨0, by omega, rfl, Nat.mod_one n⟩
      case round =>
        obtain ⟨k, hk, rfl, hm⟩ := hrel
        have HM := Lib.hid hm
        clear hm
        by_cases hk63 : k < 63
        · have hcell := HCA.out k (by omega)
          by_cases hb0 : bit n k = 0
          · have HN := Lib.hid (mod_bit0 HM.out hb0)
            rw [hb0] at hcell
            clear hb0
            go_wp2
            go_round
            case rel => exact ⟨k + 1, by omega, by go_num, HN.out⟩
            case measure => simp [intOf]; omega
          · have hb1 : bit n k = 1 := (bit_cases n k).resolve_left hb0
            have hf := unfit_full (s := s) HLN.out (mod_bit1 hk63 hb0)
            have hi := not_fits hf
            have HF := Lib.hid (And.intro hf hi)
            rw [hb1] at hcell
            clear hf hi hb0 hb1
            go_wp2
            go_ret2
            exact ⟨ret_ib HF.out.2.symm HF.out.1.symm, hw0⟩
        · obtain rfl : k = 63 := by omega
          have hfull := fit_full HLN.out HM.out
          cases s
          · have hf : fitsB false n = false := by rw [hfull]; rfl
            have hi := not_fits hf
            have HF := Lib.hid (And.intro hf hi)
            clear hf hi hfull
            go_wp2
            go_ret2
            exact ⟨ret_ib HF.out.2.symm HF.out.1.symm, hw0⟩
          · have hf : fitsB true n = true := by rw [hfull]; rfl
            have HF := Lib.hid hf
            clear hf hfull
            go_wp2
            go_meet
            first | exact ⟨HF.out, rfl⟩ | exact ⟨HF.out, trivial⟩ | exact HF.out
    · have hf := fit_short (s := s) (n := n) (by rw [HLN.out]; omega)
      have HF := Lib.hid hf
      clear hf hv hO
      go_wp2
      go_meet
      exact ⟨HF.out, rfl⟩
  case rest =>
    obtain ⟨hf, rfl⟩ := hcut
    have hle := fits_le hf
    have HF := Lib.hid (And.intro hf (show intV s n = if s then -(n : Int) else n by unfold intV; rw [hf]; rfl))
    have hlt := hv.1
    clear hlong hf
    go_wp2
    go_loop [5, 6] (fun s5 s6 => ∃ k : Nat, k ≤ L ∧ s6 = .int .i64 ((k : Int) - 1) ∧ s5 = .int .i64 (-((n / 2 ^ k : Nat) : Int))) (fun _ s6 => (intOf s6 + 1).toNat)
    case atStart => exact ⟨L, Nat.le_refl _, rfl, by rw [Nat.div_eq_of_lt hlt]; rfl⟩
    case round =>
      obtain ⟨k, hk, rfl, rfl⟩ := hrel
      rcases k with _ | j
      · rw [Nat.pow_zero, Nat.div_one]
        rw [show (((0 : Nat) : Int) - 1) = -1 from rfl]
        clear hlt hv
        cases s
        · have hp := fits_pos HF.out.1
          go_wp2
          go_ret2
          exact ⟨ret_ib (by rw [HF.out.2]; simp) HF.out.1.symm, hw0⟩
        · go_wp2
          go_ret2
          exact ⟨ret_ib HF.out.2.symm HF.out.1.symm, hw0⟩
      · obtain ⟨ba, capa, hvv, hba, _, hca⟩ := Row.full hv (by omega)
        cases hvv
        have hcell := hca j (by omega)
        have hst := neg_step n j
        have hbt := bit_cases n j
        have hq1 : n / 2 ^ j ≤ n := Nat.div_le_self _ _
        have hq2 : n / 2 ^ (j + 1) ≤ n := Nat.div_le_self _ _
        have hq3 := div_step n j
        rw [show (((j + 1 : Nat) : Int) - 1) = (j : Int) by omega]
        clear hca hlt hv
        obtain ⟨bt, hbte⟩ : ∃ bt, bit n j = bt := ⟨_, rfl⟩
        obtain ⟨q, hq⟩ : ∃ q, n / 2 ^ (j + 1) = q := ⟨_, rfl⟩
        obtain ⟨q', hq'⟩ : ∃ q', n / 2 ^ j = q' := ⟨_, rfl⟩
        rw [hbte] at hst hbt hcell
        rw [hq] at hst hq2 hq3 ⊢
        rw [hq'] at hst hq1 hq3
        have HS := Lib.hid hst
        have HQ := Lib.hid hq'
        have hb0 : 0 ≤ bt := by omega
        have hb1 : bt ≤ 1 := by omega
        have hq4 : 2 * q ≤ n := by omega
        have hq5 : -9223372036854775808 ≤ 2 * -(q : Int) - bt := by omega
        clear hbte hq hq' hst hbt hq3
        go_wp2
        go_round
        case rel => exact ⟨j, by omega, rfl, by rw [HQ.out, ← HS.out]⟩
        case measure => simp [intOf]
end Go.Proofs.YtckeaibamgkegaaGreatDoor
end
section
/- walks: chattelref01: Sum -/
namespace Go.Proofs.YtckeaibamgkegaaGreatDoor
open Go.RowKit
set_option maxRecDepth 100000

theorem sumI_snoc (l : List Int) (x : Int) : sumI (l ++ [x]) = sumI l + x := by unfold sumI; simp
theorem sumI_take {l : List Int} {j : Nat} (h : j < l.length) : sumI (l.take (j + 1)) = sumI (l.take j) + l[j] := by
  rw [List.take_add_one, List.getElem?_eq_getElem h, Option.toList_some, sumI_snoc]
theorem sumI_bd : ∀ (l : List Int), (∀ x ∈ l, I64 x) → (sumI l).natAbs ≤ 9223372036854775808 * l.length
  | [], _ => by simp [sumI]
  | x :: r, h => by
    have h1 := h x (by simp)
    have h2 := sumI_bd r (fun y hy => h y (by simp [hy]))
    have e : sumI (x :: r) = x + sumI r := by unfold sumI; simp
    unfold I64 at h1
    rw [e, List.length_cons]
    omega
theorem sumI_nlen {l : List Int} (h : ∀ x ∈ l, I64 x) (hl : l.length ≤ 100000) : nlen (sumI l).natAbs ≤ 90 := by
  have := sumI_bd l h
  have h2 : 9223372036854775808 * l.length ≤ 9223372036854775808 * 100000 := Nat.mul_le_mul_left _ hl
  exact nlen_le (by omega)

set_option maxHeartbeats 1600000 in
theorem rsum_any (l : List Int) (hw : ∀ x ∈ l, I64 x) (hlen : l.length ≤ 100000) (v : Value) (w : World) (hN : IsInts w v l) :
    Calls Tryz.prog 27 #[v] w fun e w' => ∃ r, e = .returned r ∧ IsZ w' r (sumI l) ∧ Later w w' := by
  have HN := Lib.hid hN
  obtain ⟨p, cp, rfl⟩ := hN.form
  clear hN
  have HB := Lib.hid (fun j (_ : j ≤ l.length) => sumI_nlen (l := l.take j) (fun x hx => hw x (List.mem_of_mem_take hx)) (by rw [List.length_take]; omega))
  have HW := Lib.hid hw
  clear hw
  obtain ⟨L, hLL⟩ : ∃ L, l.length = L := ⟨_, rfl⟩
  rw [hLL] at HN HB hlen ⊢
  have HL := Lib.hid hLL
  clear hLL
  go_enter Tryz.func27, Tryz.ntmps27
  go_upto_region 2 with (fail)
  refine wp_opaque (fun W8 hb8 => ?_)
  have hO8 := Own.two hb8
  have hw8 := hb8.un1.un1
  clear hb8
  go_wp2
  go_loopw [4] (fun s4 wr => ∃ (j : Nat) (s : Bool) (pk : Option Addr) (n kk : Nat), j ≤ L ∧ s4 = .int .i64 j ∧ Own wr [(w.heap.size, #[.bool false, .slice none 0 0]), (w.heap.size + 1, #[.bool s, .slice pk n kk])] ∧ IsZ wr (.agg #[.bool s, .slice pk n kk]) (sumI (l.take j)) ∧ Later w wr) (fun s4 _ => L - (intOf s4).toNat)
  case atStart => exact ⟨0, false, none, 0, 0, Nat.zero_le _, rfl, hO8, ⟨.slice none 0 0, rfl, (show (0 : Nat) < 2 ^ 0 by decide), .inl ⟨rfl, rfl⟩⟩, hw8⟩
  case round =>
    obtain ⟨j, s, pk, n, kk, hj, rfl, hO, hZ, hlat⟩ := hrel
    clear hO8 hw8
    have HO := Lib.hid hO
    obtain ⟨⟨z0, c0, f0⟩, ⟨z1, c1, f1⟩, -⟩ := hO
    have HZ := Lib.hid hZ
    clear hZ
    by_cases hlt : j < L
    · have hjl : j < l.length := by rw [HL.out]; exact hlt
      obtain ⟨b, o, cp', hv, hb, g⟩ := HN.out.full (j := j) hjl
      rw [HL.out] at hv
      cases hv
      have g0 := ((bcell hlat).1 _ _ hb).trans g
      have hbz := Nat.lt_of_lt_of_le hb (Later.size hlat)
      have hxi := HW.out _ (List.getElem_mem hjl)
      have HST := Lib.hid (sumI_take hjl)
      have hb1 := HB.out j (by omega)
      have hb2 := nlen_i64 hxi.1 hxi.2
      clear g
      generalize sumI (l.take j) = S at *
      generalize l[j] = x at *
      have HOF := Lib.hid (fun W => rof_any x W hxi.1 hxi.2)
      have hb1 := Lib.hid hb1
      have hb2 := Lib.hid hb2
      clear hxi HB HW
      go_wp2
      refine wp_region_plan 7 (.one [0, 1, 2, 3, 4] 5 (.one [] 6 (.one [] 7 (.done [])))) (by kernel_rfl) (by kernel_rfl) (fun _ _ d _ _ h => by cases d <;> exact h) ?_
      repeat' (first
        | (refine plan_done (fun K hK => ?_); (first | (simp only [pick_cons, pick_nil, toList_some_append, List.getElem?_toArray, List.getElem?_cons_zero, List.getElem?_cons_succ]; repeat (go_big_quiet_step (fail))) | simp only [pick_nil]); refine wpQuiet_nil (hK _ ?_); clear hK K)
        | (refine plan_one (by rfl) (fun K hK => ?_); (first | (simp only [pick_cons, pick_nil, toList_some_append, List.getElem?_toArray, List.getElem?_cons_zero, List.getElem?_cons_succ]; repeat (go_big_quiet_step (fail))) | simp only [pick_nil]); refine wpQuiet_nil (hK _ ?_); clear hK K)
        | ((with_reducible refine at_list ?_); go_wp2_with (first | (go_at_call 56; go_must (refine (HOF.out _).mono ?_; rintro e w3 ⟨r3, rfl, hr3, hb3⟩; have HO4 := Lib.hid (HO.out.later (Later.undrew hb3)))) | (go_at_call 55; go_must (refine (radd_any _ _ S x _ (HZ.out.later (by repeat (first | with_reducible exact Later.refl _ | with_reducible assumption | with_reducible refine Later.ofdrew ?_ | with_reducible refine Later.ofdrewN ?_ | with_reducible refine Later.setCell ?_ ?_ _ | with_reducible refine Later.alloc ?_ _ | with_reducible refine Later.drewN ?_ _ | with_reducible refine Later.drew ?_ | (with_reducible refine Later.trans ?_ (by assumption)) | (simp only [World.size_setCell, World.size_alloc, World.heap_drewN]; omega) | (simp; done) | (simp; omega)))) hr3 (Nat.le_trans hb1.out (by decide)) (Nat.le_trans hb2.out (by decide))).mono ?_; rintro e w4 ⟨r, rfl, hr4, hb4⟩; obtain ⟨pk2, kk2, er4, hr5⟩ := hr4.open; subst er4; have hO5 := HO4.out.later hb4; clear z0 c0 f0 z1 c1 f1; obtain ⟨⟨z0, c0, f0⟩, ⟨z1, c1, f1⟩, -⟩ := id hO5))); first | refine behind_store (t := 7) (by decide) ?_ | refine behind (by repeat (first | with_reducible exact Later.refl _ | with_reducible assumption | with_reducible refine Later.ofdrew ?_ | with_reducible refine Later.ofdrewN ?_ | with_reducible refine Later.alloc ?_ _ | with_reducible refine Later.drewN ?_ _ | with_reducible refine Later.drew ?_ | (with_reducible refine Later.trans ?_ (by assumption)))) ?_))
      go_wp2
      go_roundw
      case rel =>
        have hb4' := hlat.trans ((Later.undrew hb3).trans hb4)
        have hfar : ∀ z : Nat × Array Value, z ∈ [(w.heap.size, #[Value.bool false, .slice none 0 0])] → z.1 ≠ w.heap.size + 1 := by
          intro z hz; simp only [List.mem_cons, List.not_mem_nil, or_false] at hz; subst hz; simp
        refine ⟨j + 1, decide (S + x < 0), pk2, nlen (S + x).natAbs, kk2, by omega, by go_num, ?_, ?_, (hb4'.putCell (by omega) _).putCell (by omega) _⟩
        · exact ⟨(((own_split hO5).1.set_far hfar).set_far hfar).1, own_set2 (own_split hO5).2⟩
        · rw [HST.out]; exact ⟨_, rfl, hr5.set2 c1⟩
      case measure => simp [intOf]; omega
    · have hj' : j = L := by omega
      have HZ' := HZ.out
      rw [hj', List.take_of_length_le (by rw [HL.out]; omega)] at HZ'
      obtain ⟨p9, c9, e9, h9⟩ := HZ'.open
      cases e9
      clear HZ HB HW HN HO
      obtain ⟨S, hS⟩ : ∃ S, sumI l = S := ⟨_, rfl⟩
      simp only [hS] at h9 c1
      have HS := Lib.hid hS
      clear hS
      obtain ⟨e0, e1, hI⟩ := big_end (s := decide (S < 0)) c0 h9
      obtain ⟨sg, hsg⟩ : ∃ sg, decide (S < 0) = sg := ⟨_, rfl⟩
      try simp only [hsg] at e0
      try simp only [hsg] at e1
      try simp only [hsg] at hI
      try simp only [hsg] at c1
      have HI := Lib.hid hI
      have HSG := Lib.hid hsg
      clear hI h9 hsg
      go_wp2
      exact bodyPost_ret (v := .agg #[.bool sg, .slice pk (nlen S.natAbs) kk]) (by simp [results, Tryz.results27, go_sem, e0, e1]) rfl ⟨_, rfl, by rw [HS.out]; unfold IsZ; rw [HSG.out]; exact HI.out, (hlat.putCell (by omega) _).putCell (by omega) _⟩
end Go.Proofs.YtckeaibamgkegaaGreatDoor
end
section
/- decimals of the references: what strconv prints -/
namespace Go.Proofs.YtckeaibamgkegaaGreatDoor
open Go.RowKit
set_option maxRecDepth 100000

theorem dec_one {n : Int} (h0 : 0 ≤ n) (h1 : n ≤ 9) : Lib.itoa n = [UInt8.ofNat (48 + n.toNat)] := by
  obtain ⟨u, rfl⟩ := Int.eq_ofNat_of_zero_le h0
  rw [Lib.itoa_nonneg, Lib.decDigits, dif_pos (by omega)]; rfl
theorem dec_pos {n : Int} (h : 9 < n) : Lib.itoa n = Lib.itoa (n / 10) ++ [UInt8.ofNat (48 + (n % 10).toNat)] := by
  obtain ⟨u, rfl⟩ := Int.eq_ofNat_of_zero_le (show 0 ≤ n by omega)
  have e : ((u : Int) / 10) = ((u / 10 : Nat) : Int) := by omega
  rw [e, Lib.itoa_nonneg, Lib.itoa_nonneg, Lib.decDigits, dif_neg (by omega)]
  congr 3
theorem dec_neg1 {n : Int} (h0 : n < 0) : Lib.itoa n = [45] ++ Lib.itoa (-n) := by
  obtain ⟨u, rfl⟩ : ∃ u : Nat, n = -(u : Int) := ⟨n.natAbs, by omega⟩
  rw [Lib.itoa_neg u (by omega), Int.neg_neg, Lib.itoa_nonneg]; rfl
theorem dec_neg {n : Int} (h : n ≤ -10) : Lib.itoa n = Lib.itoa (n.tdiv 10) ++ Lib.itoa (-(n.tmod 10)) := by
  obtain ⟨u, rfl⟩ : ∃ u : Nat, n = -(u : Int) := ⟨n.natAbs, by omega⟩
  have e1 : (-(u : Int)).tdiv 10 = -((u / 10 : Nat) : Int) := by rw [Int.neg_tdiv]; rfl
  have e2 : -((-(u : Int)).tmod 10) = ((u % 10 : Nat) : Int) := by rw [Int.neg_tmod, Int.neg_neg]; rfl
  rw [e1, e2, Lib.itoa_neg u (by omega), Lib.itoa_neg (u / 10) (by omega), Lib.itoa_nonneg, Lib.decDigits, dif_neg (by omega), Lib.decDigits_one (i := u % 10) (by omega)]
  rfl
theorem ba_app (A B : List UInt8) : ByteArray.mk A.toArray ++ ByteArray.mk B.toArray = ByteArray.mk (A ++ B).toArray := by
  apply ByteArray.ext; simp [ByteArray.data_append]
theorem ba_len (A : List UInt8) : (ByteArray.mk A.toArray).size = A.length := by simp [ByteArray.size]
theorem ret_str {a b : ByteArray} (h : a = b) : Ending.returned (.string a) = .returned (.string b) := by rw [h]
def digS (d : Int) : ByteArray := ⟨#[UInt8.ofNat (48 + d.toNat)]⟩
theorem byte_one (x : Int) (w : World) : (Instr.buildSlice 70 1 #[(0, .int .u8 x)]).run Tryz.prog w = .ok (.slice (some ⟨w.heap.size, 0, none⟩) 1 1) (w.alloc (.cells #[.int .u8 x] 5)) := by kernel_rfl
theorem byte_str (d : Int) (h0 : 0 ≤ d) (h1 : d ≤ 9) (w : World) : (convert 70 9 (.slice (some ⟨w.heap.size, 0, none⟩) 1 1)).run Tryz.prog (w.alloc (.cells #[.int .u8 (48 + d)] 5)) = .ok (.string (digS d)) (w.alloc (.cells #[.int .u8 (48 + d)] 5)) := by
  refine Lib.run_convert_whole (P := Tryz.prog) _ 70 5 9 Tryz.underlying70 Tryz.underlying5 Tryz.underlying9 w.heap.size 0 (digS d) ?_ 1
  intro i hi
  have hi0 : i = 0 := by
    have : (digS d).size = 1 := rfl
    omega
  subst hi0
  have hc := (own1 (Later.refl (w.alloc (.cells #[.int .u8 (48 + d)] 5)))).1 0
  rw [Nat.zero_add, hc]
  obtain ⟨u, rfl⟩ := Int.eq_ofNat_of_zero_le h0
  have e : ((digS (u : Int))[0]).toNat = 48 + u := by
    show (UInt8.ofNat (48 + (u : Int).toNat)).toNat = 48 + u
    simp; omega
  rw [e]; rfl
theorem u8_dig {d : Int} (h0 : 0 ≤ d) (h1 : d ≤ 9) : IntKind.u8.wrap (48 + d) = 48 + d := by
  obtain ⟨u, rfl⟩ := Int.eq_ofNat_of_zero_le h0
  simp [IntKind.wrap, IntKind.signed, IntKind.bits]
  omega
theorem itoa_short {n : Int} (h : I64 n) : (Lib.itoa n).length ≤ 21 := Lib.itoa_length_le n h.1 h.2


set_option maxHeartbeats 1000000 in
theorem rdec20_pos : ∀ (u : Nat) (n : Int) (w : World), n = (u : Int) → n ≤ 9223372036854775807 → Calls Tryz.prog 28 #[.int .i64 n] w fun e w' => e = .returned (.string ⟨(Lib.itoa n).toArray⟩) ∧ Later w w' := by
  intro u
  induction u using Nat.strongRecOn with
  | _ u ih =>
  intro n w hn hm
  have h0 : 0 ≤ n := by omega
  have hnn : ¬ (n < 0) := by omega
  obtain ⟨d, hd⟩ : ∃ d, n % 10 = d := ⟨_, rfl⟩
  have d0 : 0 ≤ d := by omega
  have d1 : d ≤ 9 := by omega
  have hw8 := u8_dig d0 d1
  have hcv := byte_str d d0 d1
  by_cases h9 : n ≤ 9
  · have h9' : ¬ (9 < n) := by omega
    have HS : Hid (digS d = ⟨(Lib.itoa n).toArray⟩) := Lib.hid (by rw [dec_one h0 h9, ← hd, Int.emod_eq_of_lt h0 (by omega)]; rfl)
    clear hn ih
    go_enter Tryz.func28, Tryz.ntmps28
    go_wp2_with (refine wpList_builtS (byte_one _) rfl rfl rfl ?_)
    go_ret
    exact ⟨ret_str HS.out, by repeat (first | with_reducible exact Later.refl _ | with_reducible assumption | with_reducible refine Later.ofdrew ?_ | with_reducible refine Later.ofdrewN ?_ | with_reducible refine Later.setCell ?_ ?_ _ | with_reducible refine Later.alloc ?_ _ | with_reducible refine Later.drewN ?_ _ | with_reducible refine Later.drew ?_ | (with_reducible refine Later.trans ?_ (by assumption)) | (simp only [World.size_setCell, World.size_alloc, World.heap_drewN]; omega) | (simp; done) | (simp; omega))⟩
  · have h9' : 9 < n := by omega
    obtain ⟨q, hq⟩ : ∃ q, n / 10 = q := ⟨_, rfl⟩
    have hqi : I64 q := by unfold I64; omega
    have HIH := Lib.hid (fun W => ih q.toNat (by omega) q W (by omega) (by omega))
    have hl := itoa_short hqi
    have HS : Hid (ByteArray.mk (Lib.itoa q).toArray ++ digS d = ⟨(Lib.itoa n).toArray⟩) := Lib.hid (by rw [dec_pos h9', hq, hd, ← ba_app]; rfl)
    have hsz : (digS d).size = 1 := rfl
    obtain ⟨S, hSS⟩ : ∃ S, ByteArray.mk (Lib.itoa q).toArray = S := ⟨_, rfl⟩
    rw [hSS] at HIH HS
    have hSl : S.size ≤ 21 := by rw [← hSS, ba_len]; exact hl
    clear hn ih hl hSS
    go_enter Tryz.func28, Tryz.ntmps28
    go_wp2_with (first | refine wpList_builtS (byte_one _) rfl rfl rfl ?_ | (go_at_call 28; go_must (refine (HIH.out _).mono ?_; rintro e w2 ⟨rfl, hb2⟩)))
    go_ret
    exact ⟨ret_str HS.out, by repeat (first | with_reducible exact Later.refl _ | with_reducible assumption | with_reducible refine Later.ofdrew ?_ | with_reducible refine Later.ofdrewN ?_ | with_reducible refine Later.setCell ?_ ?_ _ | with_reducible refine Later.alloc ?_ _ | with_reducible refine Later.drewN ?_ _ | with_reducible refine Later.drew ?_ | (with_reducible refine Later.trans ?_ (by assumption)) | (simp only [World.size_setCell, World.size_alloc, World.heap_drewN]; omega) | (simp; done) | (simp; omega))⟩

set_option maxHeartbeats 1000000 in
theorem rdec20_neg : ∀ (u : Nat) (n : Int) (w : World), n = -(u : Int) → n < 0 → -9223372036854775808 ≤ n → Calls Tryz.prog 28 #[.int .i64 n] w fun e w' => e = .returned (.string ⟨(Lib.itoa n).toArray⟩) ∧ Later w w' := by
  intro u
  induction u using Nat.strongRecOn with
  | _ u ih =>
  intro n w hn hneg hm
  by_cases h9 : -10 < n
  · have h9' : n > -10 := h9
    obtain ⟨m, hmm⟩ : ∃ m, -n = m := ⟨_, rfl⟩
    have hmi : I64 m := by unfold I64; omega
    have hl := itoa_short hmi
    have HIH := Lib.hid (fun W => rdec20_pos m.toNat m W (by omega) (by omega))
    have HS : Hid (ByteArray.mk #[45] ++ ByteArray.mk (Lib.itoa m).toArray = ⟨(Lib.itoa n).toArray⟩) := Lib.hid (by rw [dec_neg1 hneg, hmm, ← ba_app])
    obtain ⟨S, hSS⟩ : ∃ S, ByteArray.mk (Lib.itoa m).toArray = S := ⟨_, rfl⟩
    rw [hSS] at HIH HS
    have hSl : S.size ≤ 21 := by rw [← hSS, ba_len]; exact hl
    have hsub : IntKind.i64.wrap (-n) = m := by rw [IntWalk.i64_in _ (by omega)]; exact hmm
    clear hn ih hl hSS
    go_enter Tryz.func28, Tryz.ntmps28
    go_wp2_with (go_at_call 28; go_must (refine (HIH.out _).mono ?_; rintro e w2 ⟨rfl, hb2⟩))
    go_ret
    exact ⟨ret_str HS.out, by repeat (first | with_reducible exact Later.refl _ | with_reducible assumption | with_reducible refine Later.ofdrew ?_ | with_reducible refine Later.ofdrewN ?_ | with_reducible refine Later.setCell ?_ ?_ _ | with_reducible refine Later.alloc ?_ _ | with_reducible refine Later.drewN ?_ _ | with_reducible refine Later.drew ?_ | (with_reducible refine Later.trans ?_ (by assumption)) | (simp only [World.size_setCell, World.size_alloc, World.heap_drewN]; omega) | (simp; done) | (simp; omega))⟩
  · have h9' : ¬ (n > -10) := h9
    have hle : n ≤ -10 := by omega
    obtain ⟨q, hq⟩ : ∃ q, n.tdiv 10 = q := ⟨_, rfl⟩
    obtain ⟨d, hd⟩ : ∃ d, n.tmod 10 = d := ⟨_, rfl⟩
    obtain ⟨m, hmm⟩ : ∃ m, -d = m := ⟨_, rfl⟩
    have hqv : q = -((u / 10 : Nat) : Int) := by rw [← hq, hn, Int.neg_tdiv]; rfl
    have hdv : m = ((u % 10 : Nat) : Int) := by rw [← hmm, ← hd, hn, Int.neg_tmod, Int.neg_neg]; rfl
    have hmi : I64 m := by unfold I64; omega
    have hqi : I64 q := by unfold I64; omega
    have hl := itoa_short hmi
    have hl2 := itoa_short hqi
    have HIM := Lib.hid (fun W => rdec20_pos m.toNat m W (by omega) (by omega))
    have HIQ := Lib.hid (fun W => ih (u / 10) (by omega) q W hqv (by omega) (by omega))
    have HS : Hid (ByteArray.mk (Lib.itoa q).toArray ++ ByteArray.mk (Lib.itoa m).toArray = ⟨(Lib.itoa n).toArray⟩) := Lib.hid (by rw [dec_neg hle, hq, hd, hmm, ← ba_app])
    obtain ⟨S, hSS⟩ : ∃ S, ByteArray.mk (Lib.itoa m).toArray = S := ⟨_, rfl⟩
    obtain ⟨S2, hSS2⟩ : ∃ S, ByteArray.mk (Lib.itoa q).toArray = S := ⟨_, rfl⟩
    rw [hSS] at HIM HS
    rw [hSS2] at HIQ HS
    have hSl : S.size ≤ 21 := by rw [← hSS, ba_len]; exact hl
    have hSl2 : S2.size ≤ 21 := by rw [← hSS2, ba_len]; exact hl2
    have hsub : wrap64 (-d) = m := by unfold wrap64; unfold I64 at hmi; omega
    have hsq : wrap64 q = q := by unfold wrap64; unfold I64 at hqi; omega
    clear hn ih hl hSS hSS2 hl2 hqv hdv hmm
    have tok1 : True := trivial
    go_enter Tryz.func28, Tryz.ntmps28
    go_wp2_with (first | (go_at_call 28; clear tok1; go_must (refine (HIQ.out _).mono ?_; rintro e w2 ⟨rfl, hb2⟩)) | (go_at_call 28; go_must (refine (HIM.out _).mono ?_; rintro e w3 ⟨rfl, hb3⟩)))
    go_ret
    exact ⟨ret_str HS.out, by repeat (first | with_reducible exact Later.refl _ | with_reducible assumption | with_reducible refine Later.ofdrew ?_ | with_reducible refine Later.ofdrewN ?_ | with_reducible refine Later.setCell ?_ ?_ _ | with_reducible refine Later.alloc ?_ _ | with_reducible refine Later.drewN ?_ _ | with_reducible refine Later.drew ?_ | (with_reducible refine Later.trans ?_ (by assumption)) | (simp only [World.size_setCell, World.size_alloc, World.heap_drewN]; omega) | (simp; done) | (simp; omega))⟩
theorem rdec20_any (n : Int) (h : I64 n) (w : World) : Calls Tryz.prog 28 #[.int .i64 n] w fun e w' => e = .returned (.string ⟨(Lib.itoa n).toArray⟩) ∧ Later w w' := by
  unfold I64 at h
  by_cases h0 : 0 ≤ n
  · exact rdec20_pos n.toNat n w (by omega) h.2
  · exact rdec20_neg n.natAbs n w (by omega) (by omega) h.1
end Go.Proofs.YtckeaibamgkegaaGreatDoor
end
