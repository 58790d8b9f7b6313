/- decimals of the references: what strconv prints -/
import Derived.Test.YtckeaibamgkegaaDoorRowS
import Derived.Lib.ItoaLen
import Derived.Lib.SlBytesRow
set_option linter.all false
namespace Go.Proofs.YtckeaibamgkegaaDoor
open Go.RowKit
set_option maxRecDepth 100000

theorem dec_one {n : Int} (h0 : 0 ≤ n) (h1 : n ≤ 9) : Lib.itoa n = [UInt8.ofNat (48 + n.toNat)] := by
  obtain ⟨u, rfl⟩ := Int.eq_ofNat_of_zero_le h0
  rw [Lib.itoa_nonneg, Lib.decDigits, dif_pos (by omega)]; rfl
theorem dec_pos {n : Int} (h : 9 < n) : Lib.itoa n = Lib.itoa (n / 10) ++ [UInt8.ofNat (48 + (n % 10).toNat)] := by
  obtain ⟨u, rfl⟩ := Int.eq_ofNat_of_zero_le (show 0 ≤ n by omega)
  have e : ((u : Int) / 10) = ((u / 10 : Nat) : Int) := by omega
  rw [e, Lib.itoa_nonneg, Lib.itoa_nonneg, Lib.decDigits, dif_neg (by omega)]
  congr 3
theorem dec_neg1 {n : Int} (h0 : n < 0) : Lib.itoa n = [45] ++ Lib.itoa (-n) := by
  obtain ⟨u, rfl⟩ : ∃ u : Nat, n = -(u : Int) := ⟨n.natAbs, by omega⟩
  rw [Lib.itoa_neg u (by omega), Int.neg_neg, Lib.itoa_nonneg]; rfl
theorem dec_neg {n : Int} (h : n ≤ -10) : Lib.itoa n = Lib.itoa (n.tdiv 10) ++ Lib.itoa (-(n.tmod 10)) := by
  obtain ⟨u, rfl⟩ : ∃ u : Nat, n = -(u : Int) := ⟨n.natAbs, by omega⟩
  have e1 : (-(u : Int)).tdiv 10 = -((u / 10 : Nat) : Int) := by rw [Int.neg_tdiv]; rfl
  have e2 : -((-(u : Int)).tmod 10) = ((u % 10 : Nat) : Int) := by rw [Int.neg_tmod, Int.neg_neg]; rfl
  rw [e1, e2, Lib.itoa_neg u (by omega), Lib.itoa_neg (u / 10) (by omega), Lib.itoa_nonneg, Lib.decDigits, dif_neg (by omega), Lib.decDigits_one (i := u % 10) (by omega)]
  rfl
theorem ba_app (A B : List UInt8) : ByteArray.mk A.toArray ++ ByteArray.mk B.toArray = ByteArray.mk (A ++ B).toArray := by
  apply ByteArray.ext; simp [ByteArray.data_append]
theorem ba_len (A : List UInt8) : (ByteArray.mk A.toArray).size = A.length := by simp [ByteArray.size]
theorem ret_str {a b : ByteArray} (h : a = b) : Ending.returned (.string a) = .returned (.string b) := by rw [h]
def digS (d : Int) : ByteArray := ⟨#[UInt8.ofNat (48 + d.toNat)]⟩
theorem byte_one (x : Int) (w : World) : (Instr.buildSlice 104 1 #[(0, .int .u8 x)]).run Tryd.prog w = .ok (.slice (some ⟨w.heap.size, 0, none⟩) 1 1) (w.alloc (.cells #[.int .u8 x] 5)) := by kernel_rfl
theorem byte_str (d : Int) (h0 : 0 ≤ d) (h1 : d ≤ 9) (w : World) : (convert 104 9 (.slice (some ⟨w.heap.size, 0, none⟩) 1 1)).run Tryd.prog (w.alloc (.cells #[.int .u8 (48 + d)] 5)) = .ok (.string (digS d)) (w.alloc (.cells #[.int .u8 (48 + d)] 5)) := by
  refine Lib.run_convert_whole (P := Tryd.prog) _ 104 5 9 Tryd.underlying104 Tryd.underlying5 Tryd.underlying9 w.heap.size 0 (digS d) ?_ 1
  intro i hi
  have hi0 : i = 0 := by
    have : (digS d).size = 1 := rfl
    omega
  subst hi0
  have hc := (own1 (Later.refl (w.alloc (.cells #[.int .u8 (48 + d)] 5)))).1 0
  rw [Nat.zero_add, hc]
  obtain ⟨u, rfl⟩ := Int.eq_ofNat_of_zero_le h0
  have e : ((digS (u : Int))[0]).toNat = 48 + u := by
    show (UInt8.ofNat (48 + (u : Int).toNat)).toNat = 48 + u
    simp; omega
  rw [e]; rfl
theorem u8_dig {d : Int} (h0 : 0 ≤ d) (h1 : d ≤ 9) : IntKind.u8.wrap (48 + d) = 48 + d := by
  obtain ⟨u, rfl⟩ := Int.eq_ofNat_of_zero_le h0
  simp [IntKind.wrap, IntKind.signed, IntKind.bits]
  omega
theorem itoa_short {n : Int} (h : I64 n) : (Lib.itoa n).length ≤ 21 := Lib.itoa_length_le n h.1 h.2


set_option maxHeartbeats 1000000 in
theorem rdec_pos : ∀ (u : Nat) (n : Int) (w : World), n = (u : Int) → n ≤ 9223372036854775807 → Calls Tryd.prog 35 #[.int .i64 n] w fun e w' => e = .returned (.string ⟨(Lib.itoa n).toArray⟩) ∧ Later w w' := by
  intro u
  induction u using Nat.strongRecOn with
  | _ u ih =>
  intro n w hn hm
  have h0 : 0 ≤ n := by omega
  have hnn : ¬ (n < 0) := by omega
  obtain ⟨d, hd⟩ : ∃ d, n % 10 = d := ⟨_, rfl⟩
  have d0 : 0 ≤ d := by omega
  have d1 : d ≤ 9 := by omega
  have hw8 := u8_dig d0 d1
  have hcv := byte_str d d0 d1
  by_cases h9 : n ≤ 9
  · have h9' : ¬ (9 < n) := by omega
    have HS : Hid (digS d = ⟨(Lib.itoa n).toArray⟩) := Lib.hid (by rw [dec_one h0 h9, ← hd, Int.emod_eq_of_lt h0 (by omega)]; rfl)
    clear hn ih
    go_enter Tryd.func35, Tryd.ntmps35
    go_wp2_with (refine wpList_builtS (byte_one _) rfl rfl rfl ?_)
    go_ret
    exact ⟨ret_str HS.out, by repeat (first | with_reducible exact Later.refl _ | with_reducible assumption | with_reducible refine Later.ofdrew ?_ | with_reducible refine Later.ofdrewN ?_ | with_reducible refine Later.setCell ?_ ?_ _ | with_reducible refine Later.alloc ?_ _ | with_reducible refine Later.drewN ?_ _ | with_reducible refine Later.drew ?_ | (with_reducible refine Later.trans ?_ (by assumption)) | (simp only [World.size_setCell, World.size_alloc, World.heap_drewN]; omega) | (simp; done) | (simp; omega))⟩
  · have h9' : 9 < n := by omega
    obtain ⟨q, hq⟩ : ∃ q, n / 10 = q := ⟨_, rfl⟩
    have hqi : I64 q := by unfold I64; omega
    have HIH := Lib.hid (fun W => ih q.toNat (by omega) q W (by omega) (by omega))
    have hl := itoa_short hqi
    have HS : Hid (ByteArray.mk (Lib.itoa q).toArray ++ digS d = ⟨(Lib.itoa n).toArray⟩) := Lib.hid (by rw [dec_pos h9', hq, hd, ← ba_app]; rfl)
    have hsz : (digS d).size = 1 := rfl
    obtain ⟨S, hSS⟩ : ∃ S, ByteArray.mk (Lib.itoa q).toArray = S := ⟨_, rfl⟩
    rw [hSS] at HIH HS
    have hSl : S.size ≤ 21 := by rw [← hSS, ba_len]; exact hl
    clear hn ih hl hSS
    go_enter Tryd.func35, Tryd.ntmps35
    go_wp2_with (first | refine wpList_builtS (byte_one _) rfl rfl rfl ?_ | (go_at_call 35; go_must (refine (HIH.out _).mono ?_; rintro e w2 ⟨rfl, hb2⟩)))
    go_ret
    exact ⟨ret_str HS.out, by repeat (first | with_reducible exact Later.refl _ | with_reducible assumption | with_reducible refine Later.ofdrew ?_ | with_reducible refine Later.ofdrewN ?_ | with_reducible refine Later.setCell ?_ ?_ _ | with_reducible refine Later.alloc ?_ _ | with_reducible refine Later.drewN ?_ _ | with_reducible refine Later.drew ?_ | (with_reducible refine Later.trans ?_ (by assumption)) | (simp only [World.size_setCell, World.size_alloc, World.heap_drewN]; omega) | (simp; done) | (simp; omega))⟩

set_option maxHeartbeats 1000000 in
theorem rdec_neg : ∀ (u : Nat) (n : Int) (w : World), n = -(u : Int) → n < 0 → -9223372036854775808 ≤ n → Calls Tryd.prog 35 #[.int .i64 n] w fun e w' => e = .returned (.string ⟨(Lib.itoa n).toArray⟩) ∧ Later w w' := by
  intro u
  induction u using Nat.strongRecOn with
  | _ u ih =>
  intro n w hn hneg hm
  by_cases h9 : -10 < n
  · have h9' : n > -10 := h9
    obtain ⟨m, hmm⟩ : ∃ m, -n = m := ⟨_, rfl⟩
    have hmi : I64 m := by unfold I64; omega
    have hl := itoa_short hmi
    have HIH := Lib.hid (fun W => rdec_pos m.toNat m W (by omega) (by omega))
    have HS : Hid (ByteArray.mk #[45] ++ ByteArray.mk (Lib.itoa m).toArray = ⟨(Lib.itoa n).toArray⟩) := Lib.hid (by rw [dec_neg1 hneg, hmm, ← ba_app])
    obtain ⟨S, hSS⟩ : ∃ S, ByteArray.mk (Lib.itoa m).toArray = S := ⟨_, rfl⟩
    rw [hSS] at HIH HS
    have hSl : S.size ≤ 21 := by rw [← hSS, ba_len]; exact hl
    have hsub : IntKind.i64.wrap (-n) = m := by rw [IntWalk.i64_in _ (by omega)]; exact hmm
    clear hn ih hl hSS
    go_enter Tryd.func35, Tryd.ntmps35
    go_wp2_with (go_at_call 35; go_must (refine (HIH.out _).mono ?_; rintro e w2 ⟨rfl, hb2⟩))
    go_ret
    exact ⟨ret_str HS.out, by repeat (first | with_reducible exact Later.refl _ | with_reducible assumption | with_reducible refine Later.ofdrew ?_ | with_reducible refine Later.ofdrewN ?_ | with_reducible refine Later.setCell ?_ ?_ _ | with_reducible refine Later.alloc ?_ _ | with_reducible refine Later.drewN ?_ _ | with_reducible refine Later.drew ?_ | (with_reducible refine Later.trans ?_ (by assumption)) | (simp only [World.size_setCell, World.size_alloc, World.heap_drewN]; omega) | (simp; done) | (simp; omega))⟩
  · have h9' : ¬ (n > -10) := h9
    have hle : n ≤ -10 := by omega
    obtain ⟨q, hq⟩ : ∃ q, n.tdiv 10 = q := ⟨_, rfl⟩
    obtain ⟨d, hd⟩ : ∃ d, n.tmod 10 = d := ⟨_, rfl⟩
    obtain ⟨m, hmm⟩ : ∃ m, -d = m := ⟨_, rfl⟩
    have hqv : q = -((u / 10 : Nat) : Int) := by rw [← hq, hn, Int.neg_tdiv]; rfl
    have hdv : m = ((u % 10 : Nat) : Int) := by rw [← hmm, ← hd, hn, Int.neg_tmod, Int.neg_neg]; rfl
    have hmi : I64 m := by unfold I64; omega
    have hqi : I64 q := by unfold I64; omega
    have hl := itoa_short hmi
    have hl2 := itoa_short hqi
    have HIM := Lib.hid (fun W => rdec_pos m.toNat m W (by omega) (by omega))
    have HIQ := Lib.hid (fun W => ih (u / 10) (by omega) q W hqv (by omega) (by omega))
    have HS : Hid (ByteArray.mk (Lib.itoa q).toArray ++ ByteArray.mk (Lib.itoa m).toArray = ⟨(Lib.itoa n).toArray⟩) := Lib.hid (by rw [dec_neg hle, hq, hd, hmm, ← ba_app])
    obtain ⟨S, hSS⟩ : ∃ S, ByteArray.mk (Lib.itoa m).toArray = S := ⟨_, rfl⟩
    obtain ⟨S2, hSS2⟩ : ∃ S, ByteArray.mk (Lib.itoa q).toArray = S := ⟨_, rfl⟩
    rw [hSS] at HIM HS
    rw [hSS2] at HIQ HS
    have hSl : S.size ≤ 21 := by rw [← hSS, ba_len]; exact hl
    have hSl2 : S2.size ≤ 21 := by rw [← hSS2, ba_len]; exact hl2
    have hsub : wrap64 (-d) = m := by unfold wrap64; unfold I64 at hmi; omega
    have hsq : wrap64 q = q := by unfold wrap64; unfold I64 at hqi; omega
    clear hn ih hl hSS hSS2 hl2 hqv hdv hmm
    have tok1 : True := trivial
    go_enter Tryd.func35, Tryd.ntmps35
    go_wp2_with (first | (go_at_call 35; clear tok1; go_must (refine (HIQ.out _).mono ?_; rintro e w2 ⟨rfl, hb2⟩)) | (go_at_call 35; go_must (refine (HIM.out _).mono ?_; rintro e w3 ⟨rfl, hb3⟩)))
    go_ret
    exact ⟨ret_str HS.out, by repeat (first | with_reducible exact Later.refl _ | with_reducible assumption | with_reducible refine Later.ofdrew ?_ | with_reducible refine Later.ofdrewN ?_ | with_reducible refine Later.setCell ?_ ?_ _ | with_reducible refine Later.alloc ?_ _ | with_reducible refine Later.drewN ?_ _ | with_reducible refine Later.drew ?_ | (with_reducible refine Later.trans ?_ (by assumption)) | (simp only [World.size_setCell, World.size_alloc, World.heap_drewN]; omega) | (simp; done) | (simp; omega))⟩
theorem rdec_any (n : Int) (h : I64 n) (w : World) : Calls Tryd.prog 35 #[.int .i64 n] w fun e w' => e = .returned (.string ⟨(Lib.itoa n).toArray⟩) ∧ Later w w' := by
  unfold I64 at h
  by_cases h0 : 0 ≤ n
  · exact rdec_pos n.toNat n w (by omega) h.2
  · exact rdec_neg n.natAbs n w (by omega) (by omega) h.1

end Go.Proofs.YtckeaibamgkegaaDoor
