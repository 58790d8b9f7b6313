/- ratios as texts: the reference's Number -/
import Derived.Test.YtckeaibamgkegaaDoorLib
set_option linter.all false
namespace Go.Proofs.YtckeaibamgkegaaDoor
open Go.RowKit
set_option maxRecDepth 100000

/-- The digits among a text's first bytes, as a number. -/
def pvD (w : List UInt8) (i : Nat) : Nat := valD 0 ((w.take i).filter digB)
theorem pvD_step {w : List UInt8} {i : Nat} (h : i < w.length) : pvD w (i + 1) = if digB w[i] = true then pvD w i * 10 + ((w[i]).toNat - 48) else pvD w i := by
  unfold pvD
  rw [List.take_add_one, List.getElem?_eq_getElem h, Option.toList_some, List.filter_append]
  by_cases hd : digB w[i] = true
  · rw [if_pos hd, List.filter_cons_of_pos hd, List.filter_nil, valD_snoc]
  · rw [if_neg hd, List.filter_cons_of_neg hd, List.filter_nil, List.append_nil]
theorem pvD_le (w : List UInt8) (i : Nat) : pvD w i ≤ valD 0 (w.filter digB) := by
  have e : w.filter digB = (w.take i).filter digB ++ (w.drop i).filter digB := by rw [← List.filter_append, List.take_append_drop]
  rw [e, valD_app]
  exact valD_ge _ _
theorem itoa_shape {n : Int} (h : -9223372036854775808 ≤ n ∧ n ≤ 9223372036854775807) :
    (Lib.itoa n).filter digB = Lib.decDigits n.natAbs ∧ (∀ i (hi : i < (Lib.itoa n).length), digB (Lib.itoa n)[i] = true ∨ (i = 0 ∧ n < 0 ∧ (Lib.itoa n)[i] = 45)) ∧ ((0 ≤ n ∧ ∀ (hi : 0 < (Lib.itoa n).length), digB (Lib.itoa n)[0] = true) ∨ (n < 0 ∧ ∀ (hi : 0 < (Lib.itoa n).length), (Lib.itoa n)[0] = 45)) := by
  have hf : ∀ u, (Lib.decDigits u).filter digB = Lib.decDigits u := fun u => List.filter_eq_self.2 (fun c hc => List.all_eq_true.1 (dec_all u) c hc)
  by_cases h0 : 0 ≤ n
  · have e : Lib.itoa n = Lib.decDigits n.natAbs := by unfold Lib.itoa; rw [if_neg (by omega)]; congr 1; omega
    rw [e]
    exact ⟨hf _, fun i hi => .inl (List.all_eq_true.1 (dec_all _) _ (List.getElem_mem hi)), .inl ⟨h0, fun hi => List.all_eq_true.1 (dec_all _) _ (List.getElem_mem hi)⟩⟩
  · have e : Lib.itoa n = 45 :: Lib.decDigits n.natAbs := by unfold Lib.itoa; rw [if_pos (by omega)]
    rw [e]
    refine ⟨?_, fun i hi => ?_, .inr ⟨by omega, fun _ => rfl⟩⟩
    · rw [List.filter_cons_of_neg (by decide)]; exact hf _
    · cases i with
      | zero => exact .inr ⟨rfl, by omega, rfl⟩
      | succ i => exact .inl (by rw [List.getElem_cons_succ]; exact List.all_eq_true.1 (dec_all _) _ (List.getElem_mem _))
theorem i64_wrap64 (x : Int) : I64 (wrap64 x) := by unfold I64 wrap64; omega
theorem ret_ib2 {a b : Int} {c d : Bool} (h1 : a = b) (h2 : c = d) : Ending.returned (.tuple #[.int .i64 a, .bool c]) = .returned (.tuple #[.int .i64 b, .bool d]) := by rw [h1, h2]

set_option maxHeartbeats 4000000 in
theorem num_no (S : ByteArray) (hS : S.size ≤ 1000) (hno : ∀ n, I64 n → S.data.toList ≠ Lib.itoa n) (w : World) :
    Calls Tryd.prog 36 #[.string S] w fun e w' => (∃ m, e = .returned (.tuple #[.int .i64 m, .bool false]) ∧ I64 m) ∧ Later w w' := by
  have HNE : Hid (∀ n, I64 n → (Lib.itoa n == S.toList) = false) := Lib.hid (fun n hn => by
    rw [beq_eq_false_iff_ne]
    intro e
    rw [ByteArray.toList_eq] at e
    exact hno n hn e.symm)
  clear hno
  have h00 : I64 0 := ⟨by decide, by decide⟩
  by_cases h20 : 20 < S.size
  · have h20I : (20 : Int) < S.size := by omega
    clear HNE
    go_enter Tryd.func36, Tryd.ntmps36
    go_wp2
    go_ret2
    exact ⟨⟨0, rfl, h00⟩, Later.refl _⟩
  by_cases h0 : S.size = 0
  · have hS0 : S = ⟨#[]⟩ := ByteArray.ext (Array.eq_empty_of_size_eq_zero h0)
    subst hS0
    clear HNE
    go_enter Tryd.func36, Tryd.ntmps36
    go_wp2
    go_ret2
    exact ⟨⟨0, rfl, h00⟩, Later.refl _⟩
  have h20I : ¬ ((20 : Int) < S.size) := by omega
  have hp : 0 < S.size := by omega
  have he1 : (S.toList == (ByteArray.mk #[]).toList) = false := by
    rw [beq_eq_false_iff_ne]
    intro e
    rw [ByteArray.toList_eq, ByteArray.toList_eq] at e
    have h2 : S.data.size = 0 := by rw [← Array.length_toList, e]; rfl
    have h3 : S.size = S.data.size := rfl
    omega
  have he2 : S.toList ≠ [] := by
    intro e
    rw [ByteArray.toList_eq] at e
    have h2 : S.data.size = 0 := by rw [← Array.length_toList, e]; rfl
    have h3 : S.size = S.data.size := rfl
    omega
  have he3 : S.toList.isEmpty = false := by cases h : S.toList with | nil => exact absurd h he2 | cons _ _ => rfl
  clear h20 h0
  go_enter Tryd.func36, Tryd.ntmps36
  go_wp2
  go_loop [4, 5] (fun s4 s5 => ∃ (i : Nat) (m : Int), i ≤ S.size ∧ s5 = .int .i64 i ∧ s4 = .int .i64 m ∧ Hid (I64 m)) (fun _ s5 => S.size - (intOf s5).toNat)
  case atStart => exact ⟨0, 0, Nat.zero_le _, rfl, rfl, Lib.hid h00⟩
  case round =>
    obtain ⟨i, m, hi, rfl, rfl, HM⟩ := hrel
    by_cases hlt : i < S.size
    · have hltI : (i : Int) < S.size := by omega
      go_wp2
      all_goals first
        | (go_ret2
           exact ⟨⟨0, rfl, h00⟩, Later.refl _⟩)
        | (go_round
           case rel => first
             | exact ⟨1, m, by omega, rfl, rfl, HM⟩
             | exact ⟨1, _, by omega, rfl, rfl, Lib.hid (i64_wrap64 _)⟩
             | exact ⟨i + 1, m, by omega, by go_num, rfl, HM⟩
             | exact ⟨i + 1, _, by omega, by go_num, rfl, Lib.hid (i64_wrap64 _)⟩
           case measure => simp [intOf]; omega)
    · have hge : ¬ ((i : Int) < S.size) := by omega
      by_cases hc : S[0] = 45
      · have hc1 : ((S[0].toNat : Int) == 45) = true := by rw [beq_iff_eq, hc]; rfl
        have hc2 : ((S[0].toNat : Int) != 45) = false := by rw [bne_eq_false_iff_eq, hc]; rfl
        have hq := HNE.out m HM.out
        have HD := Lib.hid (fun W => rdec_any m HM.out W)
        clear HNE hc
        go_wp2_with (go_at_call 35; go_must (refine (HD.out _).mono ?_; rintro e w3 ⟨rfl, hb3⟩))
        go_ret2
        exact ⟨⟨m, ret_ib2 rfl (by first | rfl | exact hq), HM.out⟩, by repeat (first | with_reducible exact Later.refl _ | with_reducible assumption | with_reducible refine Later.ofdrew ?_ | with_reducible refine Later.ofdrewN ?_ | with_reducible refine Later.setCell ?_ ?_ _ | with_reducible refine Later.alloc ?_ _ | with_reducible refine Later.drewN ?_ _ | with_reducible refine Later.drew ?_ | (with_reducible refine Later.trans ?_ (by assumption)) | (simp only [World.size_setCell, World.size_alloc, World.heap_drewN]; omega) | (simp; done) | (simp; omega))⟩
      · have hc0 : (S[0].toNat : Int) ≠ 45 := by
          intro e
          exact hc (UInt8.toNat_inj.1 (by show S[0].toNat = 45; omega))
        have hc1 : ((S[0].toNat : Int) == 45) = false := by rw [beq_eq_false_iff_ne]; exact hc0
        have hc2 : ((S[0].toNat : Int) != 45) = true := by rw [bne_iff_ne]; exact hc0
        obtain ⟨k, hk⟩ : ∃ k, wrap64 (-m) = k := ⟨_, rfl⟩
        have hki : I64 k := by rw [← hk]; exact i64_wrap64 _
        have hq := HNE.out k hki
        have HD := Lib.hid (fun W => rdec_any k hki W)
        have HK := Lib.hid hki
        clear HNE hc hc0 hki HM
        go_wp2_with (go_at_call 35; go_must (refine (HD.out _).mono ?_; rintro e w3 ⟨rfl, hb3⟩))
        go_ret2
        exact ⟨⟨k, ret_ib2 rfl (by first | rfl | exact hq), HK.out⟩, by repeat (first | with_reducible exact Later.refl _ | with_reducible assumption | with_reducible refine Later.ofdrew ?_ | with_reducible refine Later.ofdrewN ?_ | with_reducible refine Later.setCell ?_ ?_ _ | with_reducible refine Later.alloc ?_ _ | with_reducible refine Later.drewN ?_ _ | with_reducible refine Later.drew ?_ | (with_reducible refine Later.trans ?_ (by assumption)) | (simp only [World.size_setCell, World.size_alloc, World.heap_drewN]; omega) | (simp; done) | (simp; omega))⟩

set_option maxHeartbeats 4000000 in
theorem num_yes (n : Int) (hn : I64 n) (w : World) :
    Calls Tryd.prog 36 #[.string ⟨(Lib.itoa n).toArray⟩] w fun e w' => e = .returned (.tuple #[.int .i64 n, .bool true]) ∧ Later w w' := by
  obtain ⟨hl20, hne⟩ := itoa_20 hn
  obtain ⟨hfil, hdig, hsg⟩ := itoa_shape hn
  have hstep := fun i (h : i < (Lib.itoa n).length) => pvD_step h
  have hle := fun i => pvD_le (Lib.itoa n) i
  rw [hfil, dec_val] at hle
  have hend : pvD (Lib.itoa n) (Lib.itoa n).length = n.natAbs := by unfold pvD; rw [List.take_length, hfil, dec_val]
  have hzero : pvD (Lib.itoa n) 0 = 0 := rfl
  have HD := Lib.hid (fun W => rdec_any n hn W)
  obtain ⟨S, hS⟩ : ∃ S, ByteArray.mk (Lib.itoa n).toArray = S := ⟨_, rfl⟩
  have hsz : S.size = (Lib.itoa n).length := by rw [← hS, ba_len]
  have hget : ∀ i (h : i < S.size) (h' : i < (Lib.itoa n).length), S[i] = (Lib.itoa n)[i] := fun i h h' => by subst hS; rfl
  rw [hS] at HD ⊢
  have hpos : 0 < S.size := by rw [hsz]; exact List.length_pos_iff.2 hne
  have hu : n.natAbs ≤ 9223372036854775808 := by unfold I64 at hn; omega
  have HST : Hid (∀ i (h : i < S.size), (digB S[i] = true ∧ 48 ≤ (S[i].toNat : Int) ∧ (S[i].toNat : Int) ≤ 57 ∧ pvD (Lib.itoa n) (i + 1) = pvD (Lib.itoa n) i * 10 + (S[i].toNat - 48) ∧ ((i : Int) = 0 → (S[i].toNat : Int) ≠ 45)) ∨ (i = 0 ∧ (S[i].toNat : Int) = 45 ∧ pvD (Lib.itoa n) (i + 1) = pvD (Lib.itoa n) i)) := Lib.hid (fun i h => by
    have h' : i < (Lib.itoa n).length := by rw [← hsz]; exact h
    have hg := hget i h h'
    rcases hdig i h' with hd | ⟨h0, h1, h2⟩
    · refine .inl ?_
      have hd' := of_decide_eq_true hd
      rw [hg]
      have hs := hstep i h'
      rw [if_pos hd] at hs
      exact ⟨hd, by omega, by omega, hs, fun _ => by omega⟩
    · refine .inr ⟨h0, by rw [hg, h2]; rfl, ?_⟩
      have hs := hstep i h'
      rw [h2, if_neg (by decide)] at hs
      exact hs)
  have HSG : Hid ((0 ≤ n ∧ (S[0].toNat : Int) ≠ 45) ∨ (n < 0 ∧ (S[0].toNat : Int) = 45)) := Lib.hid (by
    have h' : 0 < (Lib.itoa n).length := by omega
    have hg := hget 0 hpos h'
    rw [hg]
    rcases hsg with ⟨h1, h2⟩ | ⟨h1, h2⟩
    · have := of_decide_eq_true (h2 h')
      exact .inl ⟨h1, by omega⟩
    · exact .inr ⟨h1, by rw [h2 h']; rfl⟩)
  have HLE := Lib.hid hle
  have HEND : Hid (pvD (Lib.itoa n) S.size = n.natAbs) := Lib.hid (by rw [hsz]; exact hend)
  have hS20 : S.size ≤ 20 := by rw [hsz]; exact hl20
  have HZ := Lib.hid hzero
  have hn2 : n ≤ 9223372036854775807 := hn.2
  clear hl20 hne hfil hdig hsg hstep hle hend hzero hS hsz hget hn
  generalize pvD (Lib.itoa n) = pv at *
  have he1 : (S.toList == (ByteArray.mk #[]).toList) = false := by
    rw [beq_eq_false_iff_ne]
    intro e
    rw [ByteArray.toList_eq, ByteArray.toList_eq] at e
    have h2 : S.data.size = 0 := by rw [← Array.length_toList, e]; rfl
    have h3 : S.size = S.data.size := rfl
    omega
  have he2 : S.toList ≠ [] := by
    intro e
    rw [ByteArray.toList_eq] at e
    have h2 : S.data.size = 0 := by rw [← Array.length_toList, e]; rfl
    have h3 : S.size = S.data.size := rfl
    omega
  have he3 : S.toList.isEmpty = false := by cases h : S.toList with | nil => exact absurd h he2 | cons _ _ => rfl
  have h20I : ¬ ((20 : Int) < S.size) := by omega
  go_enter Tryd.func36, Tryd.ntmps36
  go_wp2
  go_loop [4, 5] (fun s4 s5 => ∃ (i : Nat) (m : Int), i ≤ S.size ∧ s5 = .int .i64 i ∧ s4 = .int .i64 m ∧ Hid (m = -(pv i : Int))) (fun _ s5 => S.size - (intOf s5).toNat)
  case atStart => exact ⟨0, 0, Nat.zero_le _, rfl, rfl, Lib.hid (by rw [HZ.out]; rfl)⟩
  case round =>
    obtain ⟨i, m, hi, rfl, rfl, HM⟩ := hrel
    by_cases hlt : i < S.size
    · have hltI : (i : Int) < S.size := by omega
      have hm := HM.out
      have hle1 := HLE.out (i + 1)
      rcases HST.out i hlt with ⟨-, h1, h2, h3, h4⟩ | ⟨h1, h2, h3⟩
      · have hb1 : -922337203685477580 ≤ m := by omega
        have hb2 : m ≤ 0 := by omega
        have hb3 : -9223372036854775808 ≤ 10 * m - ((S[i].toNat : Int) - 48) := by omega
        have HN : Hid (10 * m - ((S[i].toNat : Int) - 48) = -(pv (i + 1) : Int)) := Lib.hid (by omega)
        have hg1 : ¬ ((S[i].toNat : Int) < 48) := by omega
        have hg2 : ¬ (57 < (S[i].toNat : Int)) := by omega
        by_cases hi0 : i = 0
        · have h5 : ((S[0].toNat : Int) == 45) = false := by subst hi0; rw [beq_eq_false_iff_ne]; exact h4 rfl
          have hi0b : ((i : Int) == 0) = true := by rw [beq_iff_eq]; omega
          clear hm hle1 h3 h4 HLE HST HM HSG HD
          subst hi0
          go_wp2
          all_goals
            go_round
            case rel => exact ⟨1, _, by omega, rfl, rfl, Lib.hid (by exact HN.out)⟩
            case measure => simp [intOf]; omega
        · have hi0b : ((i : Int) == 0) = false := by rw [beq_eq_false_iff_ne]; omega
          clear hm hle1 h3 h4 HLE HST HM HSG HD
          go_wp2
          all_goals
            go_round
            case rel => exact ⟨i + 1, _, by omega, by go_num, rfl, Lib.hid (by exact HN.out)⟩
            case measure => simp [intOf]; omega
      · have HN : Hid (m = -(pv (i + 1) : Int)) := Lib.hid (by rw [h3]; exact hm)
        subst h1
        have h5 : ((S[0].toNat : Int) == 45) = true := by rw [beq_iff_eq]; exact h2
        clear hm hle1 h3 HLE HST HM HSG HD
        go_wp2
        go_round
        case rel => exact ⟨1, m, by omega, rfl, rfl, Lib.hid (by exact HN.out)⟩
        case measure => simp [intOf]; omega
    · have hge : ¬ ((i : Int) < S.size) := by omega
      have hiS : i = S.size := by omega
      have hm := HM.out
      rw [hiS, HEND.out] at hm
      rcases HSG.out with ⟨h1, h2⟩ | ⟨h1, h2⟩
      · have hc1 : ((S[0].toNat : Int) == 45) = false := by rw [beq_eq_false_iff_ne]; exact h2
        have hc2 : ((S[0].toNat : Int) != 45) = true := by rw [bne_iff_ne]; exact h2
        obtain rfl : m = -n := by omega
        have hk : wrap64 n = n := by unfold wrap64; omega
        have hk2 : wrap64 (- -n) = n := by unfold wrap64; omega
        clear hm HLE HST HM HSG h2
        go_wp2_with (go_at_call 35; go_must (refine (HD.out _).mono ?_; rintro e w3 ⟨rfl, hb3⟩))
        go_ret2
        exact ⟨rfl, by repeat (first | with_reducible exact Later.refl _ | with_reducible assumption | with_reducible refine Later.ofdrew ?_ | with_reducible refine Later.ofdrewN ?_ | with_reducible refine Later.setCell ?_ ?_ _ | with_reducible refine Later.alloc ?_ _ | with_reducible refine Later.drewN ?_ _ | with_reducible refine Later.drew ?_ | (with_reducible refine Later.trans ?_ (by assumption)) | (simp only [World.size_setCell, World.size_alloc, World.heap_drewN]; omega) | (simp; done) | (simp; omega))⟩
      · have hc1 : ((S[0].toNat : Int) == 45) = true := by rw [beq_iff_eq]; exact h2
        have hc2 : ((S[0].toNat : Int) != 45) = false := by rw [bne_eq_false_iff_eq]; exact h2
        obtain rfl : m = n := by omega
        clear hm HLE HST HM HSG h2
        go_wp2_with (go_at_call 35; go_must (refine (HD.out _).mono ?_; rintro e w3 ⟨rfl, hb3⟩))
        go_ret2
        exact ⟨rfl, by repeat (first | with_reducible exact Later.refl _ | with_reducible assumption | with_reducible refine Later.ofdrew ?_ | with_reducible refine Later.ofdrewN ?_ | with_reducible refine Later.setCell ?_ ?_ _ | with_reducible refine Later.alloc ?_ _ | with_reducible refine Later.drewN ?_ _ | with_reducible refine Later.drew ?_ | (with_reducible refine Later.trans ?_ (by assumption)) | (simp only [World.size_setCell, World.size_alloc, World.heap_drewN]; omega) | (simp; done) | (simp; omega))⟩
end Go.Proofs.YtckeaibamgkegaaDoor
