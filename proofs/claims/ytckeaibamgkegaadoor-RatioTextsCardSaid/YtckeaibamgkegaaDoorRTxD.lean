/- ratios as texts: the reference's Parse -/
import Derived.Test.YtckeaibamgkegaaDoorRTxB
import Derived.Test.YtckeaibamgkegaaDoorRTxC
set_option linter.all false
namespace Go.Proofs.YtckeaibamgkegaaDoor
open Go.RowKit
set_option maxRecDepth 100000

theorem num_any (s : List UInt8) (hs : s.length ≤ 1000) (w : World) :
    Calls Tryd.prog 36 #[.string ⟨s.toArray⟩] w fun e w' => ∃ m ok, e = .returned (.tuple #[.int .i64 m, .bool ok]) ∧ I64 m ∧ ((ok = true ∧ s = Lib.itoa m) ∨ (ok = false ∧ ∀ n, I64 n → s ≠ Lib.itoa n)) ∧ Later w w' := by
  by_cases h : ∃ n, I64 n ∧ s = Lib.itoa n
  · obtain ⟨n, hn, rfl⟩ := h
    refine (num_yes n hn w).mono ?_
    rintro e w' ⟨rfl, hb⟩
    exact ⟨n, true, rfl, hn, .inl ⟨rfl, rfl⟩, hb⟩
  · have hno : ∀ n, I64 n → s ≠ Lib.itoa n := fun n hn e => h ⟨n, hn, e⟩
    refine (num_no ⟨s.toArray⟩ (by rw [ba_len]; exact hs) (fun n hn e => hno n hn (by simpa using e)) w).mono ?_
    rintro e w' ⟨⟨m, rfl, hm⟩, hb⟩
    exact ⟨m, false, rfl, hm, .inr ⟨rfl, hno⟩, hb⟩
/-- What the two parts of a text are, and what follows. -/
theorem RP_bad2 {s A B : List UInt8} (h : (s = A ++ 47 :: B ∧ 47 ∉ A) ∨ (s = A ∧ (47 : UInt8) ∉ A ∧ B = [49]))
    (hb : (∀ n, I64 n → A ≠ Lib.itoa n) ∨ (∀ n, I64 n → B ≠ Lib.itoa n) ∨ ∃ v u, I64 v ∧ I64 u ∧ A = Lib.itoa v ∧ B = Lib.itoa u ∧ (chkE v u ≠ 0 ∨ textR v u ≠ s)) : RP s 0 0 13 := by
  refine .inr ⟨rfl, rfl, rfl, fun n d hn hd hc e => ?_⟩
  obtain ⟨hA, hB⟩ := cut_key2 h e
  rcases hb with hb | hb | ⟨v, u, h1, h2, h3, h4, h5⟩
  · exact hb n hn hA
  · exact hb d hd hB
  · obtain rfl := itoa_inj h1 hn (h3.symm.trans hA)
    obtain rfl := itoa_inj h2 hd (h4.symm.trans hB)
    rcases h5 with h5 | h5
    · exact h5 hc
    · exact h5 e.symm
theorem ba_get {s : List UInt8} {i : Nat} (h : i < s.length) (h' : i < (ByteArray.mk s.toArray).size) : (ByteArray.mk s.toArray)[i] = s[i] := rfl

set_option maxHeartbeats 4000000 in
theorem rrparse_any (s : List UInt8) (hs : s.length ≤ 1000) (w : World) :
    Calls Tryd.prog 14 #[.string ⟨s.toArray⟩] w fun e w' => (∃ n d er, e = .returned (.tuple #[.agg #[.int .i64 n, .int .i64 d], .int .i64 er]) ∧ RP s n d er) ∧ Later w w' := by
  obtain ⟨S, hS⟩ : ∃ S, ByteArray.mk s.toArray = S := ⟨_, rfl⟩
  have hsz : S.size = s.length := by rw [← hS, ba_len]
  have hget : ∀ i (h : i < S.size) (h' : i < s.length), S[i] = s[i] := fun i h h' => by subst hS; rfl
  have hs1 : S.size ≤ 1000 := by omega
  rw [hS]
  -- where the first stroke stands
  obtain ⟨p, hp, hp1, hp2⟩ : ∃ p, p ≤ s.length ∧ (∀ j (h : j < s.length), j < p → s[j] ≠ 47) ∧ (∀ h : p < s.length, s[p] = 47) := by
    rcases split_first s 47 with hn | ⟨a, b, rfl, hn⟩
    · exact ⟨s.length, Nat.le_refl _, fun j h _ e => hn (e ▸ List.getElem_mem h), fun h => absurd h (Nat.lt_irrefl _)⟩
    · refine ⟨a.length, by simp, fun j h hj e => ?_, fun h => by simp⟩
      rw [List.getElem_append_left hj] at e
      exact hn (e ▸ List.getElem_mem hj)
  have HP1 : Hid (∀ j (h : j < S.size), j < p → ((S[j].toNat : Int) == 47) = false) := Lib.hid (fun j h hj => by
    rw [beq_eq_false_iff_ne]
    intro e
    refine hp1 j (by omega) hj ?_
    rw [← hget j h (by omega)]
    exact UInt8.toNat_inj.1 (by show S[j].toNat = 47; omega))
  have HP2 : Hid (∀ h : p < S.size, ((S[p].toNat : Int) == 47) = true) := Lib.hid (fun h => by
    rw [beq_iff_eq, hget p h (by omega), hp2 (by omega)]; rfl)
  have hAB : (p < s.length ∧ s = s.take p ++ 47 :: s.drop (p + 1)) ∨ (p = s.length ∧ s = s.take p) := by
    rcases Nat.lt_or_ge p s.length with h | h
    · refine .inl ⟨h, ?_⟩
      have := List.drop_eq_getElem_cons h
      rw [hp2 h] at this
      rw [← this, List.take_append_drop]
    · exact .inr ⟨by omega, by rw [List.take_of_length_le (by omega)]⟩
  have hA47 : (47 : UInt8) ∉ s.take p := fun hm => by
    obtain ⟨j, hj, e⟩ := List.getElem_of_mem hm
    rw [List.length_take] at hj
    rw [List.getElem_take] at e
    exact hp1 j (by omega) (by omega) e
  rw [← hsz] at hp
  have HA := Lib.hid (fun W => num_any (s.take p) (by rw [List.length_take]; omega) W)
  have HB := Lib.hid (fun W => num_any (s.drop (p + 1)) (by rw [List.length_drop]; omega) W)
  have eA : ByteArray.mk (s.take p).toArray = S.extract 0 p := ByteArray.ext (Array.toList_inj.1 (by rw [Lib.extract_data, ← hS]; try simp))
  have eB : ByteArray.mk (s.drop (p + 1)).toArray = S.extract (p + 1) S.size := ByteArray.ext (Array.toList_inj.1 (by
    rw [Lib.extract_data, ← hS, List.take_of_length_le (by simp [ba_len])]; try simp))
  rw [eA] at HA
  rw [eB] at HB
  have HPR := Lib.hid (fun n d hn hd W => rrprint_any n d hn hd W)
  have HCK := Lib.hid (fun n d (hn : I64 n) (hd : I64 d) W => qcheck_any n d W hn.1 hn.2 hd.1 hd.2)
  have HSS := Lib.hid hS
  have HAB := Lib.hid hAB
  have HA47 := Lib.hid hA47
  have HSZ := Lib.hid hsz
  clear hget hp1 hp2 hAB hA47 eA eB hS hsz hs
  go_enter Tryd.func14, Tryd.ntmps14
  go_upto_block 0 with (fail)
  refine wp_opaque (fun W1 hb1 => ?_)
  have HO1 := Lib.hid (Own.one hb1)
  have hw1 := hb1.un1
  clear hb1
  go_cut [4] (fun s4 wx => s4 = .int .i64 p ∧ wx = W1)
  case first =>
    go_wp2_with fail
    go_loop [4, 5] (fun s4 s5 => ∃ i : Nat, i ≤ S.size ∧ s5 = .int .i64 i ∧ s4 = .int .i64 ((if p < i then p else S.size : Nat) : Int)) (fun _ s5 => S.size - (intOf s5).toNat)
    case atStart => exact ⟨0, Nat.zero_le _, rfl, by rw [if_neg (Nat.not_lt_zero _)]⟩
    case round =>
      obtain ⟨i, hi, rfl, rfl⟩ := hrel
      by_cases hlt : i < S.size
      · have hltI : (i : Int) < S.size := by omega
        rcases Nat.lt_trichotomy i p with h | h | h
        · have h1 := HP1.out i hlt h
          have hn1 : ¬ (p < i) := by omega
          have hn2 : ¬ (p < i + 1) := by omega
          rw [if_neg hn1]
          clear HP1 HP2
          go_wp2
          go_round
          case rel => exact ⟨i + 1, by omega, by go_num, by rw [if_neg hn2]⟩
          case measure => simp [intOf]; omega
        · subst h
          have h1 := HP2.out hlt
          have hn1 : ¬ (i < i) := by omega
          have hn2 : i < i + 1 := by omega
          rw [if_neg hn1]
          clear HP1 HP2
          go_wp2
          go_round
          case rel => exact ⟨i + 1, by omega, by go_num, by rw [if_pos hn2]⟩
          case measure => simp [intOf]; omega
        · have hn2 : p < i + 1 := by omega
          have hpS : ((p : Int) == (S.size : Int)) = false := by rw [beq_eq_false_iff_ne]; omega
          rw [if_pos h]
          clear HP1 HP2
          by_cases hc : ((S[i].toNat : Int) == 47) = true
          · go_wp2
            go_round
            case rel => exact ⟨i + 1, by omega, by go_num, by rw [if_pos hn2]⟩
            case measure => simp [intOf]; omega
          · have hc' : ((S[i].toNat : Int) == 47) = false := by simpa using hc
            clear hc
            go_wp2
            go_round
            case rel => exact ⟨i + 1, by omega, by go_num, by rw [if_pos hn2]⟩
            case measure => simp [intOf]; omega
      · have hiS : i = S.size := by omega
        have he : (if p < i then p else S.size) = p := by split <;> omega
        have hge : ¬ ((i : Int) < S.size) := by omega
        rw [he]
        clear HP1 HP2 he
        go_wp2
        go_meet
        exact ⟨rfl, rfl⟩
  case rest =>
  obtain ⟨rfl, rfl⟩ := hcut
  clear HP1 HP2
  by_cases hpL : p < S.size
  · have hpI : (p : Int) < S.size := by omega
    have HP : Hid ((s = s.take p ++ 47 :: s.drop (p + 1) ∧ 47 ∉ s.take p) ∨ (s = s.take p ∧ (47 : UInt8) ∉ s.take p ∧ s.drop (p + 1) = [49])) := Lib.hid (by
      rcases HAB.out with ⟨_, h⟩ | ⟨h, _⟩
      · exact .inl ⟨h, HA47.out⟩
      · rw [HSZ.out] at hpL; omega)
    clear HAB HA47 HSZ
    generalize s.take p = A at *
    generalize s.drop (p + 1) = B at *
    have tok1 : True := trivial
    go_upto_region 10 with (fail)
    refine wp_opaque (fun W2 hb2 => ?_)
    have hO2 := Own.one hb2
    have hw2 : Later wc W2 := hb2.un1
    have HOR := Lib.hid (HO1.out.later hw2)
    have hwg : w.heap.size < wc.heap.size := HO1.out.1.1
    have hw2' : Later w W2 := hw1.trans hw2
    have HO2 := Lib.hid hO2
    clear hO2 hb2 HO1 hw1 hw2
    generalize wc.heap.size = g at *
    have hfar : ∀ z : Nat × Array Value, z ∈ [(w.heap.size, #[Value.int .i64 0, .int .i64 0])] → z.1 ≠ g := by
      intro z hz; simp only [List.mem_cons, List.not_mem_nil, or_false] at hz; subst hz; simp; omega
    have HFAR := Lib.hid hfar
    clear hfar
    go_upto_region 11 with (go_at_call 36; go_must (refine (HA.out _).mono ?_; rintro e w5 ⟨v1, ok1, rfl, hv1, hc1, hb5⟩; have HC1 := Lib.hid hc1; clear hc1; obtain ⟨⟨zC, dC, fC⟩, -⟩ := HO2.out.later hb5))
    refine wp_opaque (fun W3 hb3 => ?_)
    have hO3 : Own W3 [(g, #[.int .i64 v1, .int .i64 1])] := Own.later (Own.cons (by simpa using zC) (fun i => set_own dC _ (by simp) i) (fun i hi => set_frozen (n := 2) fC _ i hi) trivial) hb3
    have hOR3 := ((HOR.out.later hb5).set_far (b := g) (k := 0) (x := .int .i64 v1) HFAR.out).later hb3
    have hw3 : Later w W3 := ((hw2'.trans hb5).putCell (by omega) _).trans hb3
    have HO3 := Lib.hid hO3
    have HOR3 := Lib.hid hOR3
    clear hb3 hb5 zC dC fC HO2 HOR hO3 hOR3 hw2' HA
    go_upto_region 13 with (go_at_call 36; go_must (refine (HB.out _).mono ?_; rintro e w6 ⟨v2, ok2, rfl, hv2, hc2, hb6⟩; have HC2 := Lib.hid hc2; clear hc2; obtain ⟨⟨zC, dC, fC⟩, -⟩ := HO3.out.later hb6))
    refine wp_opaque (fun W8 hb8 => ?_)
    have hO4 : Own W8 [(g, #[.int .i64 v1, .int .i64 v2])] := Own.later (Own.cons (by simpa using zC) (fun i => set_own dC _ (by simp) i) (fun i hi => set_frozen (n := 2) fC _ i hi) trivial) hb8
    have hOR4 := ((HOR3.out.later hb6).set_far (b := g) (k := 1) (x := .int .i64 v2) HFAR.out).later hb8
    have hw8 : Later w W8 := ((hw3.trans hb6).putCell (by omega) _).trans hb8
    have hO8 : Own W8 [(g, #[.int .i64 v1, .int .i64 v2]), (w.heap.size, #[.int .i64 0, .int .i64 0])] := ⟨hO4.1, hOR4⟩
    clear hb8 hb6 zC dC fC HO3 HOR3 hO4 hOR4 hw3 HB HFAR
    have HO8 := Lib.hid hO8
    obtain ⟨⟨zA, dA, fA⟩, ⟨zB, dB, fB⟩, -⟩ := hO8
    rcases HC1.out with ⟨rfl, ha⟩ | ⟨rfl, ha⟩
    · rcases HC2.out with ⟨rfl, hb⟩ | ⟨rfl, hb⟩
      · have HC := Lib.hid (fun W => HCK.out v1 v2 hv1 hv2 W)
        have HQ := Lib.hid (fun W => HPR.out v1 v2 hv1 hv2 W)
        by_cases hc : chkE v1 v2 = 0
        · rw [hc] at HC
          by_cases ht : textR v1 v2 = s
          · have HRP : Hid (RP s v1 v2 0) := Lib.hid (.inl ⟨rfl, hc, ht.symm, hv1, hv2⟩)
            rw [ht, HSS.out] at HQ
            clear ha hb hc ht HC1 HC2 HSS hv1 hv2 HP HPR HCK
            go_wp2_with (first | (go_at_call 11; go_must (refine (HC.out _).mono ?_; rintro e wq ⟨rfl, hbq⟩; clear zA dA fA zB dB fB; obtain ⟨⟨zA, dA, fA⟩, ⟨zB, dB, fB⟩, -⟩ := HO8.out.later hbq)) | (go_at_call 13; go_must (refine (HQ.out _).mono ?_; rintro e wp ⟨rfl, hbp⟩; clear zA dA fA zB dB fB; obtain ⟨⟨zA, dA, fA⟩, ⟨zB, dB, fB⟩, -⟩ := HO8.out.later (hbq.trans hbp))))
            exact bodyPost_ret (v := .tuple #[.agg #[.int .i64 v1, .int .i64 v2], .int .i64 0]) (by simp [results, Tryd.results14, go_sem, *]) rfl ⟨⟨_, _, _, rfl, HRP.out⟩, ((hw8.trans (hbq.trans hbp)).putCell (by omega) _).putCell (by omega) _⟩
          · have HRP : Hid (RP s 0 0 13) := Lib.hid (RP_bad2 HP.out (.inr (.inr ⟨v1, v2, hv1, hv2, ha, hb, .inr ht⟩)))
            have hq1 : (textR v1 v2 == S.toList) = false := by
              rw [beq_eq_false_iff_ne, ByteArray.toList_eq, ← HSS.out]
              exact fun e => ht (by simpa using e)
            clear ha hb hc ht HC1 HC2 HSS hv1 hv2 HP HPR HCK
            generalize textR v1 v2 = T at *
            go_wp2_with (first | (go_at_call 11; go_must (refine (HC.out _).mono ?_; rintro e wq ⟨rfl, hbq⟩; clear zA dA fA zB dB fB; obtain ⟨⟨zA, dA, fA⟩, ⟨zB, dB, fB⟩, -⟩ := HO8.out.later hbq)) | (go_at_call 13; go_must (refine (HQ.out _).mono ?_; rintro e wp ⟨rfl, hbp⟩; clear zA dA fA zB dB fB; obtain ⟨⟨zA, dA, fA⟩, ⟨zB, dB, fB⟩, -⟩ := HO8.out.later (hbq.trans hbp))))
            exact bodyPost_ret (v := .tuple #[.agg #[.int .i64 0, .int .i64 0], .int .i64 13]) (by simp [results, Tryd.results14, go_sem, *]) rfl ⟨⟨_, _, _, rfl, HRP.out⟩, ((hw8.trans (hbq.trans hbp)).putCell (by omega) _).putCell (by omega) _⟩
        · have HRP : Hid (RP s 0 0 13) := Lib.hid (RP_bad2 HP.out (.inr (.inr ⟨v1, v2, hv1, hv2, ha, hb, .inl hc⟩)))
          have hc2 : (chkE v1 v2 != 0) = true := by rw [bne_iff_ne]; exact hc
          have hc3 : (chkE v1 v2 == 0) = false := by rw [beq_eq_false_iff_ne]; exact hc
          clear ha hb hc HC1 HC2 HSS hv1 hv2 HP HPR HCK HQ
          generalize chkE v1 v2 = c at *
          go_wp2_with (go_at_call 11; go_must (refine (HC.out _).mono ?_; rintro e wq ⟨rfl, hbq⟩; clear zA dA fA zB dB fB; obtain ⟨⟨zA, dA, fA⟩, ⟨zB, dB, fB⟩, -⟩ := HO8.out.later hbq))
          exact bodyPost_ret (v := .tuple #[.agg #[.int .i64 0, .int .i64 0], .int .i64 13]) (by simp [results, Tryd.results14, go_sem, *]) rfl ⟨⟨_, _, _, rfl, HRP.out⟩, ((hw8.trans hbq).putCell (by omega) _).putCell (by omega) _⟩
      · have HRP : Hid (RP s 0 0 13) := Lib.hid (RP_bad2 HP.out (.inr (.inl hb)))
        clear ha hb HC1 HC2 HSS hv1 hv2 HP HPR HCK
        go_wp2
        exact bodyPost_ret (v := .tuple #[.agg #[.int .i64 0, .int .i64 0], .int .i64 13]) (by simp [results, Tryd.results14, go_sem, *]) rfl ⟨⟨_, _, _, rfl, HRP.out⟩, (hw8.putCell (by omega) _).putCell (by omega) _⟩
    · have HRP : Hid (RP s 0 0 13) := Lib.hid (RP_bad2 HP.out (.inl ha))
      clear ha HC1 HC2 HSS hv1 hv2 HP HPR HCK
      go_wp2
      exact bodyPost_ret (v := .tuple #[.agg #[.int .i64 0, .int .i64 0], .int .i64 13]) (by simp [results, Tryd.results14, go_sem, *]) rfl ⟨⟨_, _, _, rfl, HRP.out⟩, (hw8.putCell (by omega) _).putCell (by omega) _⟩
  · have hpI : ¬ ((p : Int) < S.size) := by omega
    have HP : Hid ((s = s.take p ++ 47 :: [49] ∧ 47 ∉ s.take p) ∨ (s = s.take p ∧ (47 : UInt8) ∉ s.take p ∧ [49] = [49])) := Lib.hid (by
      rcases HAB.out with ⟨h, _⟩ | ⟨_, h⟩
      · rw [HSZ.out] at hpL; omega
      · exact .inr ⟨h, HA47.out, rfl⟩)
    clear HAB HA47 HSZ HB
    generalize s.take p = A at *
    have h49 : ([49] : List UInt8) = Lib.itoa 1 := itoa_one.symm
    obtain ⟨B, hB⟩ : ∃ B : List UInt8, [49] = B := ⟨_, rfl⟩
    rw [hB] at h49
    have HP0 := HP.out
    clear HP
    have HP : Hid ((s = A ++ 47 :: B ∧ 47 ∉ A) ∨ (s = A ∧ (47 : UInt8) ∉ A ∧ B = [49])) := Lib.hid (by
      rcases HP0 with ⟨h1, h2⟩ | ⟨h1, h2, _⟩
      · exact .inl ⟨by rw [← hB]; exact h1, h2⟩
      · exact .inr ⟨h1, h2, hB.symm⟩)
    clear HP0 hB
    go_upto_region 10 with (fail)
    refine wp_opaque (fun W2 hb2 => ?_)
    have hO2 := Own.one hb2
    have hw2 : Later wc W2 := hb2.un1
    have HOR := Lib.hid (HO1.out.later hw2)
    have hwg : w.heap.size < wc.heap.size := HO1.out.1.1
    have hw2' : Later w W2 := hw1.trans hw2
    have HO2 := Lib.hid hO2
    clear hO2 hb2 HO1 hw1 hw2
    generalize wc.heap.size = g at *
    have hfar : ∀ z : Nat × Array Value, z ∈ [(w.heap.size, #[Value.int .i64 0, .int .i64 0])] → z.1 ≠ g := by
      intro z hz; simp only [List.mem_cons, List.not_mem_nil, or_false] at hz; subst hz; simp; omega
    have HFAR := Lib.hid hfar
    clear hfar
    go_upto_region 11 with (go_at_call 36; go_must (refine (HA.out _).mono ?_; rintro e w5 ⟨v1, ok1, rfl, hv1, hc1, hb5⟩; have HC1 := Lib.hid hc1; clear hc1; obtain ⟨⟨zC, dC, fC⟩, -⟩ := HO2.out.later hb5))
    refine wp_opaque (fun W3 hb3 => ?_)
    have hO3 : Own W3 [(g, #[.int .i64 v1, .int .i64 1])] := Own.later (Own.cons (by simpa using zC) (fun i => set_own dC _ (by simp) i) (fun i hi => set_frozen (n := 2) fC _ i hi) trivial) hb3
    have hOR3 := ((HOR.out.later hb5).set_far (b := g) (k := 0) (x := .int .i64 v1) HFAR.out).later hb3
    have hw3 : Later w W3 := ((hw2'.trans hb5).putCell (by omega) _).trans hb3
    have HO3 := Lib.hid hO3
    have HOR3 := Lib.hid hOR3
    clear hb3 hb5 zC dC fC HO2 HOR hO3 hOR3 hw2' HA
    go_upto_region 13 with (fail)
    refine wp_opaque (fun W8 hb8 => ?_)
    obtain ⟨v2, hv2e⟩ : ∃ v : Int, 1 = v := ⟨_, rfl⟩
    have hO4 := HO3.out.later hb8
    have hOR4 := HOR3.out.later hb8
    have hw8 : Later w W8 := hw3.trans hb8
    rw [hv2e] at hO4
    have hO8 : Own W8 [(g, #[.int .i64 v1, .int .i64 v2]), (w.heap.size, #[.int .i64 0, .int .i64 0])] := ⟨hO4.1, hOR4⟩
    have hv2 : I64 v2 := by rw [← hv2e]; exact ⟨by decide, by decide⟩
    have hb : B = Lib.itoa v2 := by rw [← hv2e]; exact h49
    clear hb8 HO3 HOR3 hO4 hOR4 hw3 HFAR h49 hv2e
    have HO8 := Lib.hid hO8
    obtain ⟨⟨zA, dA, fA⟩, ⟨zB, dB, fB⟩, -⟩ := hO8
    rcases HC1.out with ⟨rfl, ha⟩ | ⟨rfl, ha⟩
    · have HC := Lib.hid (fun W => HCK.out v1 v2 hv1 hv2 W)
      have HQ := Lib.hid (fun W => HPR.out v1 v2 hv1 hv2 W)
      by_cases hc : chkE v1 v2 = 0
      · rw [hc] at HC
        by_cases ht : textR v1 v2 = s
        · have HRP : Hid (RP s v1 v2 0) := Lib.hid (.inl ⟨rfl, hc, ht.symm, hv1, hv2⟩)
          rw [ht, HSS.out] at HQ
          clear ha hb hc ht HC1 HSS hv1 hv2 HP HPR HCK
          go_wp2_with (first | (go_at_call 11; go_must (refine (HC.out _).mono ?_; rintro e wq ⟨rfl, hbq⟩; clear zA dA fA zB dB fB; obtain ⟨⟨zA, dA, fA⟩, ⟨zB, dB, fB⟩, -⟩ := HO8.out.later hbq)) | (go_at_call 13; go_must (refine (HQ.out _).mono ?_; rintro e wp ⟨rfl, hbp⟩; clear zA dA fA zB dB fB; obtain ⟨⟨zA, dA, fA⟩, ⟨zB, dB, fB⟩, -⟩ := HO8.out.later (hbq.trans hbp))))
          exact bodyPost_ret (v := .tuple #[.agg #[.int .i64 v1, .int .i64 v2], .int .i64 0]) (by simp [results, Tryd.results14, go_sem, *]) rfl ⟨⟨_, _, _, rfl, HRP.out⟩, ((hw8.trans (hbq.trans hbp)).putCell (by omega) _).putCell (by omega) _⟩
        · have HRP : Hid (RP s 0 0 13) := Lib.hid (RP_bad2 HP.out (.inr (.inr ⟨v1, v2, hv1, hv2, ha, hb, .inr ht⟩)))
          have hq1 : (textR v1 v2 == S.toList) = false := by
            rw [beq_eq_false_iff_ne, ByteArray.toList_eq, ← HSS.out]
            exact fun e => ht (by simpa using e)
          clear ha hb hc ht HC1 HSS hv1 hv2 HP HPR HCK
          generalize textR v1 v2 = T at *
          go_wp2_with (first | (go_at_call 11; go_must (refine (HC.out _).mono ?_; rintro e wq ⟨rfl, hbq⟩; clear zA dA fA zB dB fB; obtain ⟨⟨zA, dA, fA⟩, ⟨zB, dB, fB⟩, -⟩ := HO8.out.later hbq)) | (go_at_call 13; go_must (refine (HQ.out _).mono ?_; rintro e wp ⟨rfl, hbp⟩; clear zA dA fA zB dB fB; obtain ⟨⟨zA, dA, fA⟩, ⟨zB, dB, fB⟩, -⟩ := HO8.out.later (hbq.trans hbp))))
          exact bodyPost_ret (v := .tuple #[.agg #[.int .i64 0, .int .i64 0], .int .i64 13]) (by simp [results, Tryd.results14, go_sem, *]) rfl ⟨⟨_, _, _, rfl, HRP.out⟩, ((hw8.trans (hbq.trans hbp)).putCell (by omega) _).putCell (by omega) _⟩
      · have HRP : Hid (RP s 0 0 13) := Lib.hid (RP_bad2 HP.out (.inr (.inr ⟨v1, v2, hv1, hv2, ha, hb, .inl hc⟩)))
        have hc2 : (chkE v1 v2 != 0) = true := by rw [bne_iff_ne]; exact hc
        have hc3 : (chkE v1 v2 == 0) = false := by rw [beq_eq_false_iff_ne]; exact hc
        clear ha hb hc HC1 HSS hv1 hv2 HP HPR HCK HQ
        generalize chkE v1 v2 = c at *
        go_wp2_with (go_at_call 11; go_must (refine (HC.out _).mono ?_; rintro e wq ⟨rfl, hbq⟩; clear zA dA fA zB dB fB; obtain ⟨⟨zA, dA, fA⟩, ⟨zB, dB, fB⟩, -⟩ := HO8.out.later hbq))
        exact bodyPost_ret (v := .tuple #[.agg #[.int .i64 0, .int .i64 0], .int .i64 13]) (by simp [results, Tryd.results14, go_sem, *]) rfl ⟨⟨_, _, _, rfl, HRP.out⟩, ((hw8.trans hbq).putCell (by omega) _).putCell (by omega) _⟩
    · have HRP : Hid (RP s 0 0 13) := Lib.hid (RP_bad2 HP.out (.inl ha))
      clear ha HC1 HSS hv1 hv2 HP HPR HCK
      go_wp2
      exact bodyPost_ret (v := .tuple #[.agg #[.int .i64 0, .int .i64 0], .int .i64 13]) (by simp [results, Tryd.results14, go_sem, *]) rfl ⟨⟨_, _, _, rfl, HRP.out⟩, (hw8.putCell (by omega) _).putCell (by omega) _⟩
end Go.Proofs.YtckeaibamgkegaaDoor
