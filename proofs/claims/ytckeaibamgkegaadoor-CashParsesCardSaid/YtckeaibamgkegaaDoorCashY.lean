/- the reference's Parse: behind a name (under way) -/
import Derived.Test.YtckeaibamgkegaaDoorCashX
set_option linter.all false
namespace Go.Proofs.YtckeaibamgkegaaDoor
open Go.RowKit
set_option maxRecDepth 100000

theorem fits_val {m : Bool} {nn : Nat} {V : List UInt8} (h : nn = valD 0 V) (hf : fitsB m nn = true) : I64 (valM m V) ∧ intV m nn = valM m V := by
  subst h
  unfold intV
  rw [if_pos hf]
  unfold valM
  refine ⟨?_, rfl⟩
  unfold I64
  cases m with
  | true => have := fits_le hf; simp only [if_true]; omega
  | false => have := fits_pos hf; simp only [Bool.false_eq_true, if_false]; omega
theorem unfits_val {m : Bool} {nn : Nat} {V : List UInt8} (h : nn = valD 0 V) (hf : fitsB m nn = false) : ¬ I64 (valM m V) := by
  subst h
  unfold valM I64
  unfold fitsB at hf
  cases m with
  | true => simp at hf; simp only [if_true]; omega
  | false => simp at hf; simp only [Bool.false_eq_true, if_false]; omega
theorem head_ba {l : List UInt8} {S : ByteArray} (hS : ByteArray.mk l.toArray = S) (h : 0 < S.size) : l.head? = some S[0] := by
  subst hS
  cases l with
  | nil => exact absurd h (by decide)
  | cons x r => rfl
theorem of_nat_ba {s : List UInt8} {S : ByteArray} (hS : ByteArray.mk s.toArray = S) : S.data.toList = s := by subst hS; simp
theorem ext_from {s : List UInt8} {S : ByteArray} (hS : ByteArray.mk s.toArray = S) (a : Nat) : S.extract a S.size = ⟨(s.drop a).toArray⟩ := by
  refine ByteArray.ext (Array.toList_inj.1 ?_)
  rw [Lib.extract_data, of_nat_ba hS]
  have hz : S.size = s.length := by rw [← hS, ba_len]
  rw [List.take_of_length_le (by rw [List.length_drop]; omega)]
theorem ext_upto {s : List UInt8} {S : ByteArray} (hS : ByteArray.mk s.toArray = S) (b : Nat) : S.extract 0 b = ⟨(s.take b).toArray⟩ := by
  refine ByteArray.ext (Array.toList_inj.1 ?_)
  rw [Lib.extract_data, of_nat_ba hS]
  simp
theorem name_split {s : List UInt8} {c : Nat} (hc : c < 8) (h3 : s[3]? = some 32) (hn : s.take 3 = nmL c) : s = nmL c ++ 32 :: s.drop 4 := by
  obtain ⟨hlt, he⟩ := List.getElem?_eq_some_iff.1 h3
  have h1 : s.drop 3 = 32 :: s.drop 4 := by rw [List.drop_eq_getElem_cons hlt, he]
  rw [← hn, ← h1, List.take_append_drop]

set_option maxHeartbeats 4000000 in
theorem rcparse_name (s : List UInt8) (hl : s.length ≤ 60) (S : ByteArray) (hS : ByteArray.mk s.toArray = S) (h5 : ¬ s.length < 5) (h3 : s[3]? = some 32) (c : Nat) (hc : c < 8) (hn : nmL c = s.take 3) (w : World) :
    Calls Tryd.prog 19 #[.string S] w fun e w' => RPs s e ∧ Later w w' := by
  have hsz : S.size = s.length := by rw [← hS, ba_len]
  have hI : ¬ ((S.size : Int) < 5) := by omega
  have hI3 : (3 : Int) < S.size := by omega
  have hI3b : (3 : Int) ≤ S.size := by omega
  have hI4 : (4 : Int) ≤ S.size := by omega
  have hlt : 3 < S.size := by omega
  have hne : (S[3].toNat : Int) = 32 := by
    have hg : S[3] = s[3]'(by omega) := by subst hS; rfl
    have h3' := h3
    rw [List.getElem?_eq_getElem (by omega), ← hg] at h3'
    rw [Option.some.inj h3']; rfl
  have hb1 : ((S[3].toNat : Int) == 32) = true := by rw [beq_iff_eq]; exact hne
  have hb2 : ((S[3].toNat : Int) != 32) = false := by rw [bne_eq_false_iff_eq]; exact hne
  have HNE : Hid (nmB c = S.extract 0 3) := Lib.hid (by rw [ext_upto hS]; unfold nmB; rw [hn])
  have HSP := Lib.hid (name_split hc h3 hn.symm)
  obtain ⟨R, hR⟩ : ∃ R, S.extract 4 S.size = R := ⟨_, rfl⟩
  have hR2 : ByteArray.mk (s.drop 4).toArray = R := by rw [← hR, ext_from hS]
  have hRz : R.size = s.length - 4 := by rw [← hR2, ba_len, List.length_drop]
  have HR := Lib.hid hR
  have HR2 := Lib.hid hR2
  have HRI := Lib.hid (fun (i : Nat) (hi : i < 8) W => rname_yes i hi W)
  have HRD := Lib.hid (fun W => rdigits_yes c hc W)
  have HSZ := Lib.hid hsz
  have HL5 : Hid (5 ≤ s.length ∧ s.length ≤ 60) := Lib.hid (by omega)
  have HRZ := Lib.hid hRz
  clear hS hsz h5 h3 hn hne hR hR2 hRz hl
  go_enter Tryd.func19, Tryd.ntmps19
  go_wp2
  go_loopw [5, 6] (fun s5 s6 wr => ∃ (j : Nat) (x : Int), j ≤ 8 ∧ s6 = .int .i64 j ∧ s5 = .int .i64 x ∧ Hid ((x = -1 ∧ j ≤ c) ∨ (x = c ∧ c < j)) ∧ Later w wr) (fun _ s6 _ => 8 - (intOf s6).toNat)
  case atStart => exact ⟨0, -1, Nat.zero_le _, rfl, rfl, Lib.hid (.inl ⟨rfl, Nat.zero_le _⟩), Later.refl _⟩
  case round =>
    obtain ⟨j, x, hj, rfl, rfl, hx, hlat⟩ := hrel
    by_cases hlt8 : j < 8
    · have hI2 : (j : Int) < 8 := by omega
      have HRj := Lib.hid (fun W => HRI.out j hlt8 W)
      by_cases he : nmB j = S.extract 0 3
      · have hjc : j = c := by
          have e := he.trans HNE.out.symm
          unfold nmB at e
          exact nmL_inj hlt8 hc (by have := congrArg (fun b : ByteArray => b.data.toList) e; simpa using this)
        have hx2 : Hid (((j : Nat) : Int) = -1 ∧ j + 1 ≤ c ∨ ((j : Nat) : Int) = c ∧ c < j + 1) := Lib.hid (by omega)
        have ht : ((nmB j).toList == (S.extract 0 3).toList) = true := by rw [list_beq]; exact decide_eq_true he
        obtain ⟨J, hJ⟩ : ∃ J, nmB j = J := ⟨_, rfl⟩
        rw [hJ] at HRj ht
        clear hJ HRI HNE hjc hx he
        go_wp2
        refine wp_region_plan 5 (.one [0, 2, 3] 1 (.done [4])) (by kernel_rfl) (by kernel_rfl) (fun _ _ d _ _ h => by cases d <;> exact h) ?_
        repeat' (first
          | (refine plan_done (fun K hK => ?_); (first | (simp only [pick_cons, pick_nil, toList_some_append, List.getElem?_toArray, List.getElem?_cons_zero, List.getElem?_cons_succ]; repeat (go_big_quiet_step (fail))) | simp only [pick_nil]); refine wpQuiet_nil (hK _ ?_); clear hK K)
          | (refine plan_one (by rfl) (fun K hK => ?_); (first | (simp only [pick_cons, pick_nil, toList_some_append, List.getElem?_toArray, List.getElem?_cons_zero, List.getElem?_cons_succ]; repeat (go_big_quiet_step (fail))) | simp only [pick_nil]); refine wpQuiet_nil (hK _ ?_); clear hK K)
          | ((with_reducible refine at_list ?_); go_wp2_with ((go_at_call 22; go_must (refine (HRj.out _).mono ?_; rintro e w3 ⟨rfl, hb3⟩))); first | refine behind_store (t := 5) (by decide) ?_ | refine behind (by repeat (first | with_reducible exact Later.refl _ | with_reducible assumption | with_reducible refine Later.ofdrew ?_ | with_reducible refine Later.ofdrewN ?_ | with_reducible refine Later.alloc ?_ _ | with_reducible refine Later.drewN ?_ _ | with_reducible refine Later.drew ?_ | (with_reducible refine Later.trans ?_ (by assumption)))) ?_))
        go_wp2
        go_roundw
        case rel => exact ⟨j + 1, j, by omega, by go_num, rfl, hx2, by repeat (first | with_reducible exact Later.refl _ | with_reducible assumption | with_reducible refine Later.ofdrew ?_ | with_reducible refine Later.ofdrewN ?_ | with_reducible refine Later.setCell ?_ ?_ _ | with_reducible refine Later.alloc ?_ _ | with_reducible refine Later.drewN ?_ _ | with_reducible refine Later.drew ?_ | (with_reducible refine Later.trans ?_ (by assumption)) | (simp only [World.size_setCell, World.size_alloc, World.heap_drewN]; omega) | (simp; done) | (simp; omega))⟩
        case measure => simp [intOf]; omega
      · have hjc : j ≠ c := fun e => he (by rw [e]; exact HNE.out)
        have hx2 : Hid ((x = -1 ∧ j + 1 ≤ c) ∨ (x = c ∧ c < j + 1)) := Lib.hid (by have := hx.out; omega)
        have ht : ((nmB j).toList == (S.extract 0 3).toList) = false := by rw [list_beq]; exact decide_eq_false he
        obtain ⟨J, hJ⟩ : ∃ J, nmB j = J := ⟨_, rfl⟩
        rw [hJ] at HRj ht
        clear hJ HRI HNE hjc hx he
        go_wp2
        refine wp_region_plan 5 (.one [0, 2, 3] 1 (.done [4])) (by kernel_rfl) (by kernel_rfl) (fun _ _ d _ _ h => by cases d <;> exact h) ?_
        repeat' (first
          | (refine plan_done (fun K hK => ?_); (first | (simp only [pick_cons, pick_nil, toList_some_append, List.getElem?_toArray, List.getElem?_cons_zero, List.getElem?_cons_succ]; repeat (go_big_quiet_step (fail))) | simp only [pick_nil]); refine wpQuiet_nil (hK _ ?_); clear hK K)
          | (refine plan_one (by rfl) (fun K hK => ?_); (first | (simp only [pick_cons, pick_nil, toList_some_append, List.getElem?_toArray, List.getElem?_cons_zero, List.getElem?_cons_succ]; repeat (go_big_quiet_step (fail))) | simp only [pick_nil]); refine wpQuiet_nil (hK _ ?_); clear hK K)
          | ((with_reducible refine at_list ?_); go_wp2_with ((go_at_call 22; go_must (refine (HRj.out _).mono ?_; rintro e w3 ⟨rfl, hb3⟩))); first | refine behind_store (t := 5) (by decide) ?_ | refine behind (by repeat (first | with_reducible exact Later.refl _ | with_reducible assumption | with_reducible refine Later.ofdrew ?_ | with_reducible refine Later.ofdrewN ?_ | with_reducible refine Later.alloc ?_ _ | with_reducible refine Later.drewN ?_ _ | with_reducible refine Later.drew ?_ | (with_reducible refine Later.trans ?_ (by assumption)))) ?_))
        go_wp2
        go_roundw
        case rel => exact ⟨j + 1, x, by omega, by go_num, rfl, hx2, by repeat (first | with_reducible exact Later.refl _ | with_reducible assumption | with_reducible refine Later.ofdrew ?_ | with_reducible refine Later.ofdrewN ?_ | with_reducible refine Later.setCell ?_ ?_ _ | with_reducible refine Later.alloc ?_ _ | with_reducible refine Later.drewN ?_ _ | with_reducible refine Later.drew ?_ | (with_reducible refine Later.trans ?_ (by assumption)) | (simp only [World.size_setCell, World.size_alloc, World.heap_drewN]; omega) | (simp; done) | (simp; omega))⟩
        case measure => simp [intOf]; omega
    · have hge : ¬ ((j : Int) < 8) := by omega
      obtain rfl : x = (c : Nat) := by have := hx.out; omega
      have hc0 : ¬ ((c : Int) < 0) := by omega
      clear hx HRI HNE
      go_upto_region 12 with (fail)
      rw [HR.out]
      have hRp : 0 < R.size := by have := HRZ.out; have := HL5.out; omega
      have hRpI : (0 : Int) < R.size := by omega
      by_cases h45 : R[0] = 45
      · have h45a : ((R[0].toNat : Int) == 45) = true := by rw [beq_iff_eq, h45]; rfl
        have hR1 : (1 : Int) ≤ R.size := by omega
        obtain ⟨plain, hplain⟩ : ∃ p, (s.drop 4).drop 1 = p := ⟨_, rfl⟩
        obtain ⟨P, hP'⟩ : ∃ P, R.extract 1 R.size = P := ⟨_, rfl⟩
        have hP : ByteArray.mk plain.toArray = P := by rw [← hP', ext_from HR2.out, hplain]
        have h46 : s.drop 4 = 45 :: plain := by
          have hz : 0 < (s.drop 4).length := by rw [List.length_drop]; have := HL5.out; omega
          have hg : R[0] = (s.drop 4)[0]'hz := by have h := HR2.out; subst h; rfl
          have h0 := List.drop_eq_getElem_cons hz
          rw [List.drop_zero, ← hg, h45] at h0
          rw [h0, ← hplain]; try rfl
        have hpl : s = nmL c ++ 32 :: ((if true = true then [45] else []) ++ plain) := by rw [if_pos rfl]; show s = nmL c ++ 32 :: (45 :: plain); rw [← h46]; exact HSP.out
        have hm45 : true = false → plain.head? ≠ some 45 := fun e => by cases e
        have hpn : plain.length ≤ 60 := by rw [← hplain, List.length_drop, List.length_drop]; have := HL5.out; omega
        clear h46 hplain h45
        go_upto_region 15 with (fail)
        clear hP'
        obtain ⟨mn, hmn⟩ : ∃ mn : Bool, mn = true := ⟨_, rfl⟩
        have HMD0 := Lib.hid (fun V hV => mp_digits (s := s) (plain := plain) (V := V) (minus := mn) hc (by rw [hmn]; exact hpl) (by rw [hmn]; exact hm45) hV)
        have HNP := Lib.hid (fun hk h => no_point hc hpl hm45 hk h)
        have HMN := Lib.hid hmn
        clear hmn
        have HP := Lib.hid hP
        have hPz : P.size = plain.length := by rw [← hP, ba_len]
        have HPZ := Lib.hid hPz
        have hPm : P.size ≤ 60 := by omega
        clear hP hpl hm45 hPz hpn HR HR2 HSP HRZ
        refine wp_opaque (fun w12 hb12 => ?_)
        have hw12 : Later w w12 := by repeat (first | with_reducible exact Later.refl _ | with_reducible assumption | with_reducible refine Later.ofdrew ?_ | with_reducible refine Later.ofdrewN ?_ | with_reducible refine Later.setCell ?_ ?_ _ | with_reducible refine Later.alloc ?_ _ | with_reducible refine Later.drewN ?_ _ | with_reducible refine Later.drew ?_ | (with_reducible refine Later.trans ?_ (by assumption)) | (simp only [World.size_setCell, World.size_alloc, World.heap_drewN]; omega) | (simp; done) | (simp; omega))
        go_upto_region 16 with (go_at_call 24; go_must (refine (HRD.out _).mono ?_; rintro e w13 ⟨rfl, hb13⟩))
        by_cases hk : dgN c = 0
        · have hkI : ¬ ((0 : Int) < (dgN c : Nat)) := by omega
          go_upto_region 20 with (fail)
          have HMD := Lib.hid (HMD0.out plain (.inr ⟨hk, rfl⟩))
          have HDG := Lib.hid (fun W => rdig_any plain (by have := HPZ.out; omega) W)
          rw [HP.out] at HDG
          have HVB := HP
          go_upto_region 21 with (go_at_call 42; go_must (refine (HDG.out _).mono ?_; rintro e wd ⟨⟨r, nn, b, rfl, hbig, hbb, hbn⟩, hbd⟩; obtain ⟨pk, kk, er, hnum⟩ := hbig.open; subst er; have HBB := Lib.hid hbb; have HBN := Lib.hid hbn; have HNUM := Lib.hid hnum; clear hbb hbn hbig hnum))
          have hwd : Later w wd := by repeat (first | with_reducible exact Later.refl _ | with_reducible assumption | with_reducible refine Later.ofdrew ?_ | with_reducible refine Later.ofdrewN ?_ | with_reducible refine Later.setCell ?_ ?_ _ | with_reducible refine Later.alloc ?_ _ | with_reducible refine Later.drewN ?_ _ | with_reducible refine Later.drew ?_ | (with_reducible refine Later.trans ?_ (by assumption)) | (simp only [World.size_setCell, World.size_alloc, World.heap_drewN]; omega) | (simp; done) | (simp; omega))
          have hzw := Later.size hwd
          refine wp_opaque (fun wz hbz => ?_)
          have hO := Own.one hbz
          have hwz := hbz.un1
          clear hbz
          obtain ⟨⟨zo, co, fo⟩, -⟩ := id hO
          cases b with
          | false =>
            have HR0 : Hid (MP s 0 0 13) := Lib.hid (HMD.out.1 HBB.out.symm)
            clear HMD0 HNP HMD HDG HBB HBN HNUM
            go_wp2
            go_ret3
            exact ⟨RPs.mk HR0.out, by repeat (first | with_reducible exact Later.refl _ | with_reducible assumption | with_reducible refine Later.ofdrew ?_ | with_reducible refine Later.ofdrewN ?_ | with_reducible refine Later.setCell ?_ ?_ _ | with_reducible refine Later.alloc ?_ _ | with_reducible refine Later.drewN ?_ _ | with_reducible refine Later.drew ?_ | (with_reducible refine Later.trans ?_ (by assumption)) | (simp only [World.size_setCell, World.size_alloc, World.heap_drewN]; omega) | (simp; done) | (simp; omega))⟩
          | true =>
            have hnn : nn = valD 0 plain := HBN.out rfl
            have hvl : P.size = plain.length := by rw [← HVB.out, ba_len]
            have HVL := Lib.hid hvl
            have hvp : 0 < P.size := by
              have := HBB.out
              rw [hvl]
              cases hh : plain with
              | nil => rw [hh] at this; cases this
              | cons _ _ => simp
            have hvpI : (0 : Int) < P.size := by omega
            have hhd : plain.head? = some P[0] := head_ba HVB.out hvp
            by_cases hlong : dgN c + 1 < plain.length
            · have hlongI : ((dgN c : Nat) : Int) + 1 < P.size := by omega
              by_cases h48 : P[0] = 48
              · have HR0 : Hid (MP s 0 0 13) := Lib.hid (HMD.out.2.1 ⟨hlong, by rw [hhd, h48]⟩)
                have h48a : ((P[0].toNat : Int) == 48) = true := by rw [beq_iff_eq, h48]; rfl
                clear hhd hnn h48 hlong hvl
                clear HMD0 HNP HMD HDG HBB HBN HNUM
                go_wp2
                go_ret3
                exact ⟨RPs.mk HR0.out, by repeat (first | with_reducible exact Later.refl _ | with_reducible assumption | with_reducible refine Later.ofdrew ?_ | with_reducible refine Later.ofdrewN ?_ | with_reducible refine Later.setCell ?_ ?_ _ | with_reducible refine Later.alloc ?_ _ | with_reducible refine Later.drewN ?_ _ | with_reducible refine Later.drew ?_ | (with_reducible refine Later.trans ?_ (by assumption)) | (simp only [World.size_setCell, World.size_alloc, World.heap_drewN]; omega) | (simp; done) | (simp; omega))⟩
              · have h48a : ((P[0].toNat : Int) == 48) = false := by
                  rw [beq_eq_false_iff_ne]; intro e
                  exact h48 (UInt8.toNat_inj.1 (by show P[0].toNat = 48; omega))
                have hnlead : ¬ (dgN c + 1 < plain.length ∧ plain.head? = some 48) := fun e => h48 (by rw [hhd] at e; exact Option.some.inj e.2)
                clear hhd h48 hlong hvl
                by_cases h0 : nn = 0
                · have HR0 : Hid (MP s 0 0 13) := Lib.hid (HMD.out.2.2.1 ⟨HMN.out, by rw [← hnn]; exact h0⟩)
                  have hln : nlen nn = 0 := by rw [h0]; rfl
                  clear h0 hnn hnlead
                  clear HMD0 HNP HMD HDG HBB HBN HNUM
                  go_wp2
                  go_ret3
                  exact ⟨RPs.mk HR0.out, by repeat (first | with_reducible exact Later.refl _ | with_reducible assumption | with_reducible refine Later.ofdrew ?_ | with_reducible refine Later.ofdrewN ?_ | with_reducible refine Later.setCell ?_ ?_ _ | with_reducible refine Later.alloc ?_ _ | with_reducible refine Later.drewN ?_ _ | with_reducible refine Later.drew ?_ | (with_reducible refine Later.trans ?_ (by assumption)) | (simp only [World.size_setCell, World.size_alloc, World.heap_drewN]; omega) | (simp; done) | (simp; omega))⟩
                · have hnneg : ¬ (mn = true ∧ valD 0 plain = 0) := fun e => h0 (by rw [hnn]; exact e.2)
                  have hln : ¬ ((nlen nn : Nat) : Int) = 0 := by have := (nlen_pos (n := nn)).2 (by omega); omega
                  clear h0
                  obtain ⟨hv1, hv2⟩ := HMD.out.2.2.2 HBB.out.symm hnlead hnneg
                  have hmnv : mn = true := HMN.out
                  rw [hmnv] at hv1 hv2
                  have HNL : Hid (nlen nn ≤ 40000) := Lib.hid (by rw [hnn]; have h8 := HBB.out; rw [eq_comm, Bool.and_eq_true] at h8; have := val_nlen h8.2 (by have := HVL.out; omega); rw [Int.natAbs_natCast] at this; omega)
                  cases hf : fitsB true nn with
                  | true =>
                    obtain ⟨hi, hiv⟩ := fits_val hnn hf
                    have HR1 : Hid (MP s (c : Nat) (intV true nn) 0) := Lib.hid (by rw [hiv]; exact hv1 hi)
                    have HINT : Hid (∀ W, Later wd W → Calls Tryd.prog 43 #[.agg #[.bool true, .slice pk (nlen nn) kk]] W fun e w' => e = .returned (.tuple #[.int .i64 (intV true nn), .bool true]) ∧ Later W w') := Lib.hid (fun W hl => by
                      have h9 := rint_any _ true nn W ⟨_, rfl, HNUM.out.later hl⟩ HNL.out
                      rw [hf] at h9
                      exact h9)
                    obtain ⟨iv, hivv⟩ : ∃ iv, intV true nn = iv := ⟨_, rfl⟩
                    rw [hivv] at HR1 HINT
                    clear hv1 hv2 hnlead hnneg hmnv hf hi hiv hivv hnn
                    clear HMD0 HNP HMD HDG HBB HBN HNUM
                    go_wp2_with (go_at_call 43; go_must (refine (HINT.out _ (by repeat (first | with_reducible exact Later.refl _ | with_reducible assumption | with_reducible refine Later.ofdrew ?_ | with_reducible refine Later.ofdrewN ?_ | with_reducible refine Later.setCell ?_ ?_ _ | with_reducible refine Later.alloc ?_ _ | with_reducible refine Later.drewN ?_ _ | with_reducible refine Later.drew ?_ | (with_reducible refine Later.trans ?_ (by assumption)) | (simp only [World.size_setCell, World.size_alloc, World.heap_drewN]; omega) | (simp; done) | (simp; omega)))).mono ?_; rintro e w19 ⟨rfl, hb19⟩))
                    go_ret3
                    exact ⟨RPs.mk HR1.out, by repeat (first | with_reducible exact Later.refl _ | with_reducible assumption | with_reducible refine Later.ofdrew ?_ | with_reducible refine Later.ofdrewN ?_ | with_reducible refine Later.setCell ?_ ?_ _ | with_reducible refine Later.alloc ?_ _ | with_reducible refine Later.drewN ?_ _ | with_reducible refine Later.drew ?_ | (with_reducible refine Later.trans ?_ (by assumption)) | (simp only [World.size_setCell, World.size_alloc, World.heap_drewN]; omega) | (simp; done) | (simp; omega))⟩
                  | false =>
                    have hi := unfits_val hnn hf
                    have HR1 : Hid (MP s 0 0 11) := Lib.hid (hv2 hi)
                    have HINT : Hid (∀ W, Later wd W → Calls Tryd.prog 43 #[.agg #[.bool true, .slice pk (nlen nn) kk]] W fun e w' => e = .returned (.tuple #[.int .i64 (intV true nn), .bool false]) ∧ Later W w') := Lib.hid (fun W hl => by
                      have h9 := rint_any _ true nn W ⟨_, rfl, HNUM.out.later hl⟩ HNL.out
                      rw [hf] at h9
                      exact h9)
                    obtain ⟨iv, hivv⟩ : ∃ iv, intV true nn = iv := ⟨_, rfl⟩
                    rw [hivv] at HINT
                    clear hv1 hv2 hnlead hnneg hmnv hf hi hivv hnn
                    clear HMD0 HNP HMD HDG HBB HBN HNUM
                    go_wp2_with (go_at_call 43; go_must (refine (HINT.out _ (by repeat (first | with_reducible exact Later.refl _ | with_reducible assumption | with_reducible refine Later.ofdrew ?_ | with_reducible refine Later.ofdrewN ?_ | with_reducible refine Later.setCell ?_ ?_ _ | with_reducible refine Later.alloc ?_ _ | with_reducible refine Later.drewN ?_ _ | with_reducible refine Later.drew ?_ | (with_reducible refine Later.trans ?_ (by assumption)) | (simp only [World.size_setCell, World.size_alloc, World.heap_drewN]; omega) | (simp; done) | (simp; omega)))).mono ?_; rintro e w19 ⟨rfl, hb19⟩))
                    go_ret3
                    exact ⟨RPs.mk HR1.out, by repeat (first | with_reducible exact Later.refl _ | with_reducible assumption | with_reducible refine Later.ofdrew ?_ | with_reducible refine Later.ofdrewN ?_ | with_reducible refine Later.setCell ?_ ?_ _ | with_reducible refine Later.alloc ?_ _ | with_reducible refine Later.drewN ?_ _ | with_reducible refine Later.drew ?_ | (with_reducible refine Later.trans ?_ (by assumption)) | (simp only [World.size_setCell, World.size_alloc, World.heap_drewN]; omega) | (simp; done) | (simp; omega))⟩
            · have hlongI : ¬ (((dgN c : Nat) : Int) + 1 < P.size) := by omega
              have hnlead : ¬ (dgN c + 1 < plain.length ∧ plain.head? = some 48) := fun e => hlong e.1
              clear hhd hlong hvl
              by_cases h0 : nn = 0
              · have HR0 : Hid (MP s 0 0 13) := Lib.hid (HMD.out.2.2.1 ⟨HMN.out, by rw [← hnn]; exact h0⟩)
                have hln : nlen nn = 0 := by rw [h0]; rfl
                clear h0 hnn hnlead
                clear HMD0 HNP HMD HDG HBB HBN HNUM
                go_wp2
                go_ret3
                exact ⟨RPs.mk HR0.out, by repeat (first | with_reducible exact Later.refl _ | with_reducible assumption | with_reducible refine Later.ofdrew ?_ | with_reducible refine Later.ofdrewN ?_ | with_reducible refine Later.setCell ?_ ?_ _ | with_reducible refine Later.alloc ?_ _ | with_reducible refine Later.drewN ?_ _ | with_reducible refine Later.drew ?_ | (with_reducible refine Later.trans ?_ (by assumption)) | (simp only [World.size_setCell, World.size_alloc, World.heap_drewN]; omega) | (simp; done) | (simp; omega))⟩
              · have hnneg : ¬ (mn = true ∧ valD 0 plain = 0) := fun e => h0 (by rw [hnn]; exact e.2)
                have hln : ¬ ((nlen nn : Nat) : Int) = 0 := by have := (nlen_pos (n := nn)).2 (by omega); omega
                clear h0
                obtain ⟨hv1, hv2⟩ := HMD.out.2.2.2 HBB.out.symm hnlead hnneg
                have hmnv : mn = true := HMN.out
                rw [hmnv] at hv1 hv2
                have HNL : Hid (nlen nn ≤ 40000) := Lib.hid (by rw [hnn]; have h8 := HBB.out; rw [eq_comm, Bool.and_eq_true] at h8; have := val_nlen h8.2 (by have := HVL.out; omega); rw [Int.natAbs_natCast] at this; omega)
                cases hf : fitsB true nn with
                | true =>
                  obtain ⟨hi, hiv⟩ := fits_val hnn hf
                  have HR1 : Hid (MP s (c : Nat) (intV true nn) 0) := Lib.hid (by rw [hiv]; exact hv1 hi)
                  have HINT : Hid (∀ W, Later wd W → Calls Tryd.prog 43 #[.agg #[.bool true, .slice pk (nlen nn) kk]] W fun e w' => e = .returned (.tuple #[.int .i64 (intV true nn), .bool true]) ∧ Later W w') := Lib.hid (fun W hl => by
                    have h9 := rint_any _ true nn W ⟨_, rfl, HNUM.out.later hl⟩ HNL.out
                    rw [hf] at h9
                    exact h9)
                  obtain ⟨iv, hivv⟩ : ∃ iv, intV true nn = iv := ⟨_, rfl⟩
                  rw [hivv] at HR1 HINT
                  clear hv1 hv2 hnlead hnneg hmnv hf hi hiv hivv hnn
                  clear HMD0 HNP HMD HDG HBB HBN HNUM
                  go_wp2_with (go_at_call 43; go_must (refine (HINT.out _ (by repeat (first | with_reducible exact Later.refl _ | with_reducible assumption | with_reducible refine Later.ofdrew ?_ | with_reducible refine Later.ofdrewN ?_ | with_reducible refine Later.setCell ?_ ?_ _ | with_reducible refine Later.alloc ?_ _ | with_reducible refine Later.drewN ?_ _ | with_reducible refine Later.drew ?_ | (with_reducible refine Later.trans ?_ (by assumption)) | (simp only [World.size_setCell, World.size_alloc, World.heap_drewN]; omega) | (simp; done) | (simp; omega)))).mono ?_; rintro e w19 ⟨rfl, hb19⟩))
                  go_ret3
                  exact ⟨RPs.mk HR1.out, by repeat (first | with_reducible exact Later.refl _ | with_reducible assumption | with_reducible refine Later.ofdrew ?_ | with_reducible refine Later.ofdrewN ?_ | with_reducible refine Later.setCell ?_ ?_ _ | with_reducible refine Later.alloc ?_ _ | with_reducible refine Later.drewN ?_ _ | with_reducible refine Later.drew ?_ | (with_reducible refine Later.trans ?_ (by assumption)) | (simp only [World.size_setCell, World.size_alloc, World.heap_drewN]; omega) | (simp; done) | (simp; omega))⟩
                | false =>
                  have hi := unfits_val hnn hf
                  have HR1 : Hid (MP s 0 0 11) := Lib.hid (hv2 hi)
                  have HINT : Hid (∀ W, Later wd W → Calls Tryd.prog 43 #[.agg #[.bool true, .slice pk (nlen nn) kk]] W fun e w' => e = .returned (.tuple #[.int .i64 (intV true nn), .bool false]) ∧ Later W w') := Lib.hid (fun W hl => by
                    have h9 := rint_any _ true nn W ⟨_, rfl, HNUM.out.later hl⟩ HNL.out
                    rw [hf] at h9
                    exact h9)
                  obtain ⟨iv, hivv⟩ : ∃ iv, intV true nn = iv := ⟨_, rfl⟩
                  rw [hivv] at HINT
                  clear hv1 hv2 hnlead hnneg hmnv hf hi hivv hnn
                  clear HMD0 HNP HMD HDG HBB HBN HNUM
                  go_wp2_with (go_at_call 43; go_must (refine (HINT.out _ (by repeat (first | with_reducible exact Later.refl _ | with_reducible assumption | with_reducible refine Later.ofdrew ?_ | with_reducible refine Later.ofdrewN ?_ | with_reducible refine Later.setCell ?_ ?_ _ | with_reducible refine Later.alloc ?_ _ | with_reducible refine Later.drewN ?_ _ | with_reducible refine Later.drew ?_ | (with_reducible refine Later.trans ?_ (by assumption)) | (simp only [World.size_setCell, World.size_alloc, World.heap_drewN]; omega) | (simp; done) | (simp; omega)))).mono ?_; rintro e w19 ⟨rfl, hb19⟩))
                  go_ret3
                  exact ⟨RPs.mk HR1.out, by repeat (first | with_reducible exact Later.refl _ | with_reducible assumption | with_reducible refine Later.ofdrew ?_ | with_reducible refine Later.ofdrewN ?_ | with_reducible refine Later.setCell ?_ ?_ _ | with_reducible refine Later.alloc ?_ _ | with_reducible refine Later.drewN ?_ _ | with_reducible refine Later.drew ?_ | (with_reducible refine Later.trans ?_ (by assumption)) | (simp only [World.size_setCell, World.size_alloc, World.heap_drewN]; omega) | (simp; done) | (simp; omega))⟩
        · have hkI : (0 : Int) < (dgN c : Nat) := by omega
          have hk0 : 0 < dgN c := by omega
          have hd6 := dgN_le c
          by_cases hA : P.size < dgN c + 2
          · have hAI : (P.size : Int) < (dgN c : Nat) + 2 := by omega
            have HR0 : Hid (MP s 0 0 13) := Lib.hid (HNP.out hk0 (.inl (by have := HPZ.out; omega)))
            clear HMD0 HNP hA hk0
            go_wp2
            go_ret3
            exact ⟨RPs.mk HR0.out, by repeat (first | with_reducible exact Later.refl _ | with_reducible assumption | with_reducible refine Later.ofdrew ?_ | with_reducible refine Later.ofdrewN ?_ | with_reducible refine Later.setCell ?_ ?_ _ | with_reducible refine Later.alloc ?_ _ | with_reducible refine Later.drewN ?_ _ | with_reducible refine Later.drew ?_ | (with_reducible refine Later.trans ?_ (by assumption)) | (simp only [World.size_setCell, World.size_alloc, World.heap_drewN]; omega) | (simp; done) | (simp; omega))⟩
          · obtain ⟨m, hm⟩ : ∃ m, P.size = dgN c + 2 + m := ⟨P.size - dgN c - 2, by omega⟩
            have hAI : ¬ ((P.size : Int) < (dgN c : Nat) + 2) := by omega
            have hix : (P.size : Int) - (dgN c : Nat) - 1 = ((m + 1 : Nat) : Int) := by omega
            have hml : m + 1 < P.size := by omega
            have HM := Lib.hid hm
            have HK0 := Lib.hid hk0
            clear hA hm hk0
            by_cases h46 : P[m + 1] = 46
            · have h46a : ((P[m + 1].toNat : Int) != 46) = false := by rw [bne_eq_false_iff_eq, h46]; rfl
              have hix2 : (P.size : Int) - (dgN c : Nat) = ((m + 2 : Nat) : Int) := by have := HM.out; omega
              have hm1 : ((m + 1 : Nat) : Int) ≤ P.size := by omega
              have hm2 : ((m + 2 : Nat) : Int) ≤ P.size := by have := HM.out; omega
              have h46o : plain[plain.length - dgN c - 1]? = some 46 := by
                have e1 : plain.length - dgN c - 1 = m + 1 := by have := HPZ.out; have := HM.out; omega
                rw [e1]
                have e2 := HP.out
                subst e2
                rw [List.getElem?_eq_getElem (by have := HPZ.out; omega)]
                exact congrArg some h46
              have hback := unP_back HK0.out (by have := HPZ.out; have := HM.out; omega) h46o
              obtain ⟨V, hV⟩ : ∃ V, unP (dgN c) plain = V := ⟨_, rfl⟩
              have hcat : P.extract 0 (m + 1) ++ P.extract (m + 2) P.size = ⟨V.toArray⟩ := by
                have e1 : plain.length - dgN c - 1 = m + 1 := by have := HPZ.out; have := HM.out; omega
                have e2 : plain.length - dgN c = m + 2 := by have := HPZ.out; have := HM.out; omega
                rw [← hV, ext_upto HP.out, ext_from HP.out]
                unfold unP
                rw [e1, e2, ba_app]
              rw [hV] at hback
              have hVl : V.length ≤ 60 := by
                rw [← hV]; unfold unP; rw [List.length_append, List.length_take, List.length_drop]; have := HPZ.out; omega
              have HMD := Lib.hid (HMD0.out V (.inl ⟨HK0.out, hback.1, hback.2⟩))
              obtain ⟨VB, hVB⟩ : ∃ VB, ByteArray.mk V.toArray = VB := ⟨_, rfl⟩
              rw [hVB] at hcat
              have HVB := Lib.hid hVB
              have HDG := Lib.hid (fun W => rdig_any V (by omega) W)
              rw [hVB] at HDG
              have hVm : VB.size ≤ 60 := by rw [← hVB, ba_len]; exact hVl
              have HCAT := Lib.hid hcat
              clear hback hV hVB hcat h46o h46 HMD0
              go_upto_region 19 with (fail)
              clear h46a
              go_cut [7] (fun s7 wx => s7 = .string VB ∧ wx = w13.drew)
              case first =>
                refine wp_region_plan 15 (.two [0, 1, 3, 7, 8, 10] 2 (.one [4, 5, 6] 9 (.done [11, 12, 13, 14])) 9 (.one [11, 12] 2 (.done [4, 5, 6, 13, 14]))) (by kernel_rfl) (by kernel_rfl) (fun _ _ d _ _ h => by cases d <;> exact h) ?_
                repeat' (first
                  | (refine plan_done (fun K hK => ?_); (first | (simp only [pick_cons, pick_nil, toList_some_append, List.getElem?_toArray, List.getElem?_cons_zero, List.getElem?_cons_succ]; repeat (go_big_quiet_step (fail))) | simp only [pick_nil]); refine wpQuiet_nil (hK _ ?_); clear hK K)
                  | (refine plan_one (by rfl) (fun K hK => ?_); (first | (simp only [pick_cons, pick_nil, toList_some_append, List.getElem?_toArray, List.getElem?_cons_zero, List.getElem?_cons_succ]; repeat (go_big_quiet_step (fail))) | simp only [pick_nil]); refine wpQuiet_nil (hK _ ?_); clear hK K)
                  | (refine plan_two (by rfl) (by rfl) (fun K hK => ?_); (first | (simp only [pick_cons, pick_nil, toList_some_append, List.getElem?_toArray, List.getElem?_cons_zero, List.getElem?_cons_succ]; repeat (go_big_quiet_step (fail))) | simp only [pick_nil]); refine wpQuiet_nil (hK _ ?_); clear hK K; refine ⟨?_, ?_⟩)
                  | ((with_reducible refine at_list ?_); go_wp2_with (fail); first | refine behind_store (t := 15) (by decide) ?_ | refine behind (by repeat (first | with_reducible exact Later.refl _ | with_reducible assumption | with_reducible refine Later.ofdrew ?_ | with_reducible refine Later.ofdrewN ?_ | with_reducible refine Later.alloc ?_ _ | with_reducible refine Later.drewN ?_ _ | with_reducible refine Later.drew ?_ | (with_reducible refine Later.trans ?_ (by assumption)))) ?_))
                all_goals (go_wp2_with fail; go_meet; exact ⟨congrArg Value.string HCAT.out, rfl⟩)
              case rest =>
              obtain ⟨rfl, rfl⟩ := hcut
              clear hix hix2 hm1 hm2 hAI HCAT
              go_upto_region 21 with (go_at_call 42; go_must (refine (HDG.out _).mono ?_; rintro e wd ⟨⟨r, nn, b, rfl, hbig, hbb, hbn⟩, hbd⟩; obtain ⟨pk, kk, er, hnum⟩ := hbig.open; subst er; have HBB := Lib.hid hbb; have HBN := Lib.hid hbn; have HNUM := Lib.hid hnum; clear hbb hbn hbig hnum))
              have hwd : Later w wd := by repeat (first | with_reducible exact Later.refl _ | with_reducible assumption | with_reducible refine Later.ofdrew ?_ | with_reducible refine Later.ofdrewN ?_ | with_reducible refine Later.setCell ?_ ?_ _ | with_reducible refine Later.alloc ?_ _ | with_reducible refine Later.drewN ?_ _ | with_reducible refine Later.drew ?_ | (with_reducible refine Later.trans ?_ (by assumption)) | (simp only [World.size_setCell, World.size_alloc, World.heap_drewN]; omega) | (simp; done) | (simp; omega))
              have hzw := Later.size hwd
              refine wp_opaque (fun wz hbz => ?_)
              have hO := Own.one hbz
              have hwz := hbz.un1
              clear hbz
              obtain ⟨⟨zo, co, fo⟩, -⟩ := id hO
              cases b with
              | false =>
                have HR0 : Hid (MP s 0 0 13) := Lib.hid (HMD.out.1 HBB.out.symm)
                clear HNP HMD HDG HBB HBN HNUM
                go_wp2
                go_ret3
                exact ⟨RPs.mk HR0.out, by repeat (first | with_reducible exact Later.refl _ | with_reducible assumption | with_reducible refine Later.ofdrew ?_ | with_reducible refine Later.ofdrewN ?_ | with_reducible refine Later.setCell ?_ ?_ _ | with_reducible refine Later.alloc ?_ _ | with_reducible refine Later.drewN ?_ _ | with_reducible refine Later.drew ?_ | (with_reducible refine Later.trans ?_ (by assumption)) | (simp only [World.size_setCell, World.size_alloc, World.heap_drewN]; omega) | (simp; done) | (simp; omega))⟩
              | true =>
                have hnn : nn = valD 0 V := HBN.out rfl
                have hvl : VB.size = V.length := by rw [← HVB.out, ba_len]
                have HVL := Lib.hid hvl
                have hvp : 0 < VB.size := by
                  have := HBB.out
                  rw [hvl]
                  cases hh : V with
                  | nil => rw [hh] at this; cases this
                  | cons _ _ => simp
                have hvpI : (0 : Int) < VB.size := by omega
                have hhd : V.head? = some VB[0] := head_ba HVB.out hvp
                by_cases hlong : dgN c + 1 < V.length
                · have hlongI : ((dgN c : Nat) : Int) + 1 < VB.size := by omega
                  by_cases h48 : VB[0] = 48
                  · have HR0 : Hid (MP s 0 0 13) := Lib.hid (HMD.out.2.1 ⟨hlong, by rw [hhd, h48]⟩)
                    have h48a : ((VB[0].toNat : Int) == 48) = true := by rw [beq_iff_eq, h48]; rfl
                    clear hhd hnn h48 hlong hvl
                    clear HNP HMD HDG HBB HBN HNUM
                    go_wp2
                    go_ret3
                    exact ⟨RPs.mk HR0.out, by repeat (first | with_reducible exact Later.refl _ | with_reducible assumption | with_reducible refine Later.ofdrew ?_ | with_reducible refine Later.ofdrewN ?_ | with_reducible refine Later.setCell ?_ ?_ _ | with_reducible refine Later.alloc ?_ _ | with_reducible refine Later.drewN ?_ _ | with_reducible refine Later.drew ?_ | (with_reducible refine Later.trans ?_ (by assumption)) | (simp only [World.size_setCell, World.size_alloc, World.heap_drewN]; omega) | (simp; done) | (simp; omega))⟩
                  · have h48a : ((VB[0].toNat : Int) == 48) = false := by
                      rw [beq_eq_false_iff_ne]; intro e
                      exact h48 (UInt8.toNat_inj.1 (by show VB[0].toNat = 48; omega))
                    have hnlead : ¬ (dgN c + 1 < V.length ∧ V.head? = some 48) := fun e => h48 (by rw [hhd] at e; exact Option.some.inj e.2)
                    clear hhd h48 hlong hvl
                    by_cases h0 : nn = 0
                    · have HR0 : Hid (MP s 0 0 13) := Lib.hid (HMD.out.2.2.1 ⟨HMN.out, by rw [← hnn]; exact h0⟩)
                      have hln : nlen nn = 0 := by rw [h0]; rfl
                      clear h0 hnn hnlead
                      clear HNP HMD HDG HBB HBN HNUM
                      go_wp2
                      go_ret3
                      exact ⟨RPs.mk HR0.out, by repeat (first | with_reducible exact Later.refl _ | with_reducible assumption | with_reducible refine Later.ofdrew ?_ | with_reducible refine Later.ofdrewN ?_ | with_reducible refine Later.setCell ?_ ?_ _ | with_reducible refine Later.alloc ?_ _ | with_reducible refine Later.drewN ?_ _ | with_reducible refine Later.drew ?_ | (with_reducible refine Later.trans ?_ (by assumption)) | (simp only [World.size_setCell, World.size_alloc, World.heap_drewN]; omega) | (simp; done) | (simp; omega))⟩
                    · have hnneg : ¬ (mn = true ∧ valD 0 V = 0) := fun e => h0 (by rw [hnn]; exact e.2)
                      have hln : ¬ ((nlen nn : Nat) : Int) = 0 := by have := (nlen_pos (n := nn)).2 (by omega); omega
                      clear h0
                      obtain ⟨hv1, hv2⟩ := HMD.out.2.2.2 HBB.out.symm hnlead hnneg
                      have hmnv : mn = true := HMN.out
                      rw [hmnv] at hv1 hv2
                      have HNL : Hid (nlen nn ≤ 40000) := Lib.hid (by rw [hnn]; have h8 := HBB.out; rw [eq_comm, Bool.and_eq_true] at h8; have := val_nlen h8.2 (by have := HVL.out; omega); rw [Int.natAbs_natCast] at this; omega)
                      cases hf : fitsB true nn with
                      | true =>
                        obtain ⟨hi, hiv⟩ := fits_val hnn hf
                        have HR1 : Hid (MP s (c : Nat) (intV true nn) 0) := Lib.hid (by rw [hiv]; exact hv1 hi)
                        have HINT : Hid (∀ W, Later wd W → Calls Tryd.prog 43 #[.agg #[.bool true, .slice pk (nlen nn) kk]] W fun e w' => e = .returned (.tuple #[.int .i64 (intV true nn), .bool true]) ∧ Later W w') := Lib.hid (fun W hl => by
                          have h9 := rint_any _ true nn W ⟨_, rfl, HNUM.out.later hl⟩ HNL.out
                          rw [hf] at h9
                          exact h9)
                        obtain ⟨iv, hivv⟩ : ∃ iv, intV true nn = iv := ⟨_, rfl⟩
                        rw [hivv] at HR1 HINT
                        clear hv1 hv2 hnlead hnneg hmnv hf hi hiv hivv hnn
                        clear HNP HMD HDG HBB HBN HNUM
                        go_wp2_with (go_at_call 43; go_must (refine (HINT.out _ (by repeat (first | with_reducible exact Later.refl _ | with_reducible assumption | with_reducible refine Later.ofdrew ?_ | with_reducible refine Later.ofdrewN ?_ | with_reducible refine Later.setCell ?_ ?_ _ | with_reducible refine Later.alloc ?_ _ | with_reducible refine Later.drewN ?_ _ | with_reducible refine Later.drew ?_ | (with_reducible refine Later.trans ?_ (by assumption)) | (simp only [World.size_setCell, World.size_alloc, World.heap_drewN]; omega) | (simp; done) | (simp; omega)))).mono ?_; rintro e w19 ⟨rfl, hb19⟩))
                        go_ret3
                        exact ⟨RPs.mk HR1.out, by repeat (first | with_reducible exact Later.refl _ | with_reducible assumption | with_reducible refine Later.ofdrew ?_ | with_reducible refine Later.ofdrewN ?_ | with_reducible refine Later.setCell ?_ ?_ _ | with_reducible refine Later.alloc ?_ _ | with_reducible refine Later.drewN ?_ _ | with_reducible refine Later.drew ?_ | (with_reducible refine Later.trans ?_ (by assumption)) | (simp only [World.size_setCell, World.size_alloc, World.heap_drewN]; omega) | (simp; done) | (simp; omega))⟩
                      | false =>
                        have hi := unfits_val hnn hf
                        have HR1 : Hid (MP s 0 0 11) := Lib.hid (hv2 hi)
                        have HINT : Hid (∀ W, Later wd W → Calls Tryd.prog 43 #[.agg #[.bool true, .slice pk (nlen nn) kk]] W fun e w' => e = .returned (.tuple #[.int .i64 (intV true nn), .bool false]) ∧ Later W w') := Lib.hid (fun W hl => by
                          have h9 := rint_any _ true nn W ⟨_, rfl, HNUM.out.later hl⟩ HNL.out
                          rw [hf] at h9
                          exact h9)
                        obtain ⟨iv, hivv⟩ : ∃ iv, intV true nn = iv := ⟨_, rfl⟩
                        rw [hivv] at HINT
                        clear hv1 hv2 hnlead hnneg hmnv hf hi hivv hnn
                        clear HNP HMD HDG HBB HBN HNUM
                        go_wp2_with (go_at_call 43; go_must (refine (HINT.out _ (by repeat (first | with_reducible exact Later.refl _ | with_reducible assumption | with_reducible refine Later.ofdrew ?_ | with_reducible refine Later.ofdrewN ?_ | with_reducible refine Later.setCell ?_ ?_ _ | with_reducible refine Later.alloc ?_ _ | with_reducible refine Later.drewN ?_ _ | with_reducible refine Later.drew ?_ | (with_reducible refine Later.trans ?_ (by assumption)) | (simp only [World.size_setCell, World.size_alloc, World.heap_drewN]; omega) | (simp; done) | (simp; omega)))).mono ?_; rintro e w19 ⟨rfl, hb19⟩))
                        go_ret3
                        exact ⟨RPs.mk HR1.out, by repeat (first | with_reducible exact Later.refl _ | with_reducible assumption | with_reducible refine Later.ofdrew ?_ | with_reducible refine Later.ofdrewN ?_ | with_reducible refine Later.setCell ?_ ?_ _ | with_reducible refine Later.alloc ?_ _ | with_reducible refine Later.drewN ?_ _ | with_reducible refine Later.drew ?_ | (with_reducible refine Later.trans ?_ (by assumption)) | (simp only [World.size_setCell, World.size_alloc, World.heap_drewN]; omega) | (simp; done) | (simp; omega))⟩
                · have hlongI : ¬ (((dgN c : Nat) : Int) + 1 < VB.size) := by omega
                  have hnlead : ¬ (dgN c + 1 < V.length ∧ V.head? = some 48) := fun e => hlong e.1
                  clear hhd hlong hvl
                  by_cases h0 : nn = 0
                  · have HR0 : Hid (MP s 0 0 13) := Lib.hid (HMD.out.2.2.1 ⟨HMN.out, by rw [← hnn]; exact h0⟩)
                    have hln : nlen nn = 0 := by rw [h0]; rfl
                    clear h0 hnn hnlead
                    clear HNP HMD HDG HBB HBN HNUM
                    go_wp2
                    go_ret3
                    exact ⟨RPs.mk HR0.out, by repeat (first | with_reducible exact Later.refl _ | with_reducible assumption | with_reducible refine Later.ofdrew ?_ | with_reducible refine Later.ofdrewN ?_ | with_reducible refine Later.setCell ?_ ?_ _ | with_reducible refine Later.alloc ?_ _ | with_reducible refine Later.drewN ?_ _ | with_reducible refine Later.drew ?_ | (with_reducible refine Later.trans ?_ (by assumption)) | (simp only [World.size_setCell, World.size_alloc, World.heap_drewN]; omega) | (simp; done) | (simp; omega))⟩
                  · have hnneg : ¬ (mn = true ∧ valD 0 V = 0) := fun e => h0 (by rw [hnn]; exact e.2)
                    have hln : ¬ ((nlen nn : Nat) : Int) = 0 := by have := (nlen_pos (n := nn)).2 (by omega); omega
                    clear h0
                    obtain ⟨hv1, hv2⟩ := HMD.out.2.2.2 HBB.out.symm hnlead hnneg
                    have hmnv : mn = true := HMN.out
                    rw [hmnv] at hv1 hv2
                    have HNL : Hid (nlen nn ≤ 40000) := Lib.hid (by rw [hnn]; have h8 := HBB.out; rw [eq_comm, Bool.and_eq_true] at h8; have := val_nlen h8.2 (by have := HVL.out; omega); rw [Int.natAbs_natCast] at this; omega)
                    cases hf : fitsB true nn with
                    | true =>
                      obtain ⟨hi, hiv⟩ := fits_val hnn hf
                      have HR1 : Hid (MP s (c : Nat) (intV true nn) 0) := Lib.hid (by rw [hiv]; exact hv1 hi)
                      have HINT : Hid (∀ W, Later wd W → Calls Tryd.prog 43 #[.agg #[.bool true, .slice pk (nlen nn) kk]] W fun e w' => e = .returned (.tuple #[.int .i64 (intV true nn), .bool true]) ∧ Later W w') := Lib.hid (fun W hl => by
                        have h9 := rint_any _ true nn W ⟨_, rfl, HNUM.out.later hl⟩ HNL.out
                        rw [hf] at h9
                        exact h9)
                      obtain ⟨iv, hivv⟩ : ∃ iv, intV true nn = iv := ⟨_, rfl⟩
                      rw [hivv] at HR1 HINT
                      clear hv1 hv2 hnlead hnneg hmnv hf hi hiv hivv hnn
                      clear HNP HMD HDG HBB HBN HNUM
                      go_wp2_with (go_at_call 43; go_must (refine (HINT.out _ (by repeat (first | with_reducible exact Later.refl _ | with_reducible assumption | with_reducible refine Later.ofdrew ?_ | with_reducible refine Later.ofdrewN ?_ | with_reducible refine Later.setCell ?_ ?_ _ | with_reducible refine Later.alloc ?_ _ | with_reducible refine Later.drewN ?_ _ | with_reducible refine Later.drew ?_ | (with_reducible refine Later.trans ?_ (by assumption)) | (simp only [World.size_setCell, World.size_alloc, World.heap_drewN]; omega) | (simp; done) | (simp; omega)))).mono ?_; rintro e w19 ⟨rfl, hb19⟩))
                      go_ret3
                      exact ⟨RPs.mk HR1.out, by repeat (first | with_reducible exact Later.refl _ | with_reducible assumption | with_reducible refine Later.ofdrew ?_ | with_reducible refine Later.ofdrewN ?_ | with_reducible refine Later.setCell ?_ ?_ _ | with_reducible refine Later.alloc ?_ _ | with_reducible refine Later.drewN ?_ _ | with_reducible refine Later.drew ?_ | (with_reducible refine Later.trans ?_ (by assumption)) | (simp only [World.size_setCell, World.size_alloc, World.heap_drewN]; omega) | (simp; done) | (simp; omega))⟩
                    | false =>
                      have hi := unfits_val hnn hf
                      have HR1 : Hid (MP s 0 0 11) := Lib.hid (hv2 hi)
                      have HINT : Hid (∀ W, Later wd W → Calls Tryd.prog 43 #[.agg #[.bool true, .slice pk (nlen nn) kk]] W fun e w' => e = .returned (.tuple #[.int .i64 (intV true nn), .bool false]) ∧ Later W w') := Lib.hid (fun W hl => by
                        have h9 := rint_any _ true nn W ⟨_, rfl, HNUM.out.later hl⟩ HNL.out
                        rw [hf] at h9
                        exact h9)
                      obtain ⟨iv, hivv⟩ : ∃ iv, intV true nn = iv := ⟨_, rfl⟩
                      rw [hivv] at HINT
                      clear hv1 hv2 hnlead hnneg hmnv hf hi hivv hnn
                      clear HNP HMD HDG HBB HBN HNUM
                      go_wp2_with (go_at_call 43; go_must (refine (HINT.out _ (by repeat (first | with_reducible exact Later.refl _ | with_reducible assumption | with_reducible refine Later.ofdrew ?_ | with_reducible refine Later.ofdrewN ?_ | with_reducible refine Later.setCell ?_ ?_ _ | with_reducible refine Later.alloc ?_ _ | with_reducible refine Later.drewN ?_ _ | with_reducible refine Later.drew ?_ | (with_reducible refine Later.trans ?_ (by assumption)) | (simp only [World.size_setCell, World.size_alloc, World.heap_drewN]; omega) | (simp; done) | (simp; omega)))).mono ?_; rintro e w19 ⟨rfl, hb19⟩))
                      go_ret3
                      exact ⟨RPs.mk HR1.out, by repeat (first | with_reducible exact Later.refl _ | with_reducible assumption | with_reducible refine Later.ofdrew ?_ | with_reducible refine Later.ofdrewN ?_ | with_reducible refine Later.setCell ?_ ?_ _ | with_reducible refine Later.alloc ?_ _ | with_reducible refine Later.drewN ?_ _ | with_reducible refine Later.drew ?_ | (with_reducible refine Later.trans ?_ (by assumption)) | (simp only [World.size_setCell, World.size_alloc, World.heap_drewN]; omega) | (simp; done) | (simp; omega))⟩
            · have h46a : ((P[m + 1].toNat : Int) != 46) = true := by
                rw [bne_iff_ne]; intro e
                exact h46 (UInt8.toNat_inj.1 (by show P[m + 1].toNat = 46; omega))
              have HR0 : Hid (MP s 0 0 13) := Lib.hid (HNP.out HK0.out (.inr (fun e => h46 (by
                have e1 : plain.length - dgN c - 1 = m + 1 := by have := HPZ.out; have := HM.out; omega
                rw [e1] at e
                have e2 := HP.out
                subst e2
                rw [List.getElem?_eq_getElem (by have := HPZ.out; omega)] at e
                exact Option.some.inj e))))
              clear HMD0 HNP h46
              go_wp2
              go_ret3
              exact ⟨RPs.mk HR0.out, by repeat (first | with_reducible exact Later.refl _ | with_reducible assumption | with_reducible refine Later.ofdrew ?_ | with_reducible refine Later.ofdrewN ?_ | with_reducible refine Later.setCell ?_ ?_ _ | with_reducible refine Later.alloc ?_ _ | with_reducible refine Later.drewN ?_ _ | with_reducible refine Later.drew ?_ | (with_reducible refine Later.trans ?_ (by assumption)) | (simp only [World.size_setCell, World.size_alloc, World.heap_drewN]; omega) | (simp; done) | (simp; omega))⟩
      · have h45a : ((R[0].toNat : Int) == 45) = false := by
          rw [beq_eq_false_iff_ne]; intro e
          exact h45 (UInt8.toNat_inj.1 (by show R[0].toNat = 45; omega))
        obtain ⟨plain, hplain⟩ : ∃ p, s.drop 4 = p := ⟨_, rfl⟩
        have hP : ByteArray.mk plain.toArray = R := by rw [← hplain]; exact HR2.out
        have hpl : s = nmL c ++ 32 :: ((if false = true then [45] else []) ++ plain) := by rw [if_neg (by decide), List.nil_append, ← hplain]; exact HSP.out
        have hm45 : false = false → plain.head? ≠ some 45 := fun _ e => by
          cases plain with
          | nil => cases e
          | cons x r =>
            refine h45 ?_
            have hg : R[0] = x := by subst hP; rfl
            rw [hg]; exact Option.some.inj e
        have hpn : plain.length ≤ 60 := by rw [← hplain, List.length_drop]; have := HL5.out; omega
        clear hplain h45
        go_upto_region 15 with (fail)
        obtain ⟨P, hRP⟩ : ∃ P, R = P := ⟨_, rfl⟩
        subst hRP
        obtain ⟨mn, hmn⟩ : ∃ mn : Bool, mn = false := ⟨_, rfl⟩
        have HMD0 := Lib.hid (fun V hV => mp_digits (s := s) (plain := plain) (V := V) (minus := mn) hc (by rw [hmn]; exact hpl) (by rw [hmn]; exact hm45) hV)
        have HNP := Lib.hid (fun hk h => no_point hc hpl hm45 hk h)
        have HMN := Lib.hid hmn
        clear hmn
        have HP := Lib.hid hP
        have hPz : R.size = plain.length := by rw [← hP, ba_len]
        have HPZ := Lib.hid hPz
        have hPm : R.size ≤ 60 := by omega
        clear hP hpl hm45 hPz hpn HR HR2 HSP HRZ
        refine wp_opaque (fun w12 hb12 => ?_)
        have hw12 : Later w w12 := by repeat (first | with_reducible exact Later.refl _ | with_reducible assumption | with_reducible refine Later.ofdrew ?_ | with_reducible refine Later.ofdrewN ?_ | with_reducible refine Later.setCell ?_ ?_ _ | with_reducible refine Later.alloc ?_ _ | with_reducible refine Later.drewN ?_ _ | with_reducible refine Later.drew ?_ | (with_reducible refine Later.trans ?_ (by assumption)) | (simp only [World.size_setCell, World.size_alloc, World.heap_drewN]; omega) | (simp; done) | (simp; omega))
        go_upto_region 16 with (go_at_call 24; go_must (refine (HRD.out _).mono ?_; rintro e w13 ⟨rfl, hb13⟩))
        by_cases hk : dgN c = 0
        · have hkI : ¬ ((0 : Int) < (dgN c : Nat)) := by omega
          go_upto_region 20 with (fail)
          have HMD := Lib.hid (HMD0.out plain (.inr ⟨hk, rfl⟩))
          have HDG := Lib.hid (fun W => rdig_any plain (by have := HPZ.out; omega) W)
          rw [HP.out] at HDG
          have HVB := HP
          go_upto_region 21 with (go_at_call 42; go_must (refine (HDG.out _).mono ?_; rintro e wd ⟨⟨r, nn, b, rfl, hbig, hbb, hbn⟩, hbd⟩; obtain ⟨pk, kk, er, hnum⟩ := hbig.open; subst er; have HBB := Lib.hid hbb; have HBN := Lib.hid hbn; have HNUM := Lib.hid hnum; clear hbb hbn hbig hnum))
          have hwd : Later w wd := by repeat (first | with_reducible exact Later.refl _ | with_reducible assumption | with_reducible refine Later.ofdrew ?_ | with_reducible refine Later.ofdrewN ?_ | with_reducible refine Later.setCell ?_ ?_ _ | with_reducible refine Later.alloc ?_ _ | with_reducible refine Later.drewN ?_ _ | with_reducible refine Later.drew ?_ | (with_reducible refine Later.trans ?_ (by assumption)) | (simp only [World.size_setCell, World.size_alloc, World.heap_drewN]; omega) | (simp; done) | (simp; omega))
          have hzw := Later.size hwd
          refine wp_opaque (fun wz hbz => ?_)
          have hO := Own.one hbz
          have hwz := hbz.un1
          clear hbz
          obtain ⟨⟨zo, co, fo⟩, -⟩ := id hO
          cases b with
          | false =>
            have HR0 : Hid (MP s 0 0 13) := Lib.hid (HMD.out.1 HBB.out.symm)
            clear HMD0 HNP HMD HDG HBB HBN HNUM
            go_wp2
            go_ret3
            exact ⟨RPs.mk HR0.out, by repeat (first | with_reducible exact Later.refl _ | with_reducible assumption | with_reducible refine Later.ofdrew ?_ | with_reducible refine Later.ofdrewN ?_ | with_reducible refine Later.setCell ?_ ?_ _ | with_reducible refine Later.alloc ?_ _ | with_reducible refine Later.drewN ?_ _ | with_reducible refine Later.drew ?_ | (with_reducible refine Later.trans ?_ (by assumption)) | (simp only [World.size_setCell, World.size_alloc, World.heap_drewN]; omega) | (simp; done) | (simp; omega))⟩
          | true =>
            have hnn : nn = valD 0 plain := HBN.out rfl
            have hvl : R.size = plain.length := by rw [← HVB.out, ba_len]
            have HVL := Lib.hid hvl
            have hvp : 0 < R.size := by
              have := HBB.out
              rw [hvl]
              cases hh : plain with
              | nil => rw [hh] at this; cases this
              | cons _ _ => simp
            have hvpI : (0 : Int) < R.size := by omega
            have hhd : plain.head? = some R[0] := head_ba HVB.out hvp
            by_cases hlong : dgN c + 1 < plain.length
            · have hlongI : ((dgN c : Nat) : Int) + 1 < R.size := by omega
              by_cases h48 : R[0] = 48
              · have HR0 : Hid (MP s 0 0 13) := Lib.hid (HMD.out.2.1 ⟨hlong, by rw [hhd, h48]⟩)
                have h48a : ((R[0].toNat : Int) == 48) = true := by rw [beq_iff_eq, h48]; rfl
                clear hhd hnn h48 hlong hvl
                clear HMD0 HNP HMD HDG HBB HBN HNUM
                go_wp2
                go_ret3
                exact ⟨RPs.mk HR0.out, by repeat (first | with_reducible exact Later.refl _ | with_reducible assumption | with_reducible refine Later.ofdrew ?_ | with_reducible refine Later.ofdrewN ?_ | with_reducible refine Later.setCell ?_ ?_ _ | with_reducible refine Later.alloc ?_ _ | with_reducible refine Later.drewN ?_ _ | with_reducible refine Later.drew ?_ | (with_reducible refine Later.trans ?_ (by assumption)) | (simp only [World.size_setCell, World.size_alloc, World.heap_drewN]; omega) | (simp; done) | (simp; omega))⟩
              · have h48a : ((R[0].toNat : Int) == 48) = false := by
                  rw [beq_eq_false_iff_ne]; intro e
                  exact h48 (UInt8.toNat_inj.1 (by show R[0].toNat = 48; omega))
                have hnlead : ¬ (dgN c + 1 < plain.length ∧ plain.head? = some 48) := fun e => h48 (by rw [hhd] at e; exact Option.some.inj e.2)
                clear hhd h48 hlong hvl
                have hnneg : ¬ (mn = true ∧ valD 0 plain = 0) := fun e => by rw [HMN.out] at e; exact absurd e.1 (by decide)
                obtain ⟨hv1, hv2⟩ := HMD.out.2.2.2 HBB.out.symm hnlead hnneg
                have hmnv : mn = false := HMN.out
                rw [hmnv] at hv1 hv2
                have HNL : Hid (nlen nn ≤ 40000) := Lib.hid (by rw [hnn]; have h8 := HBB.out; rw [eq_comm, Bool.and_eq_true] at h8; have := val_nlen h8.2 (by have := HVL.out; omega); rw [Int.natAbs_natCast] at this; omega)
                cases hf : fitsB false nn with
                | true =>
                  obtain ⟨hi, hiv⟩ := fits_val hnn hf
                  have HR1 : Hid (MP s (c : Nat) (intV false nn) 0) := Lib.hid (by rw [hiv]; exact hv1 hi)
                  have HINT : Hid (∀ W, Later wd W → Calls Tryd.prog 43 #[.agg #[.bool false, .slice pk (nlen nn) kk]] W fun e w' => e = .returned (.tuple #[.int .i64 (intV false nn), .bool true]) ∧ Later W w') := Lib.hid (fun W hl => by
                    have h9 := rint_any _ false nn W ⟨_, rfl, HNUM.out.later hl⟩ HNL.out
                    rw [hf] at h9
                    exact h9)
                  obtain ⟨iv, hivv⟩ : ∃ iv, intV false nn = iv := ⟨_, rfl⟩
                  rw [hivv] at HR1 HINT
                  clear hv1 hv2 hnlead hnneg hmnv hf hi hiv hivv hnn
                  clear HMD0 HNP HMD HDG HBB HBN HNUM
                  go_wp2_with (go_at_call 43; go_must (refine (HINT.out _ (by repeat (first | with_reducible exact Later.refl _ | with_reducible assumption | with_reducible refine Later.ofdrew ?_ | with_reducible refine Later.ofdrewN ?_ | with_reducible refine Later.setCell ?_ ?_ _ | with_reducible refine Later.alloc ?_ _ | with_reducible refine Later.drewN ?_ _ | with_reducible refine Later.drew ?_ | (with_reducible refine Later.trans ?_ (by assumption)) | (simp only [World.size_setCell, World.size_alloc, World.heap_drewN]; omega) | (simp; done) | (simp; omega)))).mono ?_; rintro e w19 ⟨rfl, hb19⟩))
                  go_ret3
                  exact ⟨RPs.mk HR1.out, by repeat (first | with_reducible exact Later.refl _ | with_reducible assumption | with_reducible refine Later.ofdrew ?_ | with_reducible refine Later.ofdrewN ?_ | with_reducible refine Later.setCell ?_ ?_ _ | with_reducible refine Later.alloc ?_ _ | with_reducible refine Later.drewN ?_ _ | with_reducible refine Later.drew ?_ | (with_reducible refine Later.trans ?_ (by assumption)) | (simp only [World.size_setCell, World.size_alloc, World.heap_drewN]; omega) | (simp; done) | (simp; omega))⟩
                | false =>
                  have hi := unfits_val hnn hf
                  have HR1 : Hid (MP s 0 0 11) := Lib.hid (hv2 hi)
                  have HINT : Hid (∀ W, Later wd W → Calls Tryd.prog 43 #[.agg #[.bool false, .slice pk (nlen nn) kk]] W fun e w' => e = .returned (.tuple #[.int .i64 (intV false nn), .bool false]) ∧ Later W w') := Lib.hid (fun W hl => by
                    have h9 := rint_any _ false nn W ⟨_, rfl, HNUM.out.later hl⟩ HNL.out
                    rw [hf] at h9
                    exact h9)
                  obtain ⟨iv, hivv⟩ : ∃ iv, intV false nn = iv := ⟨_, rfl⟩
                  rw [hivv] at HINT
                  clear hv1 hv2 hnlead hnneg hmnv hf hi hivv hnn
                  clear HMD0 HNP HMD HDG HBB HBN HNUM
                  go_wp2_with (go_at_call 43; go_must (refine (HINT.out _ (by repeat (first | with_reducible exact Later.refl _ | with_reducible assumption | with_reducible refine Later.ofdrew ?_ | with_reducible refine Later.ofdrewN ?_ | with_reducible refine Later.setCell ?_ ?_ _ | with_reducible refine Later.alloc ?_ _ | with_reducible refine Later.drewN ?_ _ | with_reducible refine Later.drew ?_ | (with_reducible refine Later.trans ?_ (by assumption)) | (simp only [World.size_setCell, World.size_alloc, World.heap_drewN]; omega) | (simp; done) | (simp; omega)))).mono ?_; rintro e w19 ⟨rfl, hb19⟩))
                  go_ret3
                  exact ⟨RPs.mk HR1.out, by repeat (first | with_reducible exact Later.refl _ | with_reducible assumption | with_reducible refine Later.ofdrew ?_ | with_reducible refine Later.ofdrewN ?_ | with_reducible refine Later.setCell ?_ ?_ _ | with_reducible refine Later.alloc ?_ _ | with_reducible refine Later.drewN ?_ _ | with_reducible refine Later.drew ?_ | (with_reducible refine Later.trans ?_ (by assumption)) | (simp only [World.size_setCell, World.size_alloc, World.heap_drewN]; omega) | (simp; done) | (simp; omega))⟩
            · have hlongI : ¬ (((dgN c : Nat) : Int) + 1 < R.size) := by omega
              have hnlead : ¬ (dgN c + 1 < plain.length ∧ plain.head? = some 48) := fun e => hlong e.1
              clear hhd hlong hvl
              have hnneg : ¬ (mn = true ∧ valD 0 plain = 0) := fun e => by rw [HMN.out] at e; exact absurd e.1 (by decide)
              obtain ⟨hv1, hv2⟩ := HMD.out.2.2.2 HBB.out.symm hnlead hnneg
              have hmnv : mn = false := HMN.out
              rw [hmnv] at hv1 hv2
              have HNL : Hid (nlen nn ≤ 40000) := Lib.hid (by rw [hnn]; have h8 := HBB.out; rw [eq_comm, Bool.and_eq_true] at h8; have := val_nlen h8.2 (by have := HVL.out; omega); rw [Int.natAbs_natCast] at this; omega)
              cases hf : fitsB false nn with
              | true =>
                obtain ⟨hi, hiv⟩ := fits_val hnn hf
                have HR1 : Hid (MP s (c : Nat) (intV false nn) 0) := Lib.hid (by rw [hiv]; exact hv1 hi)
                have HINT : Hid (∀ W, Later wd W → Calls Tryd.prog 43 #[.agg #[.bool false, .slice pk (nlen nn) kk]] W fun e w' => e = .returned (.tuple #[.int .i64 (intV false nn), .bool true]) ∧ Later W w') := Lib.hid (fun W hl => by
                  have h9 := rint_any _ false nn W ⟨_, rfl, HNUM.out.later hl⟩ HNL.out
                  rw [hf] at h9
                  exact h9)
                obtain ⟨iv, hivv⟩ : ∃ iv, intV false nn = iv := ⟨_, rfl⟩
                rw [hivv] at HR1 HINT
                clear hv1 hv2 hnlead hnneg hmnv hf hi hiv hivv hnn
                clear HMD0 HNP HMD HDG HBB HBN HNUM
                go_wp2_with (go_at_call 43; go_must (refine (HINT.out _ (by repeat (first | with_reducible exact Later.refl _ | with_reducible assumption | with_reducible refine Later.ofdrew ?_ | with_reducible refine Later.ofdrewN ?_ | with_reducible refine Later.setCell ?_ ?_ _ | with_reducible refine Later.alloc ?_ _ | with_reducible refine Later.drewN ?_ _ | with_reducible refine Later.drew ?_ | (with_reducible refine Later.trans ?_ (by assumption)) | (simp only [World.size_setCell, World.size_alloc, World.heap_drewN]; omega) | (simp; done) | (simp; omega)))).mono ?_; rintro e w19 ⟨rfl, hb19⟩))
                go_ret3
                exact ⟨RPs.mk HR1.out, by repeat (first | with_reducible exact Later.refl _ | with_reducible assumption | with_reducible refine Later.ofdrew ?_ | with_reducible refine Later.ofdrewN ?_ | with_reducible refine Later.setCell ?_ ?_ _ | with_reducible refine Later.alloc ?_ _ | with_reducible refine Later.drewN ?_ _ | with_reducible refine Later.drew ?_ | (with_reducible refine Later.trans ?_ (by assumption)) | (simp only [World.size_setCell, World.size_alloc, World.heap_drewN]; omega) | (simp; done) | (simp; omega))⟩
              | false =>
                have hi := unfits_val hnn hf
                have HR1 : Hid (MP s 0 0 11) := Lib.hid (hv2 hi)
                have HINT : Hid (∀ W, Later wd W → Calls Tryd.prog 43 #[.agg #[.bool false, .slice pk (nlen nn) kk]] W fun e w' => e = .returned (.tuple #[.int .i64 (intV false nn), .bool false]) ∧ Later W w') := Lib.hid (fun W hl => by
                  have h9 := rint_any _ false nn W ⟨_, rfl, HNUM.out.later hl⟩ HNL.out
                  rw [hf] at h9
                  exact h9)
                obtain ⟨iv, hivv⟩ : ∃ iv, intV false nn = iv := ⟨_, rfl⟩
                rw [hivv] at HINT
                clear hv1 hv2 hnlead hnneg hmnv hf hi hivv hnn
                clear HMD0 HNP HMD HDG HBB HBN HNUM
                go_wp2_with (go_at_call 43; go_must (refine (HINT.out _ (by repeat (first | with_reducible exact Later.refl _ | with_reducible assumption | with_reducible refine Later.ofdrew ?_ | with_reducible refine Later.ofdrewN ?_ | with_reducible refine Later.setCell ?_ ?_ _ | with_reducible refine Later.alloc ?_ _ | with_reducible refine Later.drewN ?_ _ | with_reducible refine Later.drew ?_ | (with_reducible refine Later.trans ?_ (by assumption)) | (simp only [World.size_setCell, World.size_alloc, World.heap_drewN]; omega) | (simp; done) | (simp; omega)))).mono ?_; rintro e w19 ⟨rfl, hb19⟩))
                go_ret3
                exact ⟨RPs.mk HR1.out, by repeat (first | with_reducible exact Later.refl _ | with_reducible assumption | with_reducible refine Later.ofdrew ?_ | with_reducible refine Later.ofdrewN ?_ | with_reducible refine Later.setCell ?_ ?_ _ | with_reducible refine Later.alloc ?_ _ | with_reducible refine Later.drewN ?_ _ | with_reducible refine Later.drew ?_ | (with_reducible refine Later.trans ?_ (by assumption)) | (simp only [World.size_setCell, World.size_alloc, World.heap_drewN]; omega) | (simp; done) | (simp; omega))⟩
        · have hkI : (0 : Int) < (dgN c : Nat) := by omega
          have hk0 : 0 < dgN c := by omega
          have hd6 := dgN_le c
          by_cases hA : R.size < dgN c + 2
          · have hAI : (R.size : Int) < (dgN c : Nat) + 2 := by omega
            have HR0 : Hid (MP s 0 0 13) := Lib.hid (HNP.out hk0 (.inl (by have := HPZ.out; omega)))
            clear HMD0 HNP hA hk0
            go_wp2
            go_ret3
            exact ⟨RPs.mk HR0.out, by repeat (first | with_reducible exact Later.refl _ | with_reducible assumption | with_reducible refine Later.ofdrew ?_ | with_reducible refine Later.ofdrewN ?_ | with_reducible refine Later.setCell ?_ ?_ _ | with_reducible refine Later.alloc ?_ _ | with_reducible refine Later.drewN ?_ _ | with_reducible refine Later.drew ?_ | (with_reducible refine Later.trans ?_ (by assumption)) | (simp only [World.size_setCell, World.size_alloc, World.heap_drewN]; omega) | (simp; done) | (simp; omega))⟩
          · obtain ⟨m, hm⟩ : ∃ m, R.size = dgN c + 2 + m := ⟨R.size - dgN c - 2, by omega⟩
            have hAI : ¬ ((R.size : Int) < (dgN c : Nat) + 2) := by omega
            have hix : (R.size : Int) - (dgN c : Nat) - 1 = ((m + 1 : Nat) : Int) := by omega
            have hml : m + 1 < R.size := by omega
            have HM := Lib.hid hm
            have HK0 := Lib.hid hk0
            clear hA hm hk0
            by_cases h46 : R[m + 1] = 46
            · have h46a : ((R[m + 1].toNat : Int) != 46) = false := by rw [bne_eq_false_iff_eq, h46]; rfl
              have hix2 : (R.size : Int) - (dgN c : Nat) = ((m + 2 : Nat) : Int) := by have := HM.out; omega
              have hm1 : ((m + 1 : Nat) : Int) ≤ R.size := by omega
              have hm2 : ((m + 2 : Nat) : Int) ≤ R.size := by have := HM.out; omega
              have h46o : plain[plain.length - dgN c - 1]? = some 46 := by
                have e1 : plain.length - dgN c - 1 = m + 1 := by have := HPZ.out; have := HM.out; omega
                rw [e1]
                have e2 := HP.out
                subst e2
                rw [List.getElem?_eq_getElem (by have := HPZ.out; omega)]
                exact congrArg some h46
              have hback := unP_back HK0.out (by have := HPZ.out; have := HM.out; omega) h46o
              obtain ⟨V, hV⟩ : ∃ V, unP (dgN c) plain = V := ⟨_, rfl⟩
              have hcat : R.extract 0 (m + 1) ++ R.extract (m + 2) R.size = ⟨V.toArray⟩ := by
                have e1 : plain.length - dgN c - 1 = m + 1 := by have := HPZ.out; have := HM.out; omega
                have e2 : plain.length - dgN c = m + 2 := by have := HPZ.out; have := HM.out; omega
                rw [← hV, ext_upto HP.out, ext_from HP.out]
                unfold unP
                rw [e1, e2, ba_app]
              rw [hV] at hback
              have hVl : V.length ≤ 60 := by
                rw [← hV]; unfold unP; rw [List.length_append, List.length_take, List.length_drop]; have := HPZ.out; omega
              have HMD := Lib.hid (HMD0.out V (.inl ⟨HK0.out, hback.1, hback.2⟩))
              obtain ⟨VB, hVB⟩ : ∃ VB, ByteArray.mk V.toArray = VB := ⟨_, rfl⟩
              rw [hVB] at hcat
              have HVB := Lib.hid hVB
              have HDG := Lib.hid (fun W => rdig_any V (by omega) W)
              rw [hVB] at HDG
              have hVm : VB.size ≤ 60 := by rw [← hVB, ba_len]; exact hVl
              have HCAT := Lib.hid hcat
              clear hback hV hVB hcat h46o h46 HMD0
              go_upto_region 19 with (fail)
              clear h46a
              go_cut [7] (fun s7 wx => s7 = .string VB ∧ wx = w13.drew)
              case first =>
                refine wp_region_plan 15 (.two [0, 1, 3, 7, 8, 10] 2 (.one [4, 5, 6] 9 (.done [11, 12, 13, 14])) 9 (.one [11, 12] 2 (.done [4, 5, 6, 13, 14]))) (by kernel_rfl) (by kernel_rfl) (fun _ _ d _ _ h => by cases d <;> exact h) ?_
                refine plan_two (by rfl) (by rfl) (fun K hK => ?_)
                simp only [pick_cons, pick_nil, toList_some_append, List.getElem?_toArray, List.getElem?_cons_zero, List.getElem?_cons_succ]
                repeat (go_big_quiet_step (fail))
                refine wpQuiet_nil (hK _ ?_)
                clear hK K
                refine ⟨?way1_1, ?way1_2⟩
                case' way1_2 =>
                  go_wp2_with (fail)
                  refine behind (by repeat (first | with_reducible exact Later.refl _ | with_reducible assumption | with_reducible refine Later.ofdrew ?_ | with_reducible refine Later.ofdrewN ?_ | with_reducible refine Later.alloc ?_ _ | with_reducible refine Later.drewN ?_ _ | with_reducible refine Later.drew ?_ | (with_reducible refine Later.trans ?_ (by assumption)))) ?_
                  refine plan_one (by rfl) (fun K hK => ?_)
                  simp only [pick_cons, pick_nil, toList_some_append, List.getElem?_toArray, List.getElem?_cons_zero, List.getElem?_cons_succ]
                  repeat (go_big_quiet_step (fail))
                  refine wpQuiet_nil (hK _ ?_)
                  clear hK K
                  go_wp2_with (fail)
                  refine behind (by repeat (first | with_reducible exact Later.refl _ | with_reducible assumption | with_reducible refine Later.ofdrew ?_ | with_reducible refine Later.ofdrewN ?_ | with_reducible refine Later.alloc ?_ _ | with_reducible refine Later.drewN ?_ _ | with_reducible refine Later.drew ?_ | (with_reducible refine Later.trans ?_ (by assumption)))) ?_
                  refine plan_done (fun K hK => ?_)
                  simp only [pick_cons, pick_nil, toList_some_append, List.getElem?_toArray, List.getElem?_cons_zero, List.getElem?_cons_succ]
                  repeat (go_big_quiet_step (fail))
                  refine wpQuiet_nil (hK _ ?_)
                  clear hK K
                case' way1_1 =>
                  go_wp2_with (fail)
                  refine behind (by repeat (first | with_reducible exact Later.refl _ | with_reducible assumption | with_reducible refine Later.ofdrew ?_ | with_reducible refine Later.ofdrewN ?_ | with_reducible refine Later.alloc ?_ _ | with_reducible refine Later.drewN ?_ _ | with_reducible refine Later.drew ?_ | (with_reducible refine Later.trans ?_ (by assumption)))) ?_
                  refine plan_one (by rfl) (fun K hK => ?_)
                  simp only [pick_cons, pick_nil, toList_some_append, List.getElem?_toArray, List.getElem?_cons_zero, List.getElem?_cons_succ]
                  repeat (go_big_quiet_step (fail))
                  refine wpQuiet_nil (hK _ ?_)
                  clear hK K
                  go_wp2_with (fail)
                  refine behind (by repeat (first | with_reducible exact Later.refl _ | with_reducible assumption | with_reducible refine Later.ofdrew ?_ | with_reducible refine Later.ofdrewN ?_ | with_reducible refine Later.alloc ?_ _ | with_reducible refine Later.drewN ?_ _ | with_reducible refine Later.drew ?_ | (with_reducible refine Later.trans ?_ (by assumption)))) ?_
                  refine plan_done (fun K hK => ?_)
                  simp only [pick_cons, pick_nil, toList_some_append, List.getElem?_toArray, List.getElem?_cons_zero, List.getElem?_cons_succ]
                  repeat (go_big_quiet_step (fail))
                  refine wpQuiet_nil (hK _ ?_)
                  clear hK K
                all_goals (go_wp2_with fail; go_meet; exact ⟨congrArg Value.string HCAT.out, rfl⟩)
              case rest =>
              obtain ⟨rfl, rfl⟩ := hcut
              clear hix hix2 hm1 hm2 hAI HCAT
              go_upto_region 21 with (go_at_call 42; go_must (refine (HDG.out _).mono ?_; rintro e wd ⟨⟨r, nn, b, rfl, hbig, hbb, hbn⟩, hbd⟩; obtain ⟨pk, kk, er, hnum⟩ := hbig.open; subst er; have HBB := Lib.hid hbb; have HBN := Lib.hid hbn; have HNUM := Lib.hid hnum; clear hbb hbn hbig hnum))
              have hwd : Later w wd := by repeat (first | with_reducible exact Later.refl _ | with_reducible assumption | with_reducible refine Later.ofdrew ?_ | with_reducible refine Later.ofdrewN ?_ | with_reducible refine Later.setCell ?_ ?_ _ | with_reducible refine Later.alloc ?_ _ | with_reducible refine Later.drewN ?_ _ | with_reducible refine Later.drew ?_ | (with_reducible refine Later.trans ?_ (by assumption)) | (simp only [World.size_setCell, World.size_alloc, World.heap_drewN]; omega) | (simp; done) | (simp; omega))
              have hzw := Later.size hwd
              refine wp_opaque (fun wz hbz => ?_)
              have hO := Own.one hbz
              have hwz := hbz.un1
              clear hbz
              obtain ⟨⟨zo, co, fo⟩, -⟩ := id hO
              cases b with
              | false =>
                have HR0 : Hid (MP s 0 0 13) := Lib.hid (HMD.out.1 HBB.out.symm)
                clear HNP HMD HDG HBB HBN HNUM
                go_wp2
                go_ret3
                exact ⟨RPs.mk HR0.out, by repeat (first | with_reducible exact Later.refl _ | with_reducible assumption | with_reducible refine Later.ofdrew ?_ | with_reducible refine Later.ofdrewN ?_ | with_reducible refine Later.setCell ?_ ?_ _ | with_reducible refine Later.alloc ?_ _ | with_reducible refine Later.drewN ?_ _ | with_reducible refine Later.drew ?_ | (with_reducible refine Later.trans ?_ (by assumption)) | (simp only [World.size_setCell, World.size_alloc, World.heap_drewN]; omega) | (simp; done) | (simp; omega))⟩
              | true =>
                have hnn : nn = valD 0 V := HBN.out rfl
                have hvl : VB.size = V.length := by rw [← HVB.out, ba_len]
                have HVL := Lib.hid hvl
                have hvp : 0 < VB.size := by
                  have := HBB.out
                  rw [hvl]
                  cases hh : V with
                  | nil => rw [hh] at this; cases this
                  | cons _ _ => simp
                have hvpI : (0 : Int) < VB.size := by omega
                have hhd : V.head? = some VB[0] := head_ba HVB.out hvp
                by_cases hlong : dgN c + 1 < V.length
                · have hlongI : ((dgN c : Nat) : Int) + 1 < VB.size := by omega
                  by_cases h48 : VB[0] = 48
                  · have HR0 : Hid (MP s 0 0 13) := Lib.hid (HMD.out.2.1 ⟨hlong, by rw [hhd, h48]⟩)
                    have h48a : ((VB[0].toNat : Int) == 48) = true := by rw [beq_iff_eq, h48]; rfl
                    clear hhd hnn h48 hlong hvl
                    clear HNP HMD HDG HBB HBN HNUM
                    go_wp2
                    go_ret3
                    exact ⟨RPs.mk HR0.out, by repeat (first | with_reducible exact Later.refl _ | with_reducible assumption | with_reducible refine Later.ofdrew ?_ | with_reducible refine Later.ofdrewN ?_ | with_reducible refine Later.setCell ?_ ?_ _ | with_reducible refine Later.alloc ?_ _ | with_reducible refine Later.drewN ?_ _ | with_reducible refine Later.drew ?_ | (with_reducible refine Later.trans ?_ (by assumption)) | (simp only [World.size_setCell, World.size_alloc, World.heap_drewN]; omega) | (simp; done) | (simp; omega))⟩
                  · have h48a : ((VB[0].toNat : Int) == 48) = false := by
                      rw [beq_eq_false_iff_ne]; intro e
                      exact h48 (UInt8.toNat_inj.1 (by show VB[0].toNat = 48; omega))
                    have hnlead : ¬ (dgN c + 1 < V.length ∧ V.head? = some 48) := fun e => h48 (by rw [hhd] at e; exact Option.some.inj e.2)
                    clear hhd h48 hlong hvl
                    have hnneg : ¬ (mn = true ∧ valD 0 V = 0) := fun e => by rw [HMN.out] at e; exact absurd e.1 (by decide)
                    obtain ⟨hv1, hv2⟩ := HMD.out.2.2.2 HBB.out.symm hnlead hnneg
                    have hmnv : mn = false := HMN.out
                    rw [hmnv] at hv1 hv2
                    have HNL : Hid (nlen nn ≤ 40000) := Lib.hid (by rw [hnn]; have h8 := HBB.out; rw [eq_comm, Bool.and_eq_true] at h8; have := val_nlen h8.2 (by have := HVL.out; omega); rw [Int.natAbs_natCast] at this; omega)
                    cases hf : fitsB false nn with
                    | true =>
                      obtain ⟨hi, hiv⟩ := fits_val hnn hf
                      have HR1 : Hid (MP s (c : Nat) (intV false nn) 0) := Lib.hid (by rw [hiv]; exact hv1 hi)
                      have HINT : Hid (∀ W, Later wd W → Calls Tryd.prog 43 #[.agg #[.bool false, .slice pk (nlen nn) kk]] W fun e w' => e = .returned (.tuple #[.int .i64 (intV false nn), .bool true]) ∧ Later W w') := Lib.hid (fun W hl => by
                        have h9 := rint_any _ false nn W ⟨_, rfl, HNUM.out.later hl⟩ HNL.out
                        rw [hf] at h9
                        exact h9)
                      obtain ⟨iv, hivv⟩ : ∃ iv, intV false nn = iv := ⟨_, rfl⟩
                      rw [hivv] at HR1 HINT
                      clear hv1 hv2 hnlead hnneg hmnv hf hi hiv hivv hnn
                      clear HNP HMD HDG HBB HBN HNUM
                      go_wp2_with (go_at_call 43; go_must (refine (HINT.out _ (by repeat (first | with_reducible exact Later.refl _ | with_reducible assumption | with_reducible refine Later.ofdrew ?_ | with_reducible refine Later.ofdrewN ?_ | with_reducible refine Later.setCell ?_ ?_ _ | with_reducible refine Later.alloc ?_ _ | with_reducible refine Later.drewN ?_ _ | with_reducible refine Later.drew ?_ | (with_reducible refine Later.trans ?_ (by assumption)) | (simp only [World.size_setCell, World.size_alloc, World.heap_drewN]; omega) | (simp; done) | (simp; omega)))).mono ?_; rintro e w19 ⟨rfl, hb19⟩))
                      go_ret3
                      exact ⟨RPs.mk HR1.out, by repeat (first | with_reducible exact Later.refl _ | with_reducible assumption | with_reducible refine Later.ofdrew ?_ | with_reducible refine Later.ofdrewN ?_ | with_reducible refine Later.setCell ?_ ?_ _ | with_reducible refine Later.alloc ?_ _ | with_reducible refine Later.drewN ?_ _ | with_reducible refine Later.drew ?_ | (with_reducible refine Later.trans ?_ (by assumption)) | (simp only [World.size_setCell, World.size_alloc, World.heap_drewN]; omega) | (simp; done) | (simp; omega))⟩
                    | false =>
                      have hi := unfits_val hnn hf
                      have HR1 : Hid (MP s 0 0 11) := Lib.hid (hv2 hi)
                      have HINT : Hid (∀ W, Later wd W → Calls Tryd.prog 43 #[.agg #[.bool false, .slice pk (nlen nn) kk]] W fun e w' => e = .returned (.tuple #[.int .i64 (intV false nn), .bool false]) ∧ Later W w') := Lib.hid (fun W hl => by
                        have h9 := rint_any _ false nn W ⟨_, rfl, HNUM.out.later hl⟩ HNL.out
                        rw [hf] at h9
                        exact h9)
                      obtain ⟨iv, hivv⟩ : ∃ iv, intV false nn = iv := ⟨_, rfl⟩
                      rw [hivv] at HINT
                      clear hv1 hv2 hnlead hnneg hmnv hf hi hivv hnn
                      clear HNP HMD HDG HBB HBN HNUM
                      go_wp2_with (go_at_call 43; go_must (refine (HINT.out _ (by repeat (first | with_reducible exact Later.refl _ | with_reducible assumption | with_reducible refine Later.ofdrew ?_ | with_reducible refine Later.ofdrewN ?_ | with_reducible refine Later.setCell ?_ ?_ _ | with_reducible refine Later.alloc ?_ _ | with_reducible refine Later.drewN ?_ _ | with_reducible refine Later.drew ?_ | (with_reducible refine Later.trans ?_ (by assumption)) | (simp only [World.size_setCell, World.size_alloc, World.heap_drewN]; omega) | (simp; done) | (simp; omega)))).mono ?_; rintro e w19 ⟨rfl, hb19⟩))
                      go_ret3
                      exact ⟨RPs.mk HR1.out, by repeat (first | with_reducible exact Later.refl _ | with_reducible assumption | with_reducible refine Later.ofdrew ?_ | with_reducible refine Later.ofdrewN ?_ | with_reducible refine Later.setCell ?_ ?_ _ | with_reducible refine Later.alloc ?_ _ | with_reducible refine Later.drewN ?_ _ | with_reducible refine Later.drew ?_ | (with_reducible refine Later.trans ?_ (by assumption)) | (simp only [World.size_setCell, World.size_alloc, World.heap_drewN]; omega) | (simp; done) | (simp; omega))⟩
                · have hlongI : ¬ (((dgN c : Nat) : Int) + 1 < VB.size) := by omega
                  have hnlead : ¬ (dgN c + 1 < V.length ∧ V.head? = some 48) := fun e => hlong e.1
                  clear hhd hlong hvl
                  have hnneg : ¬ (mn = true ∧ valD 0 V = 0) := fun e => by rw [HMN.out] at e; exact absurd e.1 (by decide)
                  obtain ⟨hv1, hv2⟩ := HMD.out.2.2.2 HBB.out.symm hnlead hnneg
                  have hmnv : mn = false := HMN.out
                  rw [hmnv] at hv1 hv2
                  have HNL : Hid (nlen nn ≤ 40000) := Lib.hid (by rw [hnn]; have h8 := HBB.out; rw [eq_comm, Bool.and_eq_true] at h8; have := val_nlen h8.2 (by have := HVL.out; omega); rw [Int.natAbs_natCast] at this; omega)
                  cases hf : fitsB false nn with
                  | true =>
                    obtain ⟨hi, hiv⟩ := fits_val hnn hf
                    have HR1 : Hid (MP s (c : Nat) (intV false nn) 0) := Lib.hid (by rw [hiv]; exact hv1 hi)
                    have HINT : Hid (∀ W, Later wd W → Calls Tryd.prog 43 #[.agg #[.bool false, .slice pk (nlen nn) kk]] W fun e w' => e = .returned (.tuple #[.int .i64 (intV false nn), .bool true]) ∧ Later W w') := Lib.hid (fun W hl => by
                      have h9 := rint_any _ false nn W ⟨_, rfl, HNUM.out.later hl⟩ HNL.out
                      rw [hf] at h9
                      exact h9)
                    obtain ⟨iv, hivv⟩ : ∃ iv, intV false nn = iv := ⟨_, rfl⟩
                    rw [hivv] at HR1 HINT
                    clear hv1 hv2 hnlead hnneg hmnv hf hi hiv hivv hnn
                    clear HNP HMD HDG HBB HBN HNUM
                    go_wp2_with (go_at_call 43; go_must (refine (HINT.out _ (by repeat (first | with_reducible exact Later.refl _ | with_reducible assumption | with_reducible refine Later.ofdrew ?_ | with_reducible refine Later.ofdrewN ?_ | with_reducible refine Later.setCell ?_ ?_ _ | with_reducible refine Later.alloc ?_ _ | with_reducible refine Later.drewN ?_ _ | with_reducible refine Later.drew ?_ | (with_reducible refine Later.trans ?_ (by assumption)) | (simp only [World.size_setCell, World.size_alloc, World.heap_drewN]; omega) | (simp; done) | (simp; omega)))).mono ?_; rintro e w19 ⟨rfl, hb19⟩))
                    go_ret3
                    exact ⟨RPs.mk HR1.out, by repeat (first | with_reducible exact Later.refl _ | with_reducible assumption | with_reducible refine Later.ofdrew ?_ | with_reducible refine Later.ofdrewN ?_ | with_reducible refine Later.setCell ?_ ?_ _ | with_reducible refine Later.alloc ?_ _ | with_reducible refine Later.drewN ?_ _ | with_reducible refine Later.drew ?_ | (with_reducible refine Later.trans ?_ (by assumption)) | (simp only [World.size_setCell, World.size_alloc, World.heap_drewN]; omega) | (simp; done) | (simp; omega))⟩
                  | false =>
                    have hi := unfits_val hnn hf
                    have HR1 : Hid (MP s 0 0 11) := Lib.hid (hv2 hi)
                    have HINT : Hid (∀ W, Later wd W → Calls Tryd.prog 43 #[.agg #[.bool false, .slice pk (nlen nn) kk]] W fun e w' => e = .returned (.tuple #[.int .i64 (intV false nn), .bool false]) ∧ Later W w') := Lib.hid (fun W hl => by
                      have h9 := rint_any _ false nn W ⟨_, rfl, HNUM.out.later hl⟩ HNL.out
                      rw [hf] at h9
                      exact h9)
                    obtain ⟨iv, hivv⟩ : ∃ iv, intV false nn = iv := ⟨_, rfl⟩
                    rw [hivv] at HINT
                    clear hv1 hv2 hnlead hnneg hmnv hf hi hivv hnn
                    clear HNP HMD HDG HBB HBN HNUM
                    go_wp2_with (go_at_call 43; go_must (refine (HINT.out _ (by repeat (first | with_reducible exact Later.refl _ | with_reducible assumption | with_reducible refine Later.ofdrew ?_ | with_reducible refine Later.ofdrewN ?_ | with_reducible refine Later.setCell ?_ ?_ _ | with_reducible refine Later.alloc ?_ _ | with_reducible refine Later.drewN ?_ _ | with_reducible refine Later.drew ?_ | (with_reducible refine Later.trans ?_ (by assumption)) | (simp only [World.size_setCell, World.size_alloc, World.heap_drewN]; omega) | (simp; done) | (simp; omega)))).mono ?_; rintro e w19 ⟨rfl, hb19⟩))
                    go_ret3
                    exact ⟨RPs.mk HR1.out, by repeat (first | with_reducible exact Later.refl _ | with_reducible assumption | with_reducible refine Later.ofdrew ?_ | with_reducible refine Later.ofdrewN ?_ | with_reducible refine Later.setCell ?_ ?_ _ | with_reducible refine Later.alloc ?_ _ | with_reducible refine Later.drewN ?_ _ | with_reducible refine Later.drew ?_ | (with_reducible refine Later.trans ?_ (by assumption)) | (simp only [World.size_setCell, World.size_alloc, World.heap_drewN]; omega) | (simp; done) | (simp; omega))⟩
            · have h46a : ((R[m + 1].toNat : Int) != 46) = true := by
                rw [bne_iff_ne]; intro e
                exact h46 (UInt8.toNat_inj.1 (by show R[m + 1].toNat = 46; omega))
              have HR0 : Hid (MP s 0 0 13) := Lib.hid (HNP.out HK0.out (.inr (fun e => h46 (by
                have e1 : plain.length - dgN c - 1 = m + 1 := by have := HPZ.out; have := HM.out; omega
                rw [e1] at e
                have e2 := HP.out
                subst e2
                rw [List.getElem?_eq_getElem (by have := HPZ.out; omega)] at e
                exact Option.some.inj e))))
              clear HMD0 HNP h46
              go_wp2
              go_ret3
              exact ⟨RPs.mk HR0.out, by repeat (first | with_reducible exact Later.refl _ | with_reducible assumption | with_reducible refine Later.ofdrew ?_ | with_reducible refine Later.ofdrewN ?_ | with_reducible refine Later.setCell ?_ ?_ _ | with_reducible refine Later.alloc ?_ _ | with_reducible refine Later.drewN ?_ _ | with_reducible refine Later.drew ?_ | (with_reducible refine Later.trans ?_ (by assumption)) | (simp only [World.size_setCell, World.size_alloc, World.heap_drewN]; omega) | (simp; done) | (simp; omega))⟩
end Go.Proofs.YtckeaibamgkegaaDoor
