/- money as a text: Parse of the program -/
import Derived.Test.YtckeaibamgkegaaDoorCashR
import Derived.Test.YtckeaibamgkegaaDoorCashD
set_option linter.all false
namespace Go.Proofs.YtckeaibamgkegaaDoor
open Go.RowKit
set_option maxRecDepth 100000

theorem cut_len (s sep : List UInt8) : (Lib.cut s sep).1.length ≤ s.length ∧ (Lib.cut s sep).2.1.length ≤ s.length := by
  unfold Lib.cut
  split
  · exact ⟨by simp only [List.length_take]; omega, by simp only [List.length_drop]; omega⟩
  · exact ⟨Nat.le_refl _, Nat.zero_le _⟩
theorem trim_len (s p : List UInt8) : (Lib.trimPrefix s p).length ≤ s.length := by
  unfold Lib.trimPrefix
  split
  · rw [List.length_drop]; omega
  · exact Nat.le_refl _
theorem cut_text (s : List UInt8) (c : UInt8) : ((Lib.cut s [c]).2.2 = true ∧ s = (Lib.cut s [c]).1 ++ c :: (Lib.cut s [c]).2.1) ∨ ((Lib.cut s [c]).2.2 = false ∧ s = (Lib.cut s [c]).1 ∧ (Lib.cut s [c]).2.1 = []) := by
  rcases split_first s c with h | ⟨a, b, rfl, h⟩
  · rw [cut_no h]; exact .inr ⟨rfl, rfl, rfl⟩
  · rw [cut_at h]; exact .inl ⟨rfl, rfl⟩
theorem prefix_text (s : List UInt8) (c : UInt8) : s = (if Lib.hasPrefix s [c] then [c] else []) ++ Lib.trimPrefix s [c] := by
  unfold Lib.trimPrefix Lib.hasPrefix
  cases s with
  | nil => simp [List.isPrefixOf]
  | cons x r =>
    by_cases h : c = x
    · subst h; simp [List.isPrefixOf]
    · simp [List.isPrefixOf, h]
/-- What the looks of cash.Parse say of a text. -/
theorem MP_good {s nm rest plain whole part : List UInt8} {sp minus point : Bool} {c : Nat} (hc : c < 8) (h1 : Lib.cut s [32] = (nm, rest, sp)) (hn : nm = nmL c) (h2 : Lib.hasPrefix rest [45] = minus) (h3 : Lib.trimPrefix rest [45] = plain)
    (h4 : Lib.cut plain [46] = (whole, part, point)) : (Good (dgN c) minus point whole part → CM s c minus (whole ++ part)) ∧ (¬ Good (dgN c) minus point whole part → MP s 0 0 13) := by
  have hrp := prefix_text rest 45
  rw [h2, h3] at hrp
  have hct := cut_text plain 46
  rw [h4] at hct
  constructor
  · intro g
    have hs := cut_text s 32
    rw [h1] at hs
    refine good_cm hc ?_ hrp hct g
    rcases hs with ⟨_, hs⟩ | ⟨_, _, hs⟩
    · rw [hs, hn]
    · simp only at hs
      subst hs
      have hp0 : plain = [] := by
        have := congrArg List.length hrp
        rw [List.length_append] at this
        exact List.eq_nil_of_length_eq_zero (by simp at this; omega)
      have hw := List.length_pos_iff.2 g.ne
      rcases hct with ⟨_, h⟩ | ⟨_, h, _⟩
      · rw [hp0] at h
        have := congrArg List.length h
        simp at this
      · simp only at h
        rw [hp0] at h
        rw [← h] at hw; simp at hw
  · intro hg
    refine .inr ⟨rfl, rfl, rfl, fun c' neg W hC => hg ?_⟩
    have e1 := cm_cut hC
    rw [h1] at e1
    have en := (Prod.mk.inj e1).1
    have er := (Prod.mk.inj (Prod.mk.inj e1).2).1
    rw [hn] at en
    have hcc := nmL_inj hc hC.lt en
    subst hcc
    have hsg := cm_sign hC
    rw [← er, h2, h3] at hsg
    obtain ⟨e2, e3⟩ := hsg
    rw [e3, point_cut hC.dig hC.len] at h4
    have q1 := (Prod.mk.inj h4).1
    have q2 := (Prod.mk.inj (Prod.mk.inj h4).2).1
    have q3 := (Prod.mk.inj (Prod.mk.inj h4).2).2
    rw [e2, ← q1, ← q2, ← q3]
    exact cm_good hC
theorem MP_noname {s nm rest : List UInt8} {sp : Bool} (h1 : Lib.cut s [32] = (nm, rest, sp)) (hn : ∀ c, c < 8 → nmL c ≠ nm) : MP s 0 0 13 := by
  refine .inr ⟨rfl, rfl, rfl, fun c' neg W hC => ?_⟩
  have e1 := cm_cut hC
  rw [h1] at e1
  exact hn c' hC.lt (Prod.mk.inj e1).1.symm
theorem MP_val {s : List UInt8} {c : Nat} {neg : Bool} {W : List UInt8} (h : CM s c neg W) : (I64 (valM neg W) → MP s (c : Nat) (valM neg W) 0) ∧ (¬ I64 (valM neg W) → MP s 0 0 11) :=
  ⟨fun hi => .inl ⟨c, neg, W, h, .inl ⟨hi, rfl, rfl, rfl⟩⟩, fun hi => .inl ⟨c, neg, W, h, .inr ⟨hi, rfl, rfl, rfl⟩⟩⟩
/-- What Atoi makes of a sign and digits. -/
theorem atoi_signed {W : List UInt8} (neg : Bool) (hne : W ≠ []) (hd : W.all digB = true) : (I64 (valM neg W) ∧ Lib.atoiAll ((if neg then [45] else []) ++ W) = .ok (valM neg W)) ∨ (¬ I64 (valM neg W) ∧ ∀ v, Lib.atoiAll ((if neg then [45] else []) ++ W) ≠ .ok v) := by
  cases neg with
  | false =>
    simp only [Bool.false_eq_true, if_false, List.nil_append]
    rw [atoi_digits hne hd]
    unfold valM I64
    simp only [Bool.false_eq_true, if_false]
    by_cases h : valD 0 W ≤ 9223372036854775807
    · rw [if_pos h]; exact .inl ⟨⟨by omega, by omega⟩, rfl⟩
    · rw [if_neg h]; exact .inr ⟨by omega, fun v e => by cases e⟩
  | true =>
    simp only [if_true]
    rw [show ([45] : List UInt8) ++ W = 45 :: W from rfl, atoi_minus hne hd]
    unfold valM I64
    simp only [if_true]
    by_cases h : valD 0 W ≤ 9223372036854775808
    · rw [if_pos h]; exact .inl ⟨⟨by omega, by omega⟩, rfl⟩
    · rw [if_neg h]; exact .inr ⟨by omega, fun v e => by cases e⟩

set_option maxHeartbeats 8000000 in
theorem cparse_any (s : List UInt8) (hs : s.length ≤ 1000) (w : World) (hL : LibAt w) (hC : CurAt w) :
    Calls Tryd.prog 18 #[.string ⟨s.toArray⟩] w fun e w' => (∃ cur n er : Int, e = .returned (.tuple #[.int .i64 cur, .int .i64 n, .int .i64 er]) ∧ MP s cur n er ∧ I64 n) ∧ Later w w' := by
  have h00 : I64 0 := ⟨by decide, by decide⟩
  have HC1 := Lib.hid (fun W (hl : Later w W) => cut_any s [32] (by omega) W (hL.later hl))
  obtain ⟨⟨nm, rest, sp⟩, h1⟩ : ∃ x, Lib.cut s [32] = x := ⟨_, rfl⟩
  have hlr := cut_len s [32]
  rw [h1] at HC1 hlr
  simp only at HC1 hlr
  obtain ⟨minus, h2⟩ : ∃ x, Lib.hasPrefix rest [45] = x := ⟨_, rfl⟩
  obtain ⟨plain, h3⟩ : ∃ x, Lib.trimPrefix rest [45] = x := ⟨_, rfl⟩
  have hlp := trim_len rest [45]
  have HPX := Lib.hid (fun W => Tryd.strings_CutPrefix ⟨rest.toArray⟩ ⟨#[45]⟩ W)
  have e45 : (⟨#[45]⟩ : ByteArray).data.toList = [45] := rfl
  simp only [ba_list, e45, h2, h3] at HPX
  rw [h3] at hlp
  have HC2 := Lib.hid (fun W (hl : Later w W) => cut_any plain [46] (by omega) W (hL.later hl))
  obtain ⟨⟨whole, part, point⟩, h4⟩ : ∃ x, Lib.cut plain [46] = x := ⟨_, rfl⟩
  have hlq := cut_len plain [46]
  rw [h4] at HC2 hlq
  simp only at HC2 hlq
  have HOF := Lib.hid (fun W (hl : Later w W) => of_cur ⟨nm.toArray⟩ W (hC.later hl))
  have HNO := Lib.hid (fun h => MP_noname h1 h)
  have HGD := Lib.hid (fun c hc hn => MP_good (c := c) hc h1 hn h2 h3 h4)
  have HDW := Lib.hid (fun W => cdigits_any whole (by omega) W)
  have HDA := Lib.hid (fun W => cdigits_any (whole ++ part) (by rw [List.length_append]; have := cut_len plain [46]; rcases cut_text plain 46 with ⟨_, h⟩ | ⟨_, h, h'⟩ <;> rw [h4] at h <;> (have h5 := congrArg List.length h; simp at h5) <;> first | omega | (rw [h4] at h'; simp only at h'; subst h'; simp; omega)) W)
  have hla : (whole ++ part).length ≤ 1000 := by
    rcases cut_text plain 46 with ⟨_, h⟩ | ⟨_, h, h'⟩ <;> rw [h4] at h <;> (have h5 := congrArg List.length h; simp at h5) <;> first | (rw [List.length_append]; omega) | (rw [h4] at h'; simp only at h'; subst h'; simp; omega)
  have HTR := Lib.hid (fun W => ctrim_any (whole ++ part) [48] hla (by simp) (by decide) W)
  have HAT := Lib.hid (fun (m : Bool) W (hl : Later w W) => atoi_any ((if m then [45] else []) ++ (whole ++ part)) (by rw [List.length_append]; split <;> simp <;> (rw [List.length_append] at hla; omega)) W (hL.later hl))
  have HCU := Lib.hid (fun W (hl : Later w W) => hC.later hl)
  clear hL hC h1 h2 h3 h4 e45
  obtain ⟨NB, hNB⟩ : ∃ S, ByteArray.mk nm.toArray = S := ⟨_, rfl⟩
  obtain ⟨RB, hRB⟩ : ∃ S, ByteArray.mk rest.toArray = S := ⟨_, rfl⟩
  obtain ⟨PB, hPB⟩ : ∃ S, ByteArray.mk plain.toArray = S := ⟨_, rfl⟩
  obtain ⟨WB, hWB⟩ : ∃ S, ByteArray.mk whole.toArray = S := ⟨_, rfl⟩
  obtain ⟨QB, hQB⟩ : ∃ S, ByteArray.mk part.toArray = S := ⟨_, rfl⟩
  have hAB : WB ++ QB = ByteArray.mk (whole ++ part).toArray := by rw [← hWB, ← hQB, ba_app]
  have hws : WB.size = whole.length := by rw [← hWB, ba_len]
  have hqs : QB.size = part.length := by rw [← hQB, ba_len]
  obtain ⟨AB, hABn⟩ : ∃ S, WB ++ QB = S := ⟨_, rfl⟩
  have hABl : ByteArray.mk (whole ++ part).toArray = AB := by rw [← hAB, hABn]
  simp only [hNB, hRB] at HC1
  simp only [hRB, hPB] at HPX
  simp only [hPB, hWB, hQB] at HC2
  simp only [hNB] at HOF
  simp only [hWB] at HDW
  simp only [hABl] at HDA HTR
  have HNB := Lib.hid hNB
  have HWB := Lib.hid hWB
  have HABl := Lib.hid hABl
  have HABn := Lib.hid hABn
  have hw1 : WB.size ≤ 1000 := by omega
  have hq1 : QB.size ≤ 1000 := by omega
  have HWS := Lib.hid hws
  have HQS := Lib.hid hqs
  clear hNB hRB hPB hWB hQB hAB hABl hABn hws hqs hla
  go_enter Tryd.func18, Tryd.ntmps18
  go_upto_region 3 with (first | (go_at_call 33; go_must (refine (HC1.out _ (by repeat (first | with_reducible exact Later.refl _ | with_reducible assumption | with_reducible refine Later.ofdrew ?_ | with_reducible refine Later.ofdrewN ?_ | with_reducible refine Later.setCell ?_ ?_ _ | with_reducible refine Later.alloc ?_ _ | with_reducible refine Later.drewN ?_ _ | with_reducible refine Later.drew ?_ | (with_reducible refine Later.trans ?_ (by assumption)) | (simp only [World.size_setCell, World.size_alloc, World.heap_drewN]; omega) | (simp; done) | (simp; omega)))).mono ?_; rintro e w1 ⟨rfl, hb1⟩)) | (go_at_call 23; go_must (refine (HOF.out _ (by repeat (first | with_reducible exact Later.refl _ | with_reducible assumption | with_reducible refine Later.ofdrew ?_ | with_reducible refine Later.ofdrewN ?_ | with_reducible refine Later.setCell ?_ ?_ _ | with_reducible refine Later.alloc ?_ _ | with_reducible refine Later.drewN ?_ _ | with_reducible refine Later.drew ?_ | (with_reducible refine Later.trans ?_ (by assumption)) | (simp only [World.size_setCell, World.size_alloc, World.heap_drewN]; omega) | (simp; done) | (simp; omega)))).mono ?_; rintro e w2 ⟨⟨r, er, rfl, hr⟩, hb2⟩; have HR := Lib.hid hr; clear hr)))
  have hw2 : Later w w2 := by repeat (first | with_reducible exact Later.refl _ | with_reducible assumption | with_reducible refine Later.ofdrew ?_ | with_reducible refine Later.ofdrewN ?_ | with_reducible refine Later.setCell ?_ ?_ _ | with_reducible refine Later.alloc ?_ _ | with_reducible refine Later.drewN ?_ _ | with_reducible refine Later.drew ?_ | (with_reducible refine Later.trans ?_ (by assumption)) | (simp only [World.size_setCell, World.size_alloc, World.heap_drewN]; omega) | (simp; done) | (simp; omega))
  rcases HR.out with ⟨c, hc, rfl, rfl, hnm⟩ | ⟨rfl, rfl, hno⟩
  · have hnm2 : nm = nmL c := by
      have := hnm.trans HNB.out.symm
      unfold nmB at this
      have := congrArg (fun b : ByteArray => b.data.toList) this
      simpa using this.symm
    obtain ⟨hg1, hg2⟩ := HGD.out c hc hnm2
    have HG1 := Lib.hid hg1
    have HG2 := Lib.hid hg2
    have hcI : (c : Int) < 8 := by omega
    clear HR HNO HGD HOF HC1 hnm hnm2 hg1 hg2 HNB
    go_upto_region 9 with (first | (go_at_call 39; go_must (refine (HPX.out _).mono ?_; rintro e w3 ⟨rfl, rfl⟩)) | (go_at_call 33; go_must (refine (HC2.out _ (by repeat (first | with_reducible exact Later.refl _ | with_reducible assumption | with_reducible refine Later.ofdrew ?_ | with_reducible refine Later.ofdrewN ?_ | with_reducible refine Later.setCell ?_ ?_ _ | with_reducible refine Later.alloc ?_ _ | with_reducible refine Later.drewN ?_ _ | with_reducible refine Later.drew ?_ | (with_reducible refine Later.trans ?_ (by assumption)) | (simp only [World.size_setCell, World.size_alloc, World.heap_drewN]; omega) | (simp; done) | (simp; omega)))).mono ?_; rintro e w4 ⟨rfl, hb4⟩; have hc2 := (HCU.out w4 (by repeat (first | with_reducible exact Later.refl _ | with_reducible assumption | with_reducible refine Later.ofdrew ?_ | with_reducible refine Later.ofdrewN ?_ | with_reducible refine Later.setCell ?_ ?_ _ | with_reducible refine Later.alloc ?_ _ | with_reducible refine Later.drewN ?_ _ | with_reducible refine Later.drew ?_ | (with_reducible refine Later.trans ?_ (by assumption)) | (simp only [World.size_setCell, World.size_alloc, World.heap_drewN]; omega) | (simp; done) | (simp; omega))) c hc).2; have hcz := (HCU.out w4 (by repeat (first | with_reducible exact Later.refl _ | with_reducible assumption | with_reducible refine Later.ofdrew ?_ | with_reducible refine Later.ofdrewN ?_ | with_reducible refine Later.setCell ?_ ?_ _ | with_reducible refine Later.alloc ?_ _ | with_reducible refine Later.drewN ?_ _ | with_reducible refine Later.drew ?_ | (with_reducible refine Later.trans ?_ (by assumption)) | (simp only [World.size_setCell, World.size_alloc, World.heap_drewN]; omega) | (simp; done) | (simp; omega)))).lt)))
    refine wp_opaque (fun W9 hb9 => ?_)
    have hw9 : Later w W9 := (show Later w w4 by repeat (first | with_reducible exact Later.refl _ | with_reducible assumption | with_reducible refine Later.ofdrew ?_ | with_reducible refine Later.ofdrewN ?_ | with_reducible refine Later.setCell ?_ ?_ _ | with_reducible refine Later.alloc ?_ _ | with_reducible refine Later.drewN ?_ _ | with_reducible refine Later.drew ?_ | (with_reducible refine Later.trans ?_ (by assumption)) | (simp only [World.size_setCell, World.size_alloc, World.heap_drewN]; omega) | (simp; done) | (simp; omega))).trans hb9
    rw [HABn.out]
    obtain ⟨k, hk⟩ : ∃ k, dgN c = k := ⟨_, rfl⟩
    rw [hk] at HG1 HG2 ⊢
    have HK := Lib.hid hk
    clear hb9 hb4 hc2 hcz hk HPX HC2 HCU hb1 hb2 hw2
    by_cases hk0 : 0 < k
    · have hkI : (0 : Int) < k := by omega
      cases point
      · have tok1 : True := trivial
        have HRP : Hid (MP s 0 0 13) := Lib.hid (HG2.out (fun g => by have := g.pt; rw [decide_eq_true hk0] at this; cases this))
        clear HG1 HG2 HWB HABl HABn HK HAT HDW HDA HTR
        go_wp2_with (first | (go_at_call 40; clear tok1; go_must (refine (HDW.out _).mono ?_; rintro e wd ⟨rfl, hbd⟩)) | (go_at_call 40; go_must (refine (HDA.out _).mono ?_; rintro e we ⟨rfl, hbe⟩)) | (go_at_call 41; go_must (refine (HTR.out _).mono ?_; rintro e wt ⟨rfl, hbt⟩)))
        go_ret3
        exact ⟨⟨_, _, _, rfl, HRP.out, h00⟩, hw9.trans (by repeat (first | with_reducible exact Later.refl _ | with_reducible assumption | with_reducible refine Later.ofdrew ?_ | with_reducible refine Later.ofdrewN ?_ | with_reducible refine Later.setCell ?_ ?_ _ | with_reducible refine Later.alloc ?_ _ | with_reducible refine Later.drewN ?_ _ | with_reducible refine Later.drew ?_ | (with_reducible refine Later.trans ?_ (by assumption)) | (simp only [World.size_setCell, World.size_alloc, World.heap_drewN]; omega) | (simp; done) | (simp; omega)))⟩
      have hpt : Hid (true = decide (0 < k)) := Lib.hid (decide_eq_true hk0).symm
      have hqs := HQS.out
      by_cases hlen : part.length = k
      rotate_left
      · have hb1 : ((QB.size : Int) != (k : Int)) = true := by rw [bne_iff_ne]; omega
        have hb2 : ((QB.size : Int) == (k : Int)) = false := by rw [beq_eq_false_iff_ne]; omega
        have hb3 : (QB.size == k) = false := by rw [beq_eq_false_iff_ne]; omega
        have hb4 : (QB.size != k) = true := by rw [bne_iff_ne]; omega
        have hb5 : ¬ (QB.size = k) := by omega
        have HRP : Hid (MP s 0 0 13) := Lib.hid (HG2.out (fun g => hlen g.len))
        clear HG1 HG2 HWB HABl HABn HK HAT HDW HDA HTR hlen hqs
        go_wp2_with (first | (go_at_call 40; clear tok1; go_must (refine (HDW.out _).mono ?_; rintro e wd ⟨rfl, hbd⟩)) | (go_at_call 40; go_must (refine (HDA.out _).mono ?_; rintro e we ⟨rfl, hbe⟩)) | (go_at_call 41; go_must (refine (HTR.out _).mono ?_; rintro e wt ⟨rfl, hbt⟩)))
        go_ret3
        exact ⟨⟨_, _, _, rfl, HRP.out, h00⟩, hw9.trans (by repeat (first | with_reducible exact Later.refl _ | with_reducible assumption | with_reducible refine Later.ofdrew ?_ | with_reducible refine Later.ofdrewN ?_ | with_reducible refine Later.setCell ?_ ?_ _ | with_reducible refine Later.alloc ?_ _ | with_reducible refine Later.drewN ?_ _ | with_reducible refine Later.drew ?_ | (with_reducible refine Later.trans ?_ (by assumption)) | (simp only [World.size_setCell, World.size_alloc, World.heap_drewN]; omega) | (simp; done) | (simp; omega)))⟩
      have hb1 : ((QB.size : Int) != (k : Int)) = false := by rw [bne_eq_false_iff_eq]; omega
      have hb2 : ((QB.size : Int) == (k : Int)) = true := by rw [beq_iff_eq]; omega
      have hb3 : (QB.size == k) = true := by rw [beq_iff_eq]; omega
      have hb4 : (QB.size != k) = false := by rw [bne_eq_false_iff_eq]; omega
      have HLEN := Lib.hid hlen
      clear hqs hlen
      obtain ⟨b1, hB1⟩ : ∃ b, (!whole.isEmpty && whole.all digB) = b := ⟨_, rfl⟩
      obtain ⟨b2, hB2⟩ : ∃ b, (!(whole ++ part).isEmpty && (whole ++ part).all digB) = b := ⟨_, rfl⟩
      rw [hB1] at HDW
      rw [hB2] at HDA
      have tok1 : True := trivial
      cases b1
      · have hnb : whole ≠ [] → whole.all digB = false := fun hne => by
          have : whole.isEmpty = false := by cases whole with | nil => exact absurd rfl hne | cons _ _ => rfl
          rw [this] at hB1; simpa using hB1
        have HRP : Hid (MP s 0 0 13) := Lib.hid (HG2.out (fun g => by have := hnb g.ne; rw [g.dw] at this; cases this))
        clear HG1 HG2 HWB HABl HABn HK HAT hB1 hB2 hnb HDA HTR HLEN
        go_wp2_with (first | (go_at_call 40; clear tok1; go_must (refine (HDW.out _).mono ?_; rintro e wd ⟨rfl, hbd⟩)) | (go_at_call 40; go_must (refine (HDA.out _).mono ?_; rintro e we ⟨rfl, hbe⟩)) | (go_at_call 41; go_must (refine (HTR.out _).mono ?_; rintro e wt ⟨rfl, hbt⟩)))
        go_ret3
        exact ⟨⟨_, _, _, rfl, HRP.out, h00⟩, hw9.trans (by repeat (first | with_reducible exact Later.refl _ | with_reducible assumption | with_reducible refine Later.ofdrew ?_ | with_reducible refine Later.ofdrewN ?_ | with_reducible refine Later.setCell ?_ ?_ _ | with_reducible refine Later.alloc ?_ _ | with_reducible refine Later.drewN ?_ _ | with_reducible refine Later.drew ?_ | (with_reducible refine Later.trans ?_ (by assumption)) | (simp only [World.size_setCell, World.size_alloc, World.heap_drewN]; omega) | (simp; done) | (simp; omega)))⟩
      rw [Bool.and_eq_true] at hB1
      have hwd := hB1.2
      have hwne : whole ≠ [] := fun e => by rw [e] at hB1; simp at hB1
      cases b2
      · have hnb : (whole ++ part).all digB = false := by
          have : (whole ++ part).isEmpty = false := by cases h : whole ++ part with | nil => exact absurd (List.append_eq_nil_iff.1 h).1 hwne | cons _ _ => rfl
          rw [this] at hB2; simpa using hB2
        have HRP : Hid (MP s 0 0 13) := Lib.hid (HG2.out (fun g => by have := g.da; rw [hnb] at this; cases this))
        clear HG1 HG2 HWB HABl HABn HK HAT hB1 hB2 hnb HTR hwd hwne HLEN
        go_wp2_with (first | (go_at_call 40; clear tok1; go_must (refine (HDW.out _).mono ?_; rintro e wd ⟨rfl, hbd⟩)) | (go_at_call 40; go_must (refine (HDA.out _).mono ?_; rintro e we ⟨rfl, hbe⟩)) | (go_at_call 41; go_must (refine (HTR.out _).mono ?_; rintro e wt ⟨rfl, hbt⟩)))
        go_ret3
        exact ⟨⟨_, _, _, rfl, HRP.out, h00⟩, hw9.trans (by repeat (first | with_reducible exact Later.refl _ | with_reducible assumption | with_reducible refine Later.ofdrew ?_ | with_reducible refine Later.ofdrewN ?_ | with_reducible refine Later.setCell ?_ ?_ _ | with_reducible refine Later.alloc ?_ _ | with_reducible refine Later.drewN ?_ _ | with_reducible refine Later.drew ?_ | (with_reducible refine Later.trans ?_ (by assumption)) | (simp only [World.size_setCell, World.size_alloc, World.heap_drewN]; omega) | (simp; done) | (simp; omega)))⟩
      rw [Bool.and_eq_true] at hB2
      have had := hB2.2
      have HWE := Lib.hid hB1
      have HAE0 := Lib.hid hB2
      clear hB1 hB2
      have hw0 : 0 < WB.size := by rw [HWS.out]; exact List.length_pos_iff.2 hwne
      have hhd : whole.head? = some WB[0] := by
        have := HWB.out
        subst this
        cases whole with
        | nil => exact absurd rfl hwne
        | cons x r => rfl
      by_cases h1w : 1 < WB.size
      · have h1I : (1 : Int) < WB.size := by omega
        by_cases h48 : WB[0] = 48
        · have hc1 : ((WB[0].toNat : Int) == 48) = true := by rw [beq_iff_eq, h48]; rfl
          have hbadl : 1 < whole.length ∧ whole.head? = some 48 := ⟨by have := HWS.out; omega, by rw [hhd, h48]⟩
          have HRP : Hid (MP s 0 0 13) := Lib.hid (HG2.out (fun g => g.lead hbadl))
          clear HG1 HG2 HWB HABl HABn HK HAT hbadl HTR hhd h48 hwd hwne had HWE HAE0 HLEN
          go_wp2_with (first | (go_at_call 40; clear tok1; go_must (refine (HDW.out _).mono ?_; rintro e wd ⟨rfl, hbd⟩)) | (go_at_call 40; go_must (refine (HDA.out _).mono ?_; rintro e we ⟨rfl, hbe⟩)) | (go_at_call 41; go_must (refine (HTR.out _).mono ?_; rintro e wt ⟨rfl, hbt⟩)))
          go_ret3
          exact ⟨⟨_, _, _, rfl, HRP.out, h00⟩, hw9.trans (by repeat (first | with_reducible exact Later.refl _ | with_reducible assumption | with_reducible refine Later.ofdrew ?_ | with_reducible refine Later.ofdrewN ?_ | with_reducible refine Later.setCell ?_ ?_ _ | with_reducible refine Later.alloc ?_ _ | with_reducible refine Later.drewN ?_ _ | with_reducible refine Later.drew ?_ | (with_reducible refine Later.trans ?_ (by assumption)) | (simp only [World.size_setCell, World.size_alloc, World.heap_drewN]; omega) | (simp; done) | (simp; omega)))⟩
        · have hc1 : ((WB[0].toNat : Int) == 48) = false := by
            rw [beq_eq_false_iff_ne]
            intro e
            exact h48 (UInt8.toNat_inj.1 (by show WB[0].toNat = 48; omega))
          have hlead : ¬ (1 < whole.length ∧ whole.head? = some 48) := fun e => by
            rw [hhd] at e; exact h48 (Option.some.inj e.2)
          clear hhd h48
          cases minus with
          | false =>
            have hneg0 : ¬ (false = true ∧ valD 0 (whole ++ part) = 0) := fun e => by cases e.1
            have hcm := HG1.out ⟨hpt.out, HLEN.out, hwne, hwd, had, hlead, hneg0⟩
            obtain ⟨hv1, hv2⟩ := MP_val hcm
            have HA2 := Lib.hid (fun W hl => HAT.out false W hl)
            have e45 : ByteArray.mk ((if false = true then [45] else []) ++ (whole ++ part)).toArray = AB := by
              rw [if_neg (by simp), List.nil_append, HABl.out]
            rw [e45] at HA2
            have hat := atoi_signed false (W := whole ++ part) (by intro e; exact hwne (List.append_eq_nil_iff.1 e).1) had
            have HV1 := Lib.hid hv1
            have HV2 := Lib.hid hv2
            have HAE := Lib.hid hat
            clear hcm hv1 hv2 hat e45 HG1 HG2 HWB HABl HABn HK HAT hpt HLEN hwne hwd had hlead hneg0 HWE HAE0
            go_upto_region 16 with (first | (go_at_call 40; clear tok1; go_must (refine (HDW.out _).mono ?_; rintro e wd ⟨rfl, hbd⟩)) | (go_at_call 40; go_must (refine (HDA.out _).mono ?_; rintro e we ⟨rfl, hbe⟩)) | (go_at_call 41; go_must (refine (HTR.out _).mono ?_; rintro e wt ⟨rfl, hbt⟩)) | (go_at_call 34; go_must (refine (HA2.out _ (hw9.trans (by repeat (first | with_reducible exact Later.refl _ | with_reducible assumption | with_reducible refine Later.ofdrew ?_ | with_reducible refine Later.ofdrewN ?_ | with_reducible refine Later.setCell ?_ ?_ _ | with_reducible refine Later.alloc ?_ _ | with_reducible refine Later.drewN ?_ _ | with_reducible refine Later.drew ?_ | (with_reducible refine Later.trans ?_ (by assumption)) | (simp only [World.size_setCell, World.size_alloc, World.heap_drewN]; omega) | (simp; done) | (simp; omega))))).mono ?_; rintro e wa ⟨v, ev, rfl, hv, hcv, hba⟩; have HCV := Lib.hid hcv; clear hcv)))
            rcases HAE.out with ⟨hi, ha⟩ | ⟨hi, ha⟩
            · rcases HCV.out with ⟨rfl, hav⟩ | ⟨-, hav⟩
              · have hvv : v = valM false (whole ++ part) := by
                  rw [ha] at hav; exact (Lib.NumEnd.ok.inj hav).symm
                have HRP : Hid (MP s (c : Nat) v 0) := Lib.hid (by rw [hvv]; exact HV1.out hi)
                have HIV := Lib.hid hv
                clear HCV HAE HV1 HV2 hi ha hav hvv hv
                go_wp2
                go_ret3
                exact ⟨⟨_, _, _, rfl, HRP.out, HIV.out⟩, hw9.trans (by repeat (first | with_reducible exact Later.refl _ | with_reducible assumption | with_reducible refine Later.ofdrew ?_ | with_reducible refine Later.ofdrewN ?_ | with_reducible refine Later.setCell ?_ ?_ _ | with_reducible refine Later.alloc ?_ _ | with_reducible refine Later.drewN ?_ _ | with_reducible refine Later.drew ?_ | (with_reducible refine Later.trans ?_ (by assumption)) | (simp only [World.size_setCell, World.size_alloc, World.heap_drewN]; omega) | (simp; done) | (simp; omega)))⟩
              · exact absurd ha (hav _)
            · rcases HCV.out with ⟨-, hav⟩ | ⟨⟨q, rfl⟩, -⟩
              · exact absurd hav (ha _)
              · have HRP : Hid (MP s 0 0 11) := Lib.hid (HV2.out hi)
                clear HCV HAE HV1 HV2 hi ha hv
                go_wp2
                go_ret3
                exact ⟨⟨_, _, _, rfl, HRP.out, h00⟩, hw9.trans (by repeat (first | with_reducible exact Later.refl _ | with_reducible assumption | with_reducible refine Later.ofdrew ?_ | with_reducible refine Later.ofdrewN ?_ | with_reducible refine Later.setCell ?_ ?_ _ | with_reducible refine Later.alloc ?_ _ | with_reducible refine Later.drewN ?_ _ | with_reducible refine Later.drew ?_ | (with_reducible refine Later.trans ?_ (by assumption)) | (simp only [World.size_setCell, World.size_alloc, World.heap_drewN]; omega) | (simp; done) | (simp; omega)))⟩
          | true =>
            have hvn := val_nought (whole ++ part) had
            obtain ⟨T, hT⟩ : ∃ T, Lib.trimS (whole ++ part) [48] = T := ⟨_, rfl⟩
            rw [hT] at HTR hvn
            by_cases ht : T = []
            · have hv0 := hvn.1 ht
              subst ht
              have HRP : Hid (MP s 0 0 13) := Lib.hid (HG2.out (fun g => g.neg0 ⟨rfl, hv0⟩))
              clear HG1 HG2 HWB HABl HABn HK HAT hvn hT hv0 hpt HLEN hwne hwd had hlead HWE HAE0
              go_wp2_with (first | (go_at_call 40; clear tok1; go_must (refine (HDW.out _).mono ?_; rintro e wd ⟨rfl, hbd⟩)) | (go_at_call 40; go_must (refine (HDA.out _).mono ?_; rintro e we ⟨rfl, hbe⟩)) | (go_at_call 41; go_must (refine (HTR.out _).mono ?_; rintro e wt ⟨rfl, hbt⟩)))
              go_ret3
              exact ⟨⟨_, _, _, rfl, HRP.out, h00⟩, hw9.trans (by repeat (first | with_reducible exact Later.refl _ | with_reducible assumption | with_reducible refine Later.ofdrew ?_ | with_reducible refine Later.ofdrewN ?_ | with_reducible refine Later.setCell ?_ ?_ _ | with_reducible refine Later.alloc ?_ _ | with_reducible refine Later.drewN ?_ _ | with_reducible refine Later.drew ?_ | (with_reducible refine Later.trans ?_ (by assumption)) | (simp only [World.size_setCell, World.size_alloc, World.heap_drewN]; omega) | (simp; done) | (simp; omega)))⟩
            · have hneg0 : ¬ (true = true ∧ valD 0 (whole ++ part) = 0) := fun e => ht (hvn.2 e.2)
              have hTe : T.isEmpty = false := by cases T with | nil => exact absurd rfl ht | cons _ _ => rfl
              clear hvn hT
              have hcm := HG1.out ⟨hpt.out, HLEN.out, hwne, hwd, had, hlead, hneg0⟩
              obtain ⟨hv1, hv2⟩ := MP_val hcm
              have HA2 := Lib.hid (fun W hl => HAT.out true W hl)
              have e45 : ByteArray.mk ((if true = true then [45] else []) ++ (whole ++ part)).toArray = ⟨#[45]⟩ ++ AB := by
                rw [if_pos rfl, ← ba_app, HABl.out]
              rw [e45] at HA2
              have hz45 : (⟨#[45]⟩ : ByteArray).size = 1 := rfl
              have habs : AB.size ≤ 2000 := by rw [← HABn.out, ByteArray.size_append]; omega
              have hat := atoi_signed true (W := whole ++ part) (by intro e; exact hwne (List.append_eq_nil_iff.1 e).1) had
              have HV1 := Lib.hid hv1
              have HV2 := Lib.hid hv2
              have HAE := Lib.hid hat
              clear hcm hv1 hv2 hat e45 HG1 HG2 HWB HABl HABn HK HAT hpt HLEN hwne hwd had hlead hneg0 HWE HAE0
              go_upto_region 16 with (first | (go_at_call 40; clear tok1; go_must (refine (HDW.out _).mono ?_; rintro e wd ⟨rfl, hbd⟩)) | (go_at_call 40; go_must (refine (HDA.out _).mono ?_; rintro e we ⟨rfl, hbe⟩)) | (go_at_call 41; go_must (refine (HTR.out _).mono ?_; rintro e wt ⟨rfl, hbt⟩)) | (go_at_call 34; go_must (refine (HA2.out _ (hw9.trans (by repeat (first | with_reducible exact Later.refl _ | with_reducible assumption | with_reducible refine Later.ofdrew ?_ | with_reducible refine Later.ofdrewN ?_ | with_reducible refine Later.setCell ?_ ?_ _ | with_reducible refine Later.alloc ?_ _ | with_reducible refine Later.drewN ?_ _ | with_reducible refine Later.drew ?_ | (with_reducible refine Later.trans ?_ (by assumption)) | (simp only [World.size_setCell, World.size_alloc, World.heap_drewN]; omega) | (simp; done) | (simp; omega))))).mono ?_; rintro e wa ⟨v, ev, rfl, hv, hcv, hba⟩; have HCV := Lib.hid hcv; clear hcv)))
              rcases HAE.out with ⟨hi, ha⟩ | ⟨hi, ha⟩
              · rcases HCV.out with ⟨rfl, hav⟩ | ⟨-, hav⟩
                · have hvv : v = valM true (whole ++ part) := by
                    rw [ha] at hav; exact (Lib.NumEnd.ok.inj hav).symm
                  have HRP : Hid (MP s (c : Nat) v 0) := Lib.hid (by rw [hvv]; exact HV1.out hi)
                  have HIV := Lib.hid hv
                  clear HCV HAE HV1 HV2 hi ha hav hvv hv
                  go_wp2
                  go_ret3
                  exact ⟨⟨_, _, _, rfl, HRP.out, HIV.out⟩, hw9.trans (by repeat (first | with_reducible exact Later.refl _ | with_reducible assumption | with_reducible refine Later.ofdrew ?_ | with_reducible refine Later.ofdrewN ?_ | with_reducible refine Later.setCell ?_ ?_ _ | with_reducible refine Later.alloc ?_ _ | with_reducible refine Later.drewN ?_ _ | with_reducible refine Later.drew ?_ | (with_reducible refine Later.trans ?_ (by assumption)) | (simp only [World.size_setCell, World.size_alloc, World.heap_drewN]; omega) | (simp; done) | (simp; omega)))⟩
                · exact absurd ha (hav _)
              · rcases HCV.out with ⟨-, hav⟩ | ⟨⟨q, rfl⟩, -⟩
                · exact absurd hav (ha _)
                · have HRP : Hid (MP s 0 0 11) := Lib.hid (HV2.out hi)
                  clear HCV HAE HV1 HV2 hi ha hv
                  go_wp2
                  go_ret3
                  exact ⟨⟨_, _, _, rfl, HRP.out, h00⟩, hw9.trans (by repeat (first | with_reducible exact Later.refl _ | with_reducible assumption | with_reducible refine Later.ofdrew ?_ | with_reducible refine Later.ofdrewN ?_ | with_reducible refine Later.setCell ?_ ?_ _ | with_reducible refine Later.alloc ?_ _ | with_reducible refine Later.drewN ?_ _ | with_reducible refine Later.drew ?_ | (with_reducible refine Later.trans ?_ (by assumption)) | (simp only [World.size_setCell, World.size_alloc, World.heap_drewN]; omega) | (simp; done) | (simp; omega)))⟩
      · have h1I : ¬ ((1 : Int) < WB.size) := by omega
        have hlead : ¬ (1 < whole.length ∧ whole.head? = some 48) := fun e => by have := HWS.out; omega
        clear hhd
        cases minus with
        | false =>
          have hneg0 : ¬ (false = true ∧ valD 0 (whole ++ part) = 0) := fun e => by cases e.1
          have hcm := HG1.out ⟨hpt.out, HLEN.out, hwne, hwd, had, hlead, hneg0⟩
          obtain ⟨hv1, hv2⟩ := MP_val hcm
          have HA2 := Lib.hid (fun W hl => HAT.out false W hl)
          have e45 : ByteArray.mk ((if false = true then [45] else []) ++ (whole ++ part)).toArray = AB := by
            rw [if_neg (by simp), List.nil_append, HABl.out]
          rw [e45] at HA2
          have hat := atoi_signed false (W := whole ++ part) (by intro e; exact hwne (List.append_eq_nil_iff.1 e).1) had
          have HV1 := Lib.hid hv1
          have HV2 := Lib.hid hv2
          have HAE := Lib.hid hat
          clear hcm hv1 hv2 hat e45 HG1 HG2 HWB HABl HABn HK HAT hpt HLEN hwne hwd had hlead hneg0 HWE HAE0
          go_upto_region 16 with (first | (go_at_call 40; clear tok1; go_must (refine (HDW.out _).mono ?_; rintro e wd ⟨rfl, hbd⟩)) | (go_at_call 40; go_must (refine (HDA.out _).mono ?_; rintro e we ⟨rfl, hbe⟩)) | (go_at_call 41; go_must (refine (HTR.out _).mono ?_; rintro e wt ⟨rfl, hbt⟩)) | (go_at_call 34; go_must (refine (HA2.out _ (hw9.trans (by repeat (first | with_reducible exact Later.refl _ | with_reducible assumption | with_reducible refine Later.ofdrew ?_ | with_reducible refine Later.ofdrewN ?_ | with_reducible refine Later.setCell ?_ ?_ _ | with_reducible refine Later.alloc ?_ _ | with_reducible refine Later.drewN ?_ _ | with_reducible refine Later.drew ?_ | (with_reducible refine Later.trans ?_ (by assumption)) | (simp only [World.size_setCell, World.size_alloc, World.heap_drewN]; omega) | (simp; done) | (simp; omega))))).mono ?_; rintro e wa ⟨v, ev, rfl, hv, hcv, hba⟩; have HCV := Lib.hid hcv; clear hcv)))
          rcases HAE.out with ⟨hi, ha⟩ | ⟨hi, ha⟩
          · rcases HCV.out with ⟨rfl, hav⟩ | ⟨-, hav⟩
            · have hvv : v = valM false (whole ++ part) := by
                rw [ha] at hav; exact (Lib.NumEnd.ok.inj hav).symm
              have HRP : Hid (MP s (c : Nat) v 0) := Lib.hid (by rw [hvv]; exact HV1.out hi)
              have HIV := Lib.hid hv
              clear HCV HAE HV1 HV2 hi ha hav hvv hv
              go_wp2
              go_ret3
              exact ⟨⟨_, _, _, rfl, HRP.out, HIV.out⟩, hw9.trans (by repeat (first | with_reducible exact Later.refl _ | with_reducible assumption | with_reducible refine Later.ofdrew ?_ | with_reducible refine Later.ofdrewN ?_ | with_reducible refine Later.setCell ?_ ?_ _ | with_reducible refine Later.alloc ?_ _ | with_reducible refine Later.drewN ?_ _ | with_reducible refine Later.drew ?_ | (with_reducible refine Later.trans ?_ (by assumption)) | (simp only [World.size_setCell, World.size_alloc, World.heap_drewN]; omega) | (simp; done) | (simp; omega)))⟩
            · exact absurd ha (hav _)
          · rcases HCV.out with ⟨-, hav⟩ | ⟨⟨q, rfl⟩, -⟩
            · exact absurd hav (ha _)
            · have HRP : Hid (MP s 0 0 11) := Lib.hid (HV2.out hi)
              clear HCV HAE HV1 HV2 hi ha hv
              go_wp2
              go_ret3
              exact ⟨⟨_, _, _, rfl, HRP.out, h00⟩, hw9.trans (by repeat (first | with_reducible exact Later.refl _ | with_reducible assumption | with_reducible refine Later.ofdrew ?_ | with_reducible refine Later.ofdrewN ?_ | with_reducible refine Later.setCell ?_ ?_ _ | with_reducible refine Later.alloc ?_ _ | with_reducible refine Later.drewN ?_ _ | with_reducible refine Later.drew ?_ | (with_reducible refine Later.trans ?_ (by assumption)) | (simp only [World.size_setCell, World.size_alloc, World.heap_drewN]; omega) | (simp; done) | (simp; omega)))⟩
        | true =>
          have hvn := val_nought (whole ++ part) had
          obtain ⟨T, hT⟩ : ∃ T, Lib.trimS (whole ++ part) [48] = T := ⟨_, rfl⟩
          rw [hT] at HTR hvn
          by_cases ht : T = []
          · have hv0 := hvn.1 ht
            subst ht
            have HRP : Hid (MP s 0 0 13) := Lib.hid (HG2.out (fun g => g.neg0 ⟨rfl, hv0⟩))
            clear HG1 HG2 HWB HABl HABn HK HAT hvn hT hv0 hpt HLEN hwne hwd had hlead HWE HAE0
            go_wp2_with (first | (go_at_call 40; clear tok1; go_must (refine (HDW.out _).mono ?_; rintro e wd ⟨rfl, hbd⟩)) | (go_at_call 40; go_must (refine (HDA.out _).mono ?_; rintro e we ⟨rfl, hbe⟩)) | (go_at_call 41; go_must (refine (HTR.out _).mono ?_; rintro e wt ⟨rfl, hbt⟩)))
            go_ret3
            exact ⟨⟨_, _, _, rfl, HRP.out, h00⟩, hw9.trans (by repeat (first | with_reducible exact Later.refl _ | with_reducible assumption | with_reducible refine Later.ofdrew ?_ | with_reducible refine Later.ofdrewN ?_ | with_reducible refine Later.setCell ?_ ?_ _ | with_reducible refine Later.alloc ?_ _ | with_reducible refine Later.drewN ?_ _ | with_reducible refine Later.drew ?_ | (with_reducible refine Later.trans ?_ (by assumption)) | (simp only [World.size_setCell, World.size_alloc, World.heap_drewN]; omega) | (simp; done) | (simp; omega)))⟩
          · have hneg0 : ¬ (true = true ∧ valD 0 (whole ++ part) = 0) := fun e => ht (hvn.2 e.2)
            have hTe : T.isEmpty = false := by cases T with | nil => exact absurd rfl ht | cons _ _ => rfl
            clear hvn hT
            have hcm := HG1.out ⟨hpt.out, HLEN.out, hwne, hwd, had, hlead, hneg0⟩
            obtain ⟨hv1, hv2⟩ := MP_val hcm
            have HA2 := Lib.hid (fun W hl => HAT.out true W hl)
            have e45 : ByteArray.mk ((if true = true then [45] else []) ++ (whole ++ part)).toArray = ⟨#[45]⟩ ++ AB := by
              rw [if_pos rfl, ← ba_app, HABl.out]
            rw [e45] at HA2
            have hz45 : (⟨#[45]⟩ : ByteArray).size = 1 := rfl
            have habs : AB.size ≤ 2000 := by rw [← HABn.out, ByteArray.size_append]; omega
            have hat := atoi_signed true (W := whole ++ part) (by intro e; exact hwne (List.append_eq_nil_iff.1 e).1) had
            have HV1 := Lib.hid hv1
            have HV2 := Lib.hid hv2
            have HAE := Lib.hid hat
            clear hcm hv1 hv2 hat e45 HG1 HG2 HWB HABl HABn HK HAT hpt HLEN hwne hwd had hlead hneg0 HWE HAE0
            go_upto_region 16 with (first | (go_at_call 40; clear tok1; go_must (refine (HDW.out _).mono ?_; rintro e wd ⟨rfl, hbd⟩)) | (go_at_call 40; go_must (refine (HDA.out _).mono ?_; rintro e we ⟨rfl, hbe⟩)) | (go_at_call 41; go_must (refine (HTR.out _).mono ?_; rintro e wt ⟨rfl, hbt⟩)) | (go_at_call 34; go_must (refine (HA2.out _ (hw9.trans (by repeat (first | with_reducible exact Later.refl _ | with_reducible assumption | with_reducible refine Later.ofdrew ?_ | with_reducible refine Later.ofdrewN ?_ | with_reducible refine Later.setCell ?_ ?_ _ | with_reducible refine Later.alloc ?_ _ | with_reducible refine Later.drewN ?_ _ | with_reducible refine Later.drew ?_ | (with_reducible refine Later.trans ?_ (by assumption)) | (simp only [World.size_setCell, World.size_alloc, World.heap_drewN]; omega) | (simp; done) | (simp; omega))))).mono ?_; rintro e wa ⟨v, ev, rfl, hv, hcv, hba⟩; have HCV := Lib.hid hcv; clear hcv)))
            rcases HAE.out with ⟨hi, ha⟩ | ⟨hi, ha⟩
            · rcases HCV.out with ⟨rfl, hav⟩ | ⟨-, hav⟩
              · have hvv : v = valM true (whole ++ part) := by
                  rw [ha] at hav; exact (Lib.NumEnd.ok.inj hav).symm
                have HRP : Hid (MP s (c : Nat) v 0) := Lib.hid (by rw [hvv]; exact HV1.out hi)
                have HIV := Lib.hid hv
                clear HCV HAE HV1 HV2 hi ha hav hvv hv
                go_wp2
                go_ret3
                exact ⟨⟨_, _, _, rfl, HRP.out, HIV.out⟩, hw9.trans (by repeat (first | with_reducible exact Later.refl _ | with_reducible assumption | with_reducible refine Later.ofdrew ?_ | with_reducible refine Later.ofdrewN ?_ | with_reducible refine Later.setCell ?_ ?_ _ | with_reducible refine Later.alloc ?_ _ | with_reducible refine Later.drewN ?_ _ | with_reducible refine Later.drew ?_ | (with_reducible refine Later.trans ?_ (by assumption)) | (simp only [World.size_setCell, World.size_alloc, World.heap_drewN]; omega) | (simp; done) | (simp; omega)))⟩
              · exact absurd ha (hav _)
            · rcases HCV.out with ⟨-, hav⟩ | ⟨⟨q, rfl⟩, -⟩
              · exact absurd hav (ha _)
              · have HRP : Hid (MP s 0 0 11) := Lib.hid (HV2.out hi)
                clear HCV HAE HV1 HV2 hi ha hv
                go_wp2
                go_ret3
                exact ⟨⟨_, _, _, rfl, HRP.out, h00⟩, hw9.trans (by repeat (first | with_reducible exact Later.refl _ | with_reducible assumption | with_reducible refine Later.ofdrew ?_ | with_reducible refine Later.ofdrewN ?_ | with_reducible refine Later.setCell ?_ ?_ _ | with_reducible refine Later.alloc ?_ _ | with_reducible refine Later.drewN ?_ _ | with_reducible refine Later.drew ?_ | (with_reducible refine Later.trans ?_ (by assumption)) | (simp only [World.size_setCell, World.size_alloc, World.heap_drewN]; omega) | (simp; done) | (simp; omega)))⟩
    · have hkI : ¬ ((0 : Int) < k) := by omega
      cases point
      rotate_left
      · have tok1 : True := trivial
        have HRP : Hid (MP s 0 0 13) := Lib.hid (HG2.out (fun g => by have := g.pt; rw [decide_eq_false hk0] at this; cases this))
        clear HG1 HG2 HWB HABl HABn HK HAT HDW HDA HTR
        go_wp2_with (first | (go_at_call 40; clear tok1; go_must (refine (HDW.out _).mono ?_; rintro e wd ⟨rfl, hbd⟩)) | (go_at_call 40; go_must (refine (HDA.out _).mono ?_; rintro e we ⟨rfl, hbe⟩)) | (go_at_call 41; go_must (refine (HTR.out _).mono ?_; rintro e wt ⟨rfl, hbt⟩)))
        go_ret3
        exact ⟨⟨_, _, _, rfl, HRP.out, h00⟩, hw9.trans (by repeat (first | with_reducible exact Later.refl _ | with_reducible assumption | with_reducible refine Later.ofdrew ?_ | with_reducible refine Later.ofdrewN ?_ | with_reducible refine Later.setCell ?_ ?_ _ | with_reducible refine Later.alloc ?_ _ | with_reducible refine Later.drewN ?_ _ | with_reducible refine Later.drew ?_ | (with_reducible refine Later.trans ?_ (by assumption)) | (simp only [World.size_setCell, World.size_alloc, World.heap_drewN]; omega) | (simp; done) | (simp; omega)))⟩
      have hpt : Hid (false = decide (0 < k)) := Lib.hid (decide_eq_false hk0).symm
      have hqs := HQS.out
      by_cases hlen : part.length = k
      rotate_left
      · have hb1 : ((QB.size : Int) != (k : Int)) = true := by rw [bne_iff_ne]; omega
        have hb2 : ((QB.size : Int) == (k : Int)) = false := by rw [beq_eq_false_iff_ne]; omega
        have hb3 : (QB.size == k) = false := by rw [beq_eq_false_iff_ne]; omega
        have hb4 : (QB.size != k) = true := by rw [bne_iff_ne]; omega
        have hb5 : ¬ (QB.size = k) := by omega
        have HRP : Hid (MP s 0 0 13) := Lib.hid (HG2.out (fun g => hlen g.len))
        clear HG1 HG2 HWB HABl HABn HK HAT HDW HDA HTR hlen hqs
        go_wp2_with (first | (go_at_call 40; clear tok1; go_must (refine (HDW.out _).mono ?_; rintro e wd ⟨rfl, hbd⟩)) | (go_at_call 40; go_must (refine (HDA.out _).mono ?_; rintro e we ⟨rfl, hbe⟩)) | (go_at_call 41; go_must (refine (HTR.out _).mono ?_; rintro e wt ⟨rfl, hbt⟩)))
        go_ret3
        exact ⟨⟨_, _, _, rfl, HRP.out, h00⟩, hw9.trans (by repeat (first | with_reducible exact Later.refl _ | with_reducible assumption | with_reducible refine Later.ofdrew ?_ | with_reducible refine Later.ofdrewN ?_ | with_reducible refine Later.setCell ?_ ?_ _ | with_reducible refine Later.alloc ?_ _ | with_reducible refine Later.drewN ?_ _ | with_reducible refine Later.drew ?_ | (with_reducible refine Later.trans ?_ (by assumption)) | (simp only [World.size_setCell, World.size_alloc, World.heap_drewN]; omega) | (simp; done) | (simp; omega)))⟩
      have hb1 : ((QB.size : Int) != (k : Int)) = false := by rw [bne_eq_false_iff_eq]; omega
      have hb2 : ((QB.size : Int) == (k : Int)) = true := by rw [beq_iff_eq]; omega
      have hb3 : (QB.size == k) = true := by rw [beq_iff_eq]; omega
      have hb4 : (QB.size != k) = false := by rw [bne_eq_false_iff_eq]; omega
      have HLEN := Lib.hid hlen
      clear hqs hlen
      obtain ⟨b1, hB1⟩ : ∃ b, (!whole.isEmpty && whole.all digB) = b := ⟨_, rfl⟩
      obtain ⟨b2, hB2⟩ : ∃ b, (!(whole ++ part).isEmpty && (whole ++ part).all digB) = b := ⟨_, rfl⟩
      rw [hB1] at HDW
      rw [hB2] at HDA
      have tok1 : True := trivial
      cases b1
      · have hnb : whole ≠ [] → whole.all digB = false := fun hne => by
          have : whole.isEmpty = false := by cases whole with | nil => exact absurd rfl hne | cons _ _ => rfl
          rw [this] at hB1; simpa using hB1
        have HRP : Hid (MP s 0 0 13) := Lib.hid (HG2.out (fun g => by have := hnb g.ne; rw [g.dw] at this; cases this))
        clear HG1 HG2 HWB HABl HABn HK HAT hB1 hB2 hnb HDA HTR HLEN
        go_wp2_with (first | (go_at_call 40; clear tok1; go_must (refine (HDW.out _).mono ?_; rintro e wd ⟨rfl, hbd⟩)) | (go_at_call 40; go_must (refine (HDA.out _).mono ?_; rintro e we ⟨rfl, hbe⟩)) | (go_at_call 41; go_must (refine (HTR.out _).mono ?_; rintro e wt ⟨rfl, hbt⟩)))
        go_ret3
        exact ⟨⟨_, _, _, rfl, HRP.out, h00⟩, hw9.trans (by repeat (first | with_reducible exact Later.refl _ | with_reducible assumption | with_reducible refine Later.ofdrew ?_ | with_reducible refine Later.ofdrewN ?_ | with_reducible refine Later.setCell ?_ ?_ _ | with_reducible refine Later.alloc ?_ _ | with_reducible refine Later.drewN ?_ _ | with_reducible refine Later.drew ?_ | (with_reducible refine Later.trans ?_ (by assumption)) | (simp only [World.size_setCell, World.size_alloc, World.heap_drewN]; omega) | (simp; done) | (simp; omega)))⟩
      rw [Bool.and_eq_true] at hB1
      have hwd := hB1.2
      have hwne : whole ≠ [] := fun e => by rw [e] at hB1; simp at hB1
      cases b2
      · have hnb : (whole ++ part).all digB = false := by
          have : (whole ++ part).isEmpty = false := by cases h : whole ++ part with | nil => exact absurd (List.append_eq_nil_iff.1 h).1 hwne | cons _ _ => rfl
          rw [this] at hB2; simpa using hB2
        have HRP : Hid (MP s 0 0 13) := Lib.hid (HG2.out (fun g => by have := g.da; rw [hnb] at this; cases this))
        clear HG1 HG2 HWB HABl HABn HK HAT hB1 hB2 hnb HTR hwd hwne HLEN
        go_wp2_with (first | (go_at_call 40; clear tok1; go_must (refine (HDW.out _).mono ?_; rintro e wd ⟨rfl, hbd⟩)) | (go_at_call 40; go_must (refine (HDA.out _).mono ?_; rintro e we ⟨rfl, hbe⟩)) | (go_at_call 41; go_must (refine (HTR.out _).mono ?_; rintro e wt ⟨rfl, hbt⟩)))
        go_ret3
        exact ⟨⟨_, _, _, rfl, HRP.out, h00⟩, hw9.trans (by repeat (first | with_reducible exact Later.refl _ | with_reducible assumption | with_reducible refine Later.ofdrew ?_ | with_reducible refine Later.ofdrewN ?_ | with_reducible refine Later.setCell ?_ ?_ _ | with_reducible refine Later.alloc ?_ _ | with_reducible refine Later.drewN ?_ _ | with_reducible refine Later.drew ?_ | (with_reducible refine Later.trans ?_ (by assumption)) | (simp only [World.size_setCell, World.size_alloc, World.heap_drewN]; omega) | (simp; done) | (simp; omega)))⟩
      rw [Bool.and_eq_true] at hB2
      have had := hB2.2
      have HWE := Lib.hid hB1
      have HAE0 := Lib.hid hB2
      clear hB1 hB2
      have hw0 : 0 < WB.size := by rw [HWS.out]; exact List.length_pos_iff.2 hwne
      have hhd : whole.head? = some WB[0] := by
        have := HWB.out
        subst this
        cases whole with
        | nil => exact absurd rfl hwne
        | cons x r => rfl
      by_cases h1w : 1 < WB.size
      · have h1I : (1 : Int) < WB.size := by omega
        by_cases h48 : WB[0] = 48
        · have hc1 : ((WB[0].toNat : Int) == 48) = true := by rw [beq_iff_eq, h48]; rfl
          have hbadl : 1 < whole.length ∧ whole.head? = some 48 := ⟨by have := HWS.out; omega, by rw [hhd, h48]⟩
          have HRP : Hid (MP s 0 0 13) := Lib.hid (HG2.out (fun g => g.lead hbadl))
          clear HG1 HG2 HWB HABl HABn HK HAT hbadl HTR hhd h48 hwd hwne had HWE HAE0 HLEN
          go_wp2_with (first | (go_at_call 40; clear tok1; go_must (refine (HDW.out _).mono ?_; rintro e wd ⟨rfl, hbd⟩)) | (go_at_call 40; go_must (refine (HDA.out _).mono ?_; rintro e we ⟨rfl, hbe⟩)) | (go_at_call 41; go_must (refine (HTR.out _).mono ?_; rintro e wt ⟨rfl, hbt⟩)))
          go_ret3
          exact ⟨⟨_, _, _, rfl, HRP.out, h00⟩, hw9.trans (by repeat (first | with_reducible exact Later.refl _ | with_reducible assumption | with_reducible refine Later.ofdrew ?_ | with_reducible refine Later.ofdrewN ?_ | with_reducible refine Later.setCell ?_ ?_ _ | with_reducible refine Later.alloc ?_ _ | with_reducible refine Later.drewN ?_ _ | with_reducible refine Later.drew ?_ | (with_reducible refine Later.trans ?_ (by assumption)) | (simp only [World.size_setCell, World.size_alloc, World.heap_drewN]; omega) | (simp; done) | (simp; omega)))⟩
        · have hc1 : ((WB[0].toNat : Int) == 48) = false := by
            rw [beq_eq_false_iff_ne]
            intro e
            exact h48 (UInt8.toNat_inj.1 (by show WB[0].toNat = 48; omega))
          have hlead : ¬ (1 < whole.length ∧ whole.head? = some 48) := fun e => by
            rw [hhd] at e; exact h48 (Option.some.inj e.2)
          clear hhd h48
          cases minus with
          | false =>
            have hneg0 : ¬ (false = true ∧ valD 0 (whole ++ part) = 0) := fun e => by cases e.1
            have hcm := HG1.out ⟨hpt.out, HLEN.out, hwne, hwd, had, hlead, hneg0⟩
            obtain ⟨hv1, hv2⟩ := MP_val hcm
            have HA2 := Lib.hid (fun W hl => HAT.out false W hl)
            have e45 : ByteArray.mk ((if false = true then [45] else []) ++ (whole ++ part)).toArray = AB := by
              rw [if_neg (by simp), List.nil_append, HABl.out]
            rw [e45] at HA2
            have hat := atoi_signed false (W := whole ++ part) (by intro e; exact hwne (List.append_eq_nil_iff.1 e).1) had
            have HV1 := Lib.hid hv1
            have HV2 := Lib.hid hv2
            have HAE := Lib.hid hat
            clear hcm hv1 hv2 hat e45 HG1 HG2 HWB HABl HABn HK HAT hpt HLEN hwne hwd had hlead hneg0 HWE HAE0
            go_upto_region 16 with (first | (go_at_call 40; clear tok1; go_must (refine (HDW.out _).mono ?_; rintro e wd ⟨rfl, hbd⟩)) | (go_at_call 40; go_must (refine (HDA.out _).mono ?_; rintro e we ⟨rfl, hbe⟩)) | (go_at_call 41; go_must (refine (HTR.out _).mono ?_; rintro e wt ⟨rfl, hbt⟩)) | (go_at_call 34; go_must (refine (HA2.out _ (hw9.trans (by repeat (first | with_reducible exact Later.refl _ | with_reducible assumption | with_reducible refine Later.ofdrew ?_ | with_reducible refine Later.ofdrewN ?_ | with_reducible refine Later.setCell ?_ ?_ _ | with_reducible refine Later.alloc ?_ _ | with_reducible refine Later.drewN ?_ _ | with_reducible refine Later.drew ?_ | (with_reducible refine Later.trans ?_ (by assumption)) | (simp only [World.size_setCell, World.size_alloc, World.heap_drewN]; omega) | (simp; done) | (simp; omega))))).mono ?_; rintro e wa ⟨v, ev, rfl, hv, hcv, hba⟩; have HCV := Lib.hid hcv; clear hcv)))
            rcases HAE.out with ⟨hi, ha⟩ | ⟨hi, ha⟩
            · rcases HCV.out with ⟨rfl, hav⟩ | ⟨-, hav⟩
              · have hvv : v = valM false (whole ++ part) := by
                  rw [ha] at hav; exact (Lib.NumEnd.ok.inj hav).symm
                have HRP : Hid (MP s (c : Nat) v 0) := Lib.hid (by rw [hvv]; exact HV1.out hi)
                have HIV := Lib.hid hv
                clear HCV HAE HV1 HV2 hi ha hav hvv hv
                go_wp2
                go_ret3
                exact ⟨⟨_, _, _, rfl, HRP.out, HIV.out⟩, hw9.trans (by repeat (first | with_reducible exact Later.refl _ | with_reducible assumption | with_reducible refine Later.ofdrew ?_ | with_reducible refine Later.ofdrewN ?_ | with_reducible refine Later.setCell ?_ ?_ _ | with_reducible refine Later.alloc ?_ _ | with_reducible refine Later.drewN ?_ _ | with_reducible refine Later.drew ?_ | (with_reducible refine Later.trans ?_ (by assumption)) | (simp only [World.size_setCell, World.size_alloc, World.heap_drewN]; omega) | (simp; done) | (simp; omega)))⟩
              · exact absurd ha (hav _)
            · rcases HCV.out with ⟨-, hav⟩ | ⟨⟨q, rfl⟩, -⟩
              · exact absurd hav (ha _)
              · have HRP : Hid (MP s 0 0 11) := Lib.hid (HV2.out hi)
                clear HCV HAE HV1 HV2 hi ha hv
                go_wp2
                go_ret3
                exact ⟨⟨_, _, _, rfl, HRP.out, h00⟩, hw9.trans (by repeat (first | with_reducible exact Later.refl _ | with_reducible assumption | with_reducible refine Later.ofdrew ?_ | with_reducible refine Later.ofdrewN ?_ | with_reducible refine Later.setCell ?_ ?_ _ | with_reducible refine Later.alloc ?_ _ | with_reducible refine Later.drewN ?_ _ | with_reducible refine Later.drew ?_ | (with_reducible refine Later.trans ?_ (by assumption)) | (simp only [World.size_setCell, World.size_alloc, World.heap_drewN]; omega) | (simp; done) | (simp; omega)))⟩
          | true =>
            have hvn := val_nought (whole ++ part) had
            obtain ⟨T, hT⟩ : ∃ T, Lib.trimS (whole ++ part) [48] = T := ⟨_, rfl⟩
            rw [hT] at HTR hvn
            by_cases ht : T = []
            · have hv0 := hvn.1 ht
              subst ht
              have HRP : Hid (MP s 0 0 13) := Lib.hid (HG2.out (fun g => g.neg0 ⟨rfl, hv0⟩))
              clear HG1 HG2 HWB HABl HABn HK HAT hvn hT hv0 hpt HLEN hwne hwd had hlead HWE HAE0
              go_wp2_with (first | (go_at_call 40; clear tok1; go_must (refine (HDW.out _).mono ?_; rintro e wd ⟨rfl, hbd⟩)) | (go_at_call 40; go_must (refine (HDA.out _).mono ?_; rintro e we ⟨rfl, hbe⟩)) | (go_at_call 41; go_must (refine (HTR.out _).mono ?_; rintro e wt ⟨rfl, hbt⟩)))
              go_ret3
              exact ⟨⟨_, _, _, rfl, HRP.out, h00⟩, hw9.trans (by repeat (first | with_reducible exact Later.refl _ | with_reducible assumption | with_reducible refine Later.ofdrew ?_ | with_reducible refine Later.ofdrewN ?_ | with_reducible refine Later.setCell ?_ ?_ _ | with_reducible refine Later.alloc ?_ _ | with_reducible refine Later.drewN ?_ _ | with_reducible refine Later.drew ?_ | (with_reducible refine Later.trans ?_ (by assumption)) | (simp only [World.size_setCell, World.size_alloc, World.heap_drewN]; omega) | (simp; done) | (simp; omega)))⟩
            · have hneg0 : ¬ (true = true ∧ valD 0 (whole ++ part) = 0) := fun e => ht (hvn.2 e.2)
              have hTe : T.isEmpty = false := by cases T with | nil => exact absurd rfl ht | cons _ _ => rfl
              clear hvn hT
              have hcm := HG1.out ⟨hpt.out, HLEN.out, hwne, hwd, had, hlead, hneg0⟩
              obtain ⟨hv1, hv2⟩ := MP_val hcm
              have HA2 := Lib.hid (fun W hl => HAT.out true W hl)
              have e45 : ByteArray.mk ((if true = true then [45] else []) ++ (whole ++ part)).toArray = ⟨#[45]⟩ ++ AB := by
                rw [if_pos rfl, ← ba_app, HABl.out]
              rw [e45] at HA2
              have hz45 : (⟨#[45]⟩ : ByteArray).size = 1 := rfl
              have habs : AB.size ≤ 2000 := by rw [← HABn.out, ByteArray.size_append]; omega
              have hat := atoi_signed true (W := whole ++ part) (by intro e; exact hwne (List.append_eq_nil_iff.1 e).1) had
              have HV1 := Lib.hid hv1
              have HV2 := Lib.hid hv2
              have HAE := Lib.hid hat
              clear hcm hv1 hv2 hat e45 HG1 HG2 HWB HABl HABn HK HAT hpt HLEN hwne hwd had hlead hneg0 HWE HAE0
              go_upto_region 16 with (first | (go_at_call 40; clear tok1; go_must (refine (HDW.out _).mono ?_; rintro e wd ⟨rfl, hbd⟩)) | (go_at_call 40; go_must (refine (HDA.out _).mono ?_; rintro e we ⟨rfl, hbe⟩)) | (go_at_call 41; go_must (refine (HTR.out _).mono ?_; rintro e wt ⟨rfl, hbt⟩)) | (go_at_call 34; go_must (refine (HA2.out _ (hw9.trans (by repeat (first | with_reducible exact Later.refl _ | with_reducible assumption | with_reducible refine Later.ofdrew ?_ | with_reducible refine Later.ofdrewN ?_ | with_reducible refine Later.setCell ?_ ?_ _ | with_reducible refine Later.alloc ?_ _ | with_reducible refine Later.drewN ?_ _ | with_reducible refine Later.drew ?_ | (with_reducible refine Later.trans ?_ (by assumption)) | (simp only [World.size_setCell, World.size_alloc, World.heap_drewN]; omega) | (simp; done) | (simp; omega))))).mono ?_; rintro e wa ⟨v, ev, rfl, hv, hcv, hba⟩; have HCV := Lib.hid hcv; clear hcv)))
              rcases HAE.out with ⟨hi, ha⟩ | ⟨hi, ha⟩
              · rcases HCV.out with ⟨rfl, hav⟩ | ⟨-, hav⟩
                · have hvv : v = valM true (whole ++ part) := by
                    rw [ha] at hav; exact (Lib.NumEnd.ok.inj hav).symm
                  have HRP : Hid (MP s (c : Nat) v 0) := Lib.hid (by rw [hvv]; exact HV1.out hi)
                  have HIV := Lib.hid hv
                  clear HCV HAE HV1 HV2 hi ha hav hvv hv
                  go_wp2
                  go_ret3
                  exact ⟨⟨_, _, _, rfl, HRP.out, HIV.out⟩, hw9.trans (by repeat (first | with_reducible exact Later.refl _ | with_reducible assumption | with_reducible refine Later.ofdrew ?_ | with_reducible refine Later.ofdrewN ?_ | with_reducible refine Later.setCell ?_ ?_ _ | with_reducible refine Later.alloc ?_ _ | with_reducible refine Later.drewN ?_ _ | with_reducible refine Later.drew ?_ | (with_reducible refine Later.trans ?_ (by assumption)) | (simp only [World.size_setCell, World.size_alloc, World.heap_drewN]; omega) | (simp; done) | (simp; omega)))⟩
                · exact absurd ha (hav _)
              · rcases HCV.out with ⟨-, hav⟩ | ⟨⟨q, rfl⟩, -⟩
                · exact absurd hav (ha _)
                · have HRP : Hid (MP s 0 0 11) := Lib.hid (HV2.out hi)
                  clear HCV HAE HV1 HV2 hi ha hv
                  go_wp2
                  go_ret3
                  exact ⟨⟨_, _, _, rfl, HRP.out, h00⟩, hw9.trans (by repeat (first | with_reducible exact Later.refl _ | with_reducible assumption | with_reducible refine Later.ofdrew ?_ | with_reducible refine Later.ofdrewN ?_ | with_reducible refine Later.setCell ?_ ?_ _ | with_reducible refine Later.alloc ?_ _ | with_reducible refine Later.drewN ?_ _ | with_reducible refine Later.drew ?_ | (with_reducible refine Later.trans ?_ (by assumption)) | (simp only [World.size_setCell, World.size_alloc, World.heap_drewN]; omega) | (simp; done) | (simp; omega)))⟩
      · have h1I : ¬ ((1 : Int) < WB.size) := by omega
        have hlead : ¬ (1 < whole.length ∧ whole.head? = some 48) := fun e => by have := HWS.out; omega
        clear hhd
        cases minus with
        | false =>
          have hneg0 : ¬ (false = true ∧ valD 0 (whole ++ part) = 0) := fun e => by cases e.1
          have hcm := HG1.out ⟨hpt.out, HLEN.out, hwne, hwd, had, hlead, hneg0⟩
          obtain ⟨hv1, hv2⟩ := MP_val hcm
          have HA2 := Lib.hid (fun W hl => HAT.out false W hl)
          have e45 : ByteArray.mk ((if false = true then [45] else []) ++ (whole ++ part)).toArray = AB := by
            rw [if_neg (by simp), List.nil_append, HABl.out]
          rw [e45] at HA2
          have hat := atoi_signed false (W := whole ++ part) (by intro e; exact hwne (List.append_eq_nil_iff.1 e).1) had
          have HV1 := Lib.hid hv1
          have HV2 := Lib.hid hv2
          have HAE := Lib.hid hat
          clear hcm hv1 hv2 hat e45 HG1 HG2 HWB HABl HABn HK HAT hpt HLEN hwne hwd had hlead hneg0 HWE HAE0
          go_upto_region 16 with (first | (go_at_call 40; clear tok1; go_must (refine (HDW.out _).mono ?_; rintro e wd ⟨rfl, hbd⟩)) | (go_at_call 40; go_must (refine (HDA.out _).mono ?_; rintro e we ⟨rfl, hbe⟩)) | (go_at_call 41; go_must (refine (HTR.out _).mono ?_; rintro e wt ⟨rfl, hbt⟩)) | (go_at_call 34; go_must (refine (HA2.out _ (hw9.trans (by repeat (first | with_reducible exact Later.refl _ | with_reducible assumption | with_reducible refine Later.ofdrew ?_ | with_reducible refine Later.ofdrewN ?_ | with_reducible refine Later.setCell ?_ ?_ _ | with_reducible refine Later.alloc ?_ _ | with_reducible refine Later.drewN ?_ _ | with_reducible refine Later.drew ?_ | (with_reducible refine Later.trans ?_ (by assumption)) | (simp only [World.size_setCell, World.size_alloc, World.heap_drewN]; omega) | (simp; done) | (simp; omega))))).mono ?_; rintro e wa ⟨v, ev, rfl, hv, hcv, hba⟩; have HCV := Lib.hid hcv; clear hcv)))
          rcases HAE.out with ⟨hi, ha⟩ | ⟨hi, ha⟩
          · rcases HCV.out with ⟨rfl, hav⟩ | ⟨-, hav⟩
            · have hvv : v = valM false (whole ++ part) := by
                rw [ha] at hav; exact (Lib.NumEnd.ok.inj hav).symm
              have HRP : Hid (MP s (c : Nat) v 0) := Lib.hid (by rw [hvv]; exact HV1.out hi)
              have HIV := Lib.hid hv
              clear HCV HAE HV1 HV2 hi ha hav hvv hv
              go_wp2
              go_ret3
              exact ⟨⟨_, _, _, rfl, HRP.out, HIV.out⟩, hw9.trans (by repeat (first | with_reducible exact Later.refl _ | with_reducible assumption | with_reducible refine Later.ofdrew ?_ | with_reducible refine Later.ofdrewN ?_ | with_reducible refine Later.setCell ?_ ?_ _ | with_reducible refine Later.alloc ?_ _ | with_reducible refine Later.drewN ?_ _ | with_reducible refine Later.drew ?_ | (with_reducible refine Later.trans ?_ (by assumption)) | (simp only [World.size_setCell, World.size_alloc, World.heap_drewN]; omega) | (simp; done) | (simp; omega)))⟩
            · exact absurd ha (hav _)
          · rcases HCV.out with ⟨-, hav⟩ | ⟨⟨q, rfl⟩, -⟩
            · exact absurd hav (ha _)
            · have HRP : Hid (MP s 0 0 11) := Lib.hid (HV2.out hi)
              clear HCV HAE HV1 HV2 hi ha hv
              go_wp2
              go_ret3
              exact ⟨⟨_, _, _, rfl, HRP.out, h00⟩, hw9.trans (by repeat (first | with_reducible exact Later.refl _ | with_reducible assumption | with_reducible refine Later.ofdrew ?_ | with_reducible refine Later.ofdrewN ?_ | with_reducible refine Later.setCell ?_ ?_ _ | with_reducible refine Later.alloc ?_ _ | with_reducible refine Later.drewN ?_ _ | with_reducible refine Later.drew ?_ | (with_reducible refine Later.trans ?_ (by assumption)) | (simp only [World.size_setCell, World.size_alloc, World.heap_drewN]; omega) | (simp; done) | (simp; omega)))⟩
        | true =>
          have hvn := val_nought (whole ++ part) had
          obtain ⟨T, hT⟩ : ∃ T, Lib.trimS (whole ++ part) [48] = T := ⟨_, rfl⟩
          rw [hT] at HTR hvn
          by_cases ht : T = []
          · have hv0 := hvn.1 ht
            subst ht
            have HRP : Hid (MP s 0 0 13) := Lib.hid (HG2.out (fun g => g.neg0 ⟨rfl, hv0⟩))
            clear HG1 HG2 HWB HABl HABn HK HAT hvn hT hv0 hpt HLEN hwne hwd had hlead HWE HAE0
            go_wp2_with (first | (go_at_call 40; clear tok1; go_must (refine (HDW.out _).mono ?_; rintro e wd ⟨rfl, hbd⟩)) | (go_at_call 40; go_must (refine (HDA.out _).mono ?_; rintro e we ⟨rfl, hbe⟩)) | (go_at_call 41; go_must (refine (HTR.out _).mono ?_; rintro e wt ⟨rfl, hbt⟩)))
            go_ret3
            exact ⟨⟨_, _, _, rfl, HRP.out, h00⟩, hw9.trans (by repeat (first | with_reducible exact Later.refl _ | with_reducible assumption | with_reducible refine Later.ofdrew ?_ | with_reducible refine Later.ofdrewN ?_ | with_reducible refine Later.setCell ?_ ?_ _ | with_reducible refine Later.alloc ?_ _ | with_reducible refine Later.drewN ?_ _ | with_reducible refine Later.drew ?_ | (with_reducible refine Later.trans ?_ (by assumption)) | (simp only [World.size_setCell, World.size_alloc, World.heap_drewN]; omega) | (simp; done) | (simp; omega)))⟩
          · have hneg0 : ¬ (true = true ∧ valD 0 (whole ++ part) = 0) := fun e => ht (hvn.2 e.2)
            have hTe : T.isEmpty = false := by cases T with | nil => exact absurd rfl ht | cons _ _ => rfl
            clear hvn hT
            have hcm := HG1.out ⟨hpt.out, HLEN.out, hwne, hwd, had, hlead, hneg0⟩
            obtain ⟨hv1, hv2⟩ := MP_val hcm
            have HA2 := Lib.hid (fun W hl => HAT.out true W hl)
            have e45 : ByteArray.mk ((if true = true then [45] else []) ++ (whole ++ part)).toArray = ⟨#[45]⟩ ++ AB := by
              rw [if_pos rfl, ← ba_app, HABl.out]
            rw [e45] at HA2
            have hz45 : (⟨#[45]⟩ : ByteArray).size = 1 := rfl
            have habs : AB.size ≤ 2000 := by rw [← HABn.out, ByteArray.size_append]; omega
            have hat := atoi_signed true (W := whole ++ part) (by intro e; exact hwne (List.append_eq_nil_iff.1 e).1) had
            have HV1 := Lib.hid hv1
            have HV2 := Lib.hid hv2
            have HAE := Lib.hid hat
            clear hcm hv1 hv2 hat e45 HG1 HG2 HWB HABl HABn HK HAT hpt HLEN hwne hwd had hlead hneg0 HWE HAE0
            go_upto_region 16 with (first | (go_at_call 40; clear tok1; go_must (refine (HDW.out _).mono ?_; rintro e wd ⟨rfl, hbd⟩)) | (go_at_call 40; go_must (refine (HDA.out _).mono ?_; rintro e we ⟨rfl, hbe⟩)) | (go_at_call 41; go_must (refine (HTR.out _).mono ?_; rintro e wt ⟨rfl, hbt⟩)) | (go_at_call 34; go_must (refine (HA2.out _ (hw9.trans (by repeat (first | with_reducible exact Later.refl _ | with_reducible assumption | with_reducible refine Later.ofdrew ?_ | with_reducible refine Later.ofdrewN ?_ | with_reducible refine Later.setCell ?_ ?_ _ | with_reducible refine Later.alloc ?_ _ | with_reducible refine Later.drewN ?_ _ | with_reducible refine Later.drew ?_ | (with_reducible refine Later.trans ?_ (by assumption)) | (simp only [World.size_setCell, World.size_alloc, World.heap_drewN]; omega) | (simp; done) | (simp; omega))))).mono ?_; rintro e wa ⟨v, ev, rfl, hv, hcv, hba⟩; have HCV := Lib.hid hcv; clear hcv)))
            rcases HAE.out with ⟨hi, ha⟩ | ⟨hi, ha⟩
            · rcases HCV.out with ⟨rfl, hav⟩ | ⟨-, hav⟩
              · have hvv : v = valM true (whole ++ part) := by
                  rw [ha] at hav; exact (Lib.NumEnd.ok.inj hav).symm
                have HRP : Hid (MP s (c : Nat) v 0) := Lib.hid (by rw [hvv]; exact HV1.out hi)
                have HIV := Lib.hid hv
                clear HCV HAE HV1 HV2 hi ha hav hvv hv
                go_wp2
                go_ret3
                exact ⟨⟨_, _, _, rfl, HRP.out, HIV.out⟩, hw9.trans (by repeat (first | with_reducible exact Later.refl _ | with_reducible assumption | with_reducible refine Later.ofdrew ?_ | with_reducible refine Later.ofdrewN ?_ | with_reducible refine Later.setCell ?_ ?_ _ | with_reducible refine Later.alloc ?_ _ | with_reducible refine Later.drewN ?_ _ | with_reducible refine Later.drew ?_ | (with_reducible refine Later.trans ?_ (by assumption)) | (simp only [World.size_setCell, World.size_alloc, World.heap_drewN]; omega) | (simp; done) | (simp; omega)))⟩
              · exact absurd ha (hav _)
            · rcases HCV.out with ⟨-, hav⟩ | ⟨⟨q, rfl⟩, -⟩
              · exact absurd hav (ha _)
              · have HRP : Hid (MP s 0 0 11) := Lib.hid (HV2.out hi)
                clear HCV HAE HV1 HV2 hi ha hv
                go_wp2
                go_ret3
                exact ⟨⟨_, _, _, rfl, HRP.out, h00⟩, hw9.trans (by repeat (first | with_reducible exact Later.refl _ | with_reducible assumption | with_reducible refine Later.ofdrew ?_ | with_reducible refine Later.ofdrewN ?_ | with_reducible refine Later.setCell ?_ ?_ _ | with_reducible refine Later.alloc ?_ _ | with_reducible refine Later.drewN ?_ _ | with_reducible refine Later.drew ?_ | (with_reducible refine Later.trans ?_ (by assumption)) | (simp only [World.size_setCell, World.size_alloc, World.heap_drewN]; omega) | (simp; done) | (simp; omega)))⟩
  · have HRP : Hid (MP s 0 0 13) := Lib.hid (HNO.out (fun c hc e => hno c hc (by rw [← HNB.out]; unfold nmB; rw [e])))
    clear HR HNO HGD HNB hno
    go_wp2
    go_ret3
    exact ⟨⟨_, _, _, rfl, HRP.out, h00⟩, by repeat (first | with_reducible exact Later.refl _ | with_reducible assumption | with_reducible refine Later.ofdrew ?_ | with_reducible refine Later.ofdrewN ?_ | with_reducible refine Later.setCell ?_ ?_ _ | with_reducible refine Later.alloc ?_ _ | with_reducible refine Later.drewN ?_ _ | with_reducible refine Later.drew ?_ | (with_reducible refine Later.trans ?_ (by assumption)) | (simp only [World.size_setCell, World.size_alloc, World.heap_drewN]; omega) | (simp; done) | (simp; omega))⟩
end Go.Proofs.YtckeaibamgkegaaDoor
