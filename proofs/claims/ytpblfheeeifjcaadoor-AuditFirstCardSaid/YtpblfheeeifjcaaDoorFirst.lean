/- AuditFirst: its walk -/
import Derived.Test.YtpblfheeeifjcaaDoorCut
set_option linter.all false
namespace Go.Proofs.YtpblfheeeifjcaaDoor
open Go.RowKit
set_option maxRecDepth 100000

theorem nil_upto (p : Option Addr) (W : World) : (Instr.slice 27 (.slice p 0 0) none (some (.int .i64 0)) none).run Tryd.prog W = .ok (.slice p 0 0) W := by
  rw [run_slice_h _ _ _ _ _ (by kernel_rfl) _ _ (by omega) (by omega)]
  have e : (sizeOf (Tryd.prog.elem 27)).run Tryd.prog W = .ok 9 W := by kernel_rfl
  rw [e]; rfl

set_option maxHeartbeats 8000000 in
theorem audfirst_any (l : List OpL) (n : Int) (hw : ∀ o ∈ l, o.ok) (v : Value) (w : World) (hN : IsOps w v l) (hR : RulesAt w) (hT : PowTab w) :
    Calls Tryd.prog 4 #[v, .int .i64 n] w fun e w' => e = .returned (.bool true) ∧ Later w w' := by
  have HAW := Lib.hid (fun W (hl : Later w W) => audawake_any W (hR.later hl) (hT.later hl))
  have HFEW := Lib.hid (fun W (hl : Later w W) => few15_any l v W (hN.later hl))
  by_cases hf : fewB l = true
  · have HPO := Lib.hid (fun W (hl : Later w W) => posted_any l hf hw v W (hN.later hl) (hR.later hl))
    rw [hf] at HFEW
    have hI0 := postAll_inv hf hw l.length (Nat.le_refl _)
    have hlen0 := postAll_len hf l.length (Nat.le_refl _)
    have h20 := (few_ops hf).1
    rw [List.take_length] at hI0 hlen0
    obtain ⟨p, cp, rfl, -⟩ := hN.form
    clear hN hR hT hw
    generalize postAll l = es at *
    generalize l.length = L at *
    have hlines := lines_20 hI0
    have hRN := rowsL_bound es hlines
    have hok := rows_ok hI0.word (by omega)
    have HROWS := Lib.hid (fun q W (hL : Led W q es) => rows_any q es (by omega) hI0.word hlines W hL)
    have HCK := Lib.hid (fun (xs : List Rw) (hxl : xs.length ≤ 10000) (hxo : ∀ r ∈ xs, r.ok) v W hN => check_rows xs hxl hxo v W hN)
    have HFR := Lib.hid (fun (k : Nat) (hk : k ≤ (rowsL es).length) h1 h2 => first_right hI0 n hk h1 h2)
    have HOK := Lib.hid hok
    clear hI0 hlines hok hf
    go_enter Tryd.func4, Tryd.ntmps4
    go_upto_block 0 with (first | (go_at_call 6; go_must (refine (HFEW.out _ (by repeat (first | with_reducible exact Later.refl _ | with_reducible assumption | with_reducible refine Later.ofdrew ?_ | with_reducible refine Later.ofdrewN ?_ | with_reducible refine Later.setCell ?_ ?_ _ | with_reducible refine Later.alloc ?_ _ | with_reducible refine Later.drewN ?_ _ | with_reducible refine Later.drew ?_ | (with_reducible refine Later.trans ?_ (by assumption)) | (simp only [World.size_setCell, World.size_alloc, World.heap_drewN]; omega) | (simp; done) | (simp; omega)))).mono ?_; rintro e w1 ⟨rfl, hb1⟩)) | (go_at_call 8; go_must (refine (HPO.out _ (by repeat (first | with_reducible exact Later.refl _ | with_reducible assumption | with_reducible refine Later.ofdrew ?_ | with_reducible refine Later.ofdrewN ?_ | with_reducible refine Later.setCell ?_ ?_ _ | with_reducible refine Later.alloc ?_ _ | with_reducible refine Later.drewN ?_ _ | with_reducible refine Later.drew ?_ | (with_reducible refine Later.trans ?_ (by assumption)) | (simp only [World.size_setCell, World.size_alloc, World.heap_drewN]; omega) | (simp; done) | (simp; omega)))).mono ?_; rintro e w2 ⟨q, rfl, hL2, hb2⟩; have HL2 := Lib.hid hL2; clear hL2)) | (go_at_call 9; go_must (refine (HROWS.out _ _ (HL2.out.later (by repeat (first | with_reducible exact Later.refl _ | with_reducible assumption | with_reducible refine Later.ofdrew ?_ | with_reducible refine Later.ofdrewN ?_ | with_reducible refine Later.setCell ?_ ?_ _ | with_reducible refine Later.alloc ?_ _ | with_reducible refine Later.drewN ?_ _ | with_reducible refine Later.drew ?_ | (with_reducible refine Later.trans ?_ (by assumption)) | (simp only [World.size_setCell, World.size_alloc, World.heap_drewN]; omega) | (simp; done) | (simp; omega))))).mono ?_; rintro e w3 ⟨v3, rfl, hR3, hb3⟩)))
    refine wp_opaque (fun W8 hb8 => ?_)
    have hN8 := hR3.1.later hb8
    have hw8 : Later w W8 := Later.trans (by repeat (first | with_reducible exact Later.refl _ | with_reducible assumption | with_reducible refine Later.ofdrew ?_ | with_reducible refine Later.ofdrewN ?_ | with_reducible refine Later.setCell ?_ ?_ _ | with_reducible refine Later.alloc ?_ _ | with_reducible refine Later.drewN ?_ _ | with_reducible refine Later.drew ?_ | (with_reducible refine Later.trans ?_ (by assumption)) | (simp only [World.size_setCell, World.size_alloc, World.heap_drewN]; omega) | (simp; done) | (simp; omega))) hb8
    clear hR3 hb8 hb3 hb2 hb1 HL2 HPO HROWS HFEW
    obtain ⟨N, hNN⟩ : ∃ N, (rowsL es).length = N := ⟨_, rfl⟩
    rw [hNN] at hRN
    have HN8 := Lib.hid hN8
    obtain ⟨p3, c3, rfl⟩ := hN8.form
    simp only [hNN] at HN8 ⊢
    have HNN := Lib.hid hNN
    generalize rowsL es = R at *
    clear hN8 hNN
    go_cut [7] (fun s7 wx => ∃ k : Nat, s7 = .int .i64 k ∧ k ≤ N ∧ Hid (∀ j r, j < k → R[j]? = some r → r.no < n) ∧ Hid (∀ r, R[k]? = some r → n ≤ r.no) ∧ Later W8 wx)
    case first =>
      go_wp2_with fail
      go_loopw [7] (fun s7 wr => ∃ k : Nat, s7 = .int .i64 k ∧ k ≤ N ∧ Hid (∀ j r, j < k → R[j]? = some r → r.no < n) ∧ Later W8 wr) (fun s7 _ => N - (intOf s7).toNat)
      case atStart => exact ⟨0, rfl, Nat.zero_le _, Lib.hid (fun j r h => by omega), Later.refl _⟩
      case round =>
        obtain ⟨k, rfl, hk, hall, hlat⟩ := hrel
        by_cases hlt : k < N
        · have hkl : k < R.length := by rw [HNN.out]; exact hlt
          obtain ⟨b, o, cp', hv, hb, g⟩ := HN8.out.full (i := k) hkl
          rw [HNN.out] at hv
          cases hv
          have g0 := ((bcell hlat).1 _ _ hb).trans (g 0 (by omega))
          simp only [rwF, Rw.nums, List.getD_cons_zero, Nat.add_zero] at g0
          have hbz := Nat.lt_of_lt_of_le hb (Later.size hlat)
          have hgk : Hid (R[k]? = some R[k]) := Lib.hid (List.getElem?_eq_getElem hkl)
          clear g HOK HCK HFR HAW
          by_cases hno : (R[k]).no < n
          · have HA : Hid (∀ j r, j < k + 1 → R[j]? = some r → r.no < n) := Lib.hid (fun j r h1 h2 => by
              by_cases h : j = k
              · subst h; rw [hgk.out] at h2; cases h2; exact hno
              · exact hall.out j r (by omega) h2)
            clear hall hgk
            generalize (R[k]).no = rn at *
            go_wp2
            go_roundw
            case rel => exact ⟨k + 1, by go_num, by omega, HA, hlat⟩
            case measure => simp [intOf]; omega
          · have HA : Hid (∀ r, R[k]? = some r → n ≤ r.no) := Lib.hid (fun r h2 => by rw [hgk.out] at h2; cases h2; omega)
            clear hgk
            generalize (R[k]).no = rn at *
            go_wp2
            go_meet
            exact ⟨k, rfl, hk, hall, HA, hlat⟩
        · have HA : Hid (∀ r, R[k]? = some r → n ≤ r.no) := Lib.hid (fun r h2 => by
            have := (List.getElem?_eq_some_iff.1 h2).1
            rw [HNN.out] at this; omega)
          clear HCK HFR HAW
          go_wp2
          go_meet
          exact ⟨k, rfl, hk, hall, HA, hlat⟩
    case rest =>
    obtain ⟨k, rfl, hk, hk1, hk2, hl1⟩ := hcut
    have HC1 := HFR.out k (by rw [HNN.out]; exact hk) hk1.out hk2.out
    have HC1 := Lib.hid HC1
    clear hk1 hk2 HFR
    have hN9 := HN8.out.later hl1
    have hw9 := hw8.trans hl1
    have HN9 := Lib.hid hN9
    clear HN8 hl1 hw8 hN9
    go_upto_block 2 with (fail)
    refine wp_opaque (fun W9 hb9 => ?_)
    have hN9 := HN9.out.later hb9
    have hw10 := hw9.trans hb9
    have HN8 := Lib.hid hN9
    clear HN9 hb9 hw9 hN9
    go_cut [8] (fun s8 wx => ∃ f : Nat, s8 = .int .i64 f ∧ f ≤ N ∧ Hid (∀ r, R[f]? = some r → r.no ≠ 0) ∧ Later W9 wx)
    case first =>
      go_wp2_with fail
      go_loopw [8] (fun s8 wr => ∃ k : Nat, s8 = .int .i64 k ∧ k ≤ N ∧ Later W9 wr) (fun s8 _ => N - (intOf s8).toNat)
      case atStart => exact ⟨0, rfl, Nat.zero_le _, Later.refl _⟩
      case round =>
        obtain ⟨f, rfl, hfN, hlat⟩ := hrel
        by_cases hlt : f < N
        · have hkl : f < R.length := by rw [HNN.out]; exact hlt
          obtain ⟨b, o, cp', hv, hb, g⟩ := HN8.out.full (i := f) hkl
          rw [HNN.out] at hv
          cases hv
          have g0 := ((bcell hlat).1 _ _ hb).trans (g 0 (by omega))
          simp only [rwF, Rw.nums, List.getD_cons_zero, Nat.add_zero] at g0
          have hbz := Nat.lt_of_lt_of_le hb (Later.size hlat)
          have hgk : Hid (R[f]? = some R[f]) := Lib.hid (List.getElem?_eq_getElem hkl)
          clear g HOK HCK HC1 HAW
          by_cases hno : (R[f]).no = 0
          · clear hgk
            generalize (R[f]).no = rn at *
            subst hno
            go_wp2
            go_roundw
            case rel => exact ⟨f + 1, by go_num, by omega, hlat⟩
            case measure => simp [intOf]; omega
          · have HA : Hid (∀ r, R[f]? = some r → r.no ≠ 0) := Lib.hid (fun r h2 => by rw [hgk.out] at h2; cases h2; exact hno)
            have hnb : ((R[f]).no == 0) = false := by simpa using hno
            clear hgk
            generalize (R[f]).no = rn at *
            go_wp2
            go_meet
            exact ⟨f, rfl, hfN, HA, hlat⟩
        · have HA : Hid (∀ r, R[f]? = some r → r.no ≠ 0) := Lib.hid (fun r h2 => by
            have := (List.getElem?_eq_some_iff.1 h2).1
            rw [HNN.out] at this; omega)
          clear HCK HC1 HAW
          go_wp2
          go_meet
          exact ⟨f, rfl, hfN, HA, hlat⟩
    case rest =>
    obtain ⟨f, rfl, hfN, hf2, hl2⟩ := hcut
    have hwc := hw10.trans hl2
    have hNc := HN8.out.later hl2
    clear HN8 hl2 hw10
    have HAWc := Lib.hid (fun W (hl : Later wc W) => HAW.out W (hwc.trans hl))
    clear HAW
    have hRl : R.length ≤ 10000 := by rw [HNN.out]; omega
    rcases hNc with ⟨⟨pz, hv⟩, hR0⟩ | ⟨b, o, cap, hv, h2, h3, h4, h5⟩
    · cases hv
      subst hR0
      have hk0 : k = 0 := by omega
      have hf0 : f = 0 := by omega
      subst hk0 hf0
      have HCKc := Lib.hid (fun W => HCK.out [] (by simp) (fun r h => by cases h) (.slice p3 0 0) W (.inl ⟨⟨p3, rfl⟩, rfl⟩))
      rw [show checkG (groups []) = 0 from rfl] at HCKc
      have hsl := nil_upto p3
      clear HCK HC1 hf2 HOK
      go_wp2_with (first | (go_at_call 12; go_must (refine (HCKc.out _).mono ?_; rintro e wb ⟨rfl, hbb⟩)) | (go_at_call 7; go_must (refine (HAWc.out _ (by repeat (first | with_reducible exact Later.refl _ | with_reducible assumption | with_reducible refine Later.ofdrew ?_ | with_reducible refine Later.ofdrewN ?_ | with_reducible refine Later.setCell ?_ ?_ _ | with_reducible refine Later.alloc ?_ _ | with_reducible refine Later.drewN ?_ _ | with_reducible refine Later.drew ?_ | (with_reducible refine Later.trans ?_ (by assumption)) | (simp only [World.size_setCell, World.size_alloc, World.heap_drewN]; omega) | (simp; done) | (simp; omega)))).mono ?_; rintro e wa ⟨rfl, hba⟩)))
      go_ret
      exact ⟨rfl, hwc.trans (by repeat (first | with_reducible exact Later.refl _ | with_reducible assumption | with_reducible refine Later.ofdrew ?_ | with_reducible refine Later.ofdrewN ?_ | with_reducible refine Later.setCell ?_ ?_ _ | with_reducible refine Later.alloc ?_ _ | with_reducible refine Later.drewN ?_ _ | with_reducible refine Later.drew ?_ | (with_reducible refine Later.trans ?_ (by assumption)) | (simp only [World.size_setCell, World.size_alloc, World.heap_drewN]; omega) | (simp; done) | (simp; omega)))⟩
    · rw [HNN.out] at hv h3
      cases hv
      have hNc : IsRow 9 rwF wc (.slice (some ⟨b, o, none⟩) N c3) R := .inr ⟨b, o, c3, by rw [HNN.out], h2, by rw [HNN.out]; exact h3, h4, h5⟩
      clear h4 h5
      have hT1 := hNc.take (k := k) (by rw [HNN.out]; exact hk)
      have HCKc := Lib.hid (fun W (hl : Later wc W) => HCK.out (R.take k) (by rw [List.length_take]; omega) (fun r h => HOK.out r (List.mem_of_mem_take h)) _ W (hT1.1.later hl))
      rw [HC1.out] at HCKc
      have hsl := fun W => rows_upto b o N c3 k hT1.2 W
      clear HC1 hT1
      by_cases hfe : f = N
      · subst hfe
        have hbe : ((f : Int) == (f : Int)) = true := beq_self_eq_true _
        clear HCK hf2 HOK hNc
        go_wp2_with (first | (go_at_call 12; go_must (refine (HCKc.out _ (by repeat (first | with_reducible exact Later.refl _ | with_reducible assumption | with_reducible refine Later.ofdrew ?_ | with_reducible refine Later.ofdrewN ?_ | with_reducible refine Later.setCell ?_ ?_ _ | with_reducible refine Later.alloc ?_ _ | with_reducible refine Later.drewN ?_ _ | with_reducible refine Later.drew ?_ | (with_reducible refine Later.trans ?_ (by assumption)) | (simp only [World.size_setCell, World.size_alloc, World.heap_drewN]; omega) | (simp; done) | (simp; omega)))).mono ?_; rintro e wb ⟨rfl, hbb⟩)) | (go_at_call 7; go_must (refine (HAWc.out _ (by repeat (first | with_reducible exact Later.refl _ | with_reducible assumption | with_reducible refine Later.ofdrew ?_ | with_reducible refine Later.ofdrewN ?_ | with_reducible refine Later.setCell ?_ ?_ _ | with_reducible refine Later.alloc ?_ _ | with_reducible refine Later.drewN ?_ _ | with_reducible refine Later.drew ?_ | (with_reducible refine Later.trans ?_ (by assumption)) | (simp only [World.size_setCell, World.size_alloc, World.heap_drewN]; omega) | (simp; done) | (simp; omega)))).mono ?_; rintro e wa ⟨rfl, hba⟩)))
        go_ret
        exact ⟨rfl, hwc.trans (by repeat (first | with_reducible exact Later.refl _ | with_reducible assumption | with_reducible refine Later.ofdrew ?_ | with_reducible refine Later.ofdrewN ?_ | with_reducible refine Later.setCell ?_ ?_ _ | with_reducible refine Later.alloc ?_ _ | with_reducible refine Later.drewN ?_ _ | with_reducible refine Later.drew ?_ | (with_reducible refine Later.trans ?_ (by assumption)) | (simp only [World.size_setCell, World.size_alloc, World.heap_drewN]; omega) | (simp; done) | (simp; omega)))⟩
      · have hfl : f < N := by omega
        have hbe : ((f : Int) == (N : Int)) = false := by rw [beq_eq_false_iff_ne]; omega
        have hD := (hNc.drop (k := f) (by rw [HNN.out]; exact hfl)).1
        rw [HNN.out] at hD
        have hfR : f < R.length := by rw [HNN.out]; exact hfl
        have e13 : checkG (groups (R.drop f)) = 13 := by
          rw [List.drop_eq_getElem_cons hfR]
          exact not_first (hf2.out _ (List.getElem?_eq_getElem hfR))
        have HCKd := Lib.hid (fun W (hl : Later wc W) => HCK.out (R.drop f) (by rw [List.length_drop]; omega) (fun r h => HOK.out r (List.mem_of_mem_drop h)) _ W (hD.later hl))
        rw [e13] at HCKd
        have hsl2 := fun W => rows_from b o N c3 f hfl h3 W
        have tok1 : True := trivial
        clear HCK hf2 HOK hNc hD e13
        go_wp2_with (first | (go_at_call 12; clear tok1; go_must (refine (HCKc.out _ (by repeat (first | with_reducible exact Later.refl _ | with_reducible assumption | with_reducible refine Later.ofdrew ?_ | with_reducible refine Later.ofdrewN ?_ | with_reducible refine Later.setCell ?_ ?_ _ | with_reducible refine Later.alloc ?_ _ | with_reducible refine Later.drewN ?_ _ | with_reducible refine Later.drew ?_ | (with_reducible refine Later.trans ?_ (by assumption)) | (simp only [World.size_setCell, World.size_alloc, World.heap_drewN]; omega) | (simp; done) | (simp; omega)))).mono ?_; rintro e wb ⟨rfl, hbb⟩)) | (go_at_call 12; go_must (refine (HCKd.out _ (by repeat (first | with_reducible exact Later.refl _ | with_reducible assumption | with_reducible refine Later.ofdrew ?_ | with_reducible refine Later.ofdrewN ?_ | with_reducible refine Later.setCell ?_ ?_ _ | with_reducible refine Later.alloc ?_ _ | with_reducible refine Later.drewN ?_ _ | with_reducible refine Later.drew ?_ | (with_reducible refine Later.trans ?_ (by assumption)) | (simp only [World.size_setCell, World.size_alloc, World.heap_drewN]; omega) | (simp; done) | (simp; omega)))).mono ?_; rintro e wd ⟨rfl, hbd⟩)) | (go_at_call 7; go_must (refine (HAWc.out _ (by repeat (first | with_reducible exact Later.refl _ | with_reducible assumption | with_reducible refine Later.ofdrew ?_ | with_reducible refine Later.ofdrewN ?_ | with_reducible refine Later.setCell ?_ ?_ _ | with_reducible refine Later.alloc ?_ _ | with_reducible refine Later.drewN ?_ _ | with_reducible refine Later.drew ?_ | (with_reducible refine Later.trans ?_ (by assumption)) | (simp only [World.size_setCell, World.size_alloc, World.heap_drewN]; omega) | (simp; done) | (simp; omega)))).mono ?_; rintro e wa ⟨rfl, hba⟩)))
        go_ret
        exact ⟨rfl, hwc.trans (by repeat (first | with_reducible exact Later.refl _ | with_reducible assumption | with_reducible refine Later.ofdrew ?_ | with_reducible refine Later.ofdrewN ?_ | with_reducible refine Later.setCell ?_ ?_ _ | with_reducible refine Later.alloc ?_ _ | with_reducible refine Later.drewN ?_ _ | with_reducible refine Later.drew ?_ | (with_reducible refine Later.trans ?_ (by assumption)) | (simp only [World.size_setCell, World.size_alloc, World.heap_drewN]; omega) | (simp; done) | (simp; omega)))⟩
  · have hff : fewB l = false := by simpa using hf
    rw [hff] at HFEW
    obtain ⟨p, cp, rfl, -⟩ := hN.form
    clear hN hR hT hw hf hff
    generalize l.length = L at *
    go_enter Tryd.func4, Tryd.ntmps4
    go_wp2_with (first | (go_at_call 6; go_must (refine (HFEW.out _ (by repeat (first | with_reducible exact Later.refl _ | with_reducible assumption | with_reducible refine Later.ofdrew ?_ | with_reducible refine Later.ofdrewN ?_ | with_reducible refine Later.setCell ?_ ?_ _ | with_reducible refine Later.alloc ?_ _ | with_reducible refine Later.drewN ?_ _ | with_reducible refine Later.drew ?_ | (with_reducible refine Later.trans ?_ (by assumption)) | (simp only [World.size_setCell, World.size_alloc, World.heap_drewN]; omega) | (simp; done) | (simp; omega)))).mono ?_; rintro e w1 ⟨rfl, hb1⟩)) | (go_at_call 7; go_must (refine (HAW.out _ (by repeat (first | with_reducible exact Later.refl _ | with_reducible assumption | with_reducible refine Later.ofdrew ?_ | with_reducible refine Later.ofdrewN ?_ | with_reducible refine Later.setCell ?_ ?_ _ | with_reducible refine Later.alloc ?_ _ | with_reducible refine Later.drewN ?_ _ | with_reducible refine Later.drew ?_ | (with_reducible refine Later.trans ?_ (by assumption)) | (simp only [World.size_setCell, World.size_alloc, World.heap_drewN]; omega) | (simp; done) | (simp; omega)))).mono ?_; rintro e wa ⟨rfl, hba⟩)))
    go_ret
    exact ⟨rfl, by repeat (first | with_reducible exact Later.refl _ | with_reducible assumption | with_reducible refine Later.ofdrew ?_ | with_reducible refine Later.ofdrewN ?_ | with_reducible refine Later.setCell ?_ ?_ _ | with_reducible refine Later.alloc ?_ _ | with_reducible refine Later.drewN ?_ _ | with_reducible refine Later.drew ?_ | (with_reducible refine Later.trans ?_ (by assumption)) | (simp only [World.size_setCell, World.size_alloc, World.heap_drewN]; omega) | (simp; done) | (simp; omega))⟩
end Go.Proofs.YtpblfheeeifjcaaDoor
