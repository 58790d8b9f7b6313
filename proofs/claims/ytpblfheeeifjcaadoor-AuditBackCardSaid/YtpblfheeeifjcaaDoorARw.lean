/- AuditRows: its walk -/
import Derived.Test.YtpblfheeeifjcaaDoorCut
set_option linter.all false
namespace Go.Proofs.YtpblfheeeifjcaaDoor
open Go.RowKit
set_option maxRecDepth 100000

theorem rows_behind (b o L cp k : Nat) (R A B : List Rw) (r : Rw) (hk : k < L) (hL : R.length = L) (hR : R = A ++ r :: B) (hA : A.length = k) (w : World) (h : IsRow 9 rwF w (.slice (some ⟨b, o, none⟩) L cp) R) :
    ∃ P C, (∀ W, (Instr.slice 27 (.slice (some ⟨b, o, none⟩) L cp) (some (.int .i64 ((k : Int) + 1))) none none).run Tryd.prog W = .ok (.slice (some ⟨b, P, none⟩) (L - k - 1) C) W) ∧ ∀ W, Later w W → IsRow 9 rwF W (.slice (some ⟨b, P, none⟩) (L - k - 1) C) B := by
  have hc : L ≤ cp := by
    rcases h with ⟨⟨p, h1⟩, _⟩ | ⟨b', o', c', h1, h2, h3, h4, h5⟩
    · simp only [Value.slice.injEq] at h1; omega
    · simp only [Value.slice.injEq] at h1; omega
  have hB : B = R.drop (k + 1) := by rw [hR, ← hA]; simp
  by_cases hl : k + 1 < L
  · refine ⟨o + (k + 1) * 9, cp - (k + 1), fun W => ?_, fun W hW => ?_⟩
    · have := rows_from b o L cp (k + 1) hl hc W
      rw [show L - k - 1 = L - (k + 1) by omega]
      exact this
    · have := ((h.later hW).drop (k := k + 1) (by rw [hL]; exact hl)).1
      rw [hL, ← hB] at this
      rw [show L - k - 1 = L - (k + 1) by omega]
      exact this
  · have e : L = k + 1 := by omega
    have hB0 : B = [] := by rw [hB]; exact List.drop_of_length_le (by omega)
    have hz : L - k - 1 = 0 := by omega
    rw [hz, hB0]
    by_cases hcl : cp = L
    · refine ⟨o, 0, fun W => ?_, fun W hW => .inl ⟨⟨_, rfl⟩, rfl⟩⟩
      rw [run_slice_l _ _ _ _ _ (by kernel_rfl) _ _ (by omega) (by omega)]
      have e1 : (sizeOf (Tryd.prog.elem 27)).run Tryd.prog W = .ok 9 W := by kernel_rfl
      rw [e1]
      have e2 : ((k : Int) + 1).toNat = L := by omega
      simp only [Result.andThen, sliced, e2, Nat.sub_self]
      rw [if_pos hcl, hcl, Nat.sub_self]
    · refine ⟨o + L * 9, cp - L, fun W => ?_, fun W hW => ?_⟩
      · rw [run_slice_l _ _ _ _ _ (by kernel_rfl) _ _ (by omega) (by omega)]
        have e1 : (sizeOf (Tryd.prog.elem 27)).run Tryd.prog W = .ok 9 W := by kernel_rfl
        rw [e1]
        have e2 : ((k : Int) + 1).toNat = L := by omega
        simp only [Result.andThen, sliced, e2, Nat.sub_self]
        rw [if_neg hcl]
        simp only [Option.map]; rw [add_plain]
      · rcases (h.later hW) with ⟨⟨p, h1⟩, h6⟩ | ⟨b', o', c', h1, h2, h3, h4, h5⟩
        · obtain ⟨e1, e2, e3⟩ := Value.slice.inj h1
          omega
        · obtain ⟨e1, e2, e3⟩ := Value.slice.inj h1
          cases e1
          subst e3
          exact .inr ⟨b, o + L * 9, cp - L, rfl, h2, by simp, by omega, fun i hi => absurd hi (Nat.not_lt_zero _)⟩
theorem wrap_add_one (a : Int) (h : I64 a) : I64 (IntKind.i64.wrap (a + 1)) ∧ IntKind.i64.wrap (a + 1) ≠ a := by
  unfold I64 at *
  by_cases hm : a = 9223372036854775807
  · subst hm
    have : IntKind.i64.wrap (9223372036854775807 + 1) = -9223372036854775808 := by decide +kernel
    rw [this]; omega
  · rw [show IntKind.i64.wrap (a + 1) = a + 1 from IntWalk.i64_in _ (by omega)]
    omega
theorem which_k (which : Int) (N : Nat) (hN : 0 < N) (hb : N ≤ 100000) : ∃ k : Nat, k < N ∧ ∃ x : Int, Int.tmod which N = x ∧ IntKind.i64.wrap (x + N) = x + N ∧ Int.tmod (x + N) N = k := by
  have h1 : -(N : Int) < Int.tmod which N := Int.lt_tmod_of_pos which (by omega)
  have h2 : Int.tmod which N < N := Int.tmod_lt_of_pos _ (by omega)
  obtain ⟨x, hx⟩ : ∃ x, Int.tmod which N = x := ⟨_, rfl⟩
  rw [hx] at h1 h2
  have h3 : 0 ≤ Int.tmod (x + N) N := Int.tmod_nonneg _ (by omega)
  have h4 : Int.tmod (x + N) N < N := Int.tmod_lt_of_pos _ (by omega)
  exact ⟨(Int.tmod (x + N) N).toNat, by omega, x, hx, IntWalk.i64_in _ (by omega), by omega⟩

set_option maxHeartbeats 16000000 in
theorem audrows_any (l : List OpL) (which : Int) (hwh : I64 which) (hw : ∀ o ∈ l, o.ok) (v : Value) (w : World) (hN : IsOps w v l) (hR : RulesAt w) (hT : PowTab w) :
    Calls Tryd.prog 3 #[v, .int .i64 which] w fun e w' => e = .returned (.bool true) ∧ Later w w' := by
  have HAW := Lib.hid (fun W (hl : Later w W) => audawake_any W (hR.later hl) (hT.later hl))
  have HFEW := Lib.hid (fun W (hl : Later w W) => few15_any l v W (hN.later hl))
  by_cases hf : fewB l = true
  · have HPO := Lib.hid (fun W (hl : Later w W) => posted_any l hf hw v W (hN.later hl) (hR.later hl))
    rw [hf] at HFEW
    have hI := postAll_inv hf hw l.length (Nat.le_refl _)
    have hlen0 := postAll_len hf l.length (Nat.le_refl _)
    have h20 := (few_ops hf).1
    rw [List.take_length] at hI hlen0
    obtain ⟨p, cp, rfl, -⟩ := hN.form
    clear hN hR hT hw
    generalize postAll l = es at *
    generalize l.length = L at *
    have hlines := lines_20 hI
    have hRN := rowsL_bound es hlines
    have hok := rows_ok hI.word (by omega)
    have hel : es.length ≤ 200 := by omega
    have HROWS := Lib.hid (fun q W (hL : Led W q es) => rows_any q es hel hI.word hlines W hL)
    have HLEN := Lib.hid (fun q W (hL : Led W q es) => len_any q es (by omega) W hL)
    have HENT := Lib.hid (fun q (j : Nat) (hj : j < es.length) W (hL : Led W q es) => entry_any j es[j] q es (by omega) W hL (List.getElem?_eq_getElem hj) (hI.word _ (List.getElem_mem hj)).2.2.2.2.2.2.2)
    have HCK := Lib.hid (fun (xs : List Rw) (hxl : xs.length ≤ 10000) (hxo : ∀ r ∈ xs, r.ok) v W hN => check_rows xs hxl hxo v W hN)
    have HAY := Lib.hid (fun q (l : List Rw) (hl : l.length ≤ 10000) (he : l = rowsL es) v W (hL : Led W q es) hN => agrees_yes q es hI hel hlines l hl he v W hL hN)
    have HAN := Lib.hid (fun q (l : List Rw) (hl : l.length ≤ 10000) (he : l ≠ rowsL es) v W (hL : Led W q es) hN => agrees_no q es hel hI.word hlines l hl he v W hL hN)
    have HRIGHT := Lib.hid (rows_right hI)
    have HLB := Lib.hid hlines
    have HPL := Lib.hid (fun (j : Nat) (hj : j < es.length) => preL_succ es hj)
    have HPM := Lib.hid (fun (j : Nat) (hj : j ≤ es.length) => preL_mono es hj (Nat.le_refl _))
    have HPA := Lib.hid (preL_all es)
    have HGET := Lib.hid (fun (j k : Nat) (hj : j < es.length) (hk : k < es[j].ls.length) => rowsL_get es hj hk)
    have HOK := Lib.hid hok
    clear hI hlines hok hf
    go_enter Tryd.func3, Tryd.ntmps3
    go_upto_block 0 with (first | (go_at_call 6; go_must (refine (HFEW.out _ (by repeat (first | with_reducible exact Later.refl _ | with_reducible assumption | with_reducible refine Later.ofdrew ?_ | with_reducible refine Later.ofdrewN ?_ | with_reducible refine Later.setCell ?_ ?_ _ | with_reducible refine Later.alloc ?_ _ | with_reducible refine Later.drewN ?_ _ | with_reducible refine Later.drew ?_ | (with_reducible refine Later.trans ?_ (by assumption)) | (simp only [World.size_setCell, World.size_alloc, World.heap_drewN]; omega) | (simp; done) | (simp; omega)))).mono ?_; rintro e w1 ⟨rfl, hb1⟩)) | (go_at_call 8; go_must (refine (HPO.out _ (by repeat (first | with_reducible exact Later.refl _ | with_reducible assumption | with_reducible refine Later.ofdrew ?_ | with_reducible refine Later.ofdrewN ?_ | with_reducible refine Later.setCell ?_ ?_ _ | with_reducible refine Later.alloc ?_ _ | with_reducible refine Later.drewN ?_ _ | with_reducible refine Later.drew ?_ | (with_reducible refine Later.trans ?_ (by assumption)) | (simp only [World.size_setCell, World.size_alloc, World.heap_drewN]; omega) | (simp; done) | (simp; omega)))).mono ?_; rintro e w2 ⟨q, rfl, hL2, hb2⟩; have HL2 := Lib.hid hL2; clear hL2)) | (go_at_call 9; go_must (refine (HROWS.out _ _ (HL2.out.later (by repeat (first | with_reducible exact Later.refl _ | with_reducible assumption | with_reducible refine Later.ofdrew ?_ | with_reducible refine Later.ofdrewN ?_ | with_reducible refine Later.setCell ?_ ?_ _ | with_reducible refine Later.alloc ?_ _ | with_reducible refine Later.drewN ?_ _ | with_reducible refine Later.drew ?_ | (with_reducible refine Later.trans ?_ (by assumption)) | (simp only [World.size_setCell, World.size_alloc, World.heap_drewN]; omega) | (simp; done) | (simp; omega))))).mono ?_; rintro e w3 ⟨v3, rfl, hR3, hb3⟩)))
    refine wp_opaque (fun W8 hb8 => ?_)
    have hN8 := hR3.1.later hb8
    have hw8 : Later w W8 := Later.trans (by repeat (first | with_reducible exact Later.refl _ | with_reducible assumption | with_reducible refine Later.ofdrew ?_ | with_reducible refine Later.ofdrewN ?_ | with_reducible refine Later.setCell ?_ ?_ _ | with_reducible refine Later.alloc ?_ _ | with_reducible refine Later.drewN ?_ _ | with_reducible refine Later.drew ?_ | (with_reducible refine Later.trans ?_ (by assumption)) | (simp only [World.size_setCell, World.size_alloc, World.heap_drewN]; omega) | (simp; done) | (simp; omega))) hb8
    have HL8 := Lib.hid ((HL2.out.later hb3).later hb8)
    clear hR3 hb8 hb3 hb2 hb1 HL2 HPO HROWS HFEW
    obtain ⟨N, hNN⟩ : ∃ N, (rowsL es).length = N := ⟨_, rfl⟩
    rw [hNN] at hRN
    have HN8 := Lib.hid hN8
    obtain ⟨p3, c3, rfl⟩ := hN8.form
    simp only [hNN] at HN8 HPA HPM ⊢
    have HNN := Lib.hid hNN
    obtain ⟨E, hE⟩ : ∃ E, es.length = E := ⟨_, rfl⟩
    have HE := Lib.hid hE
    rw [hE] at hel
    simp only [hE] at HLEN
    have hP0 : preL es 0 = 0 := rfl
    have HP0 := Lib.hid hP0
    have HPE := Lib.hid (show preL es E = N by rw [← hE]; exact HPA.out)
    have HPB := Lib.hid (fun (j : Nat) (hj : j ≤ E) => show preL es j ≤ N by have := preL_mono es (show j ≤ es.length by omega) (Nat.le_refl _); rw [preL_all, HNN.out] at this; exact this)
    clear hN8 hNN hE hP0 HPA HPM
    go_cut [7] (fun s7 wx => s7 = .int .i64 N ∧ Later W8 wx)
    case first =>
      clear HAW HCK HAY HAN HRIGHT
      go_wp2_with fail
      go_loopw [7, 8] (fun s7 s8 wr => ∃ j : Nat, j ≤ E ∧ s8 = .int .i64 j ∧ (∃ m : Nat, s7 = .int .i64 m ∧ Hid (m = preL es j)) ∧ Later W8 wr) (fun _ s8 _ => E - (intOf s8).toNat)
      case atStart => exact ⟨0, Nat.zero_le _, rfl, ⟨0, rfl, HP0⟩, Later.refl _⟩
      case round =>
        obtain ⟨j, hj, rfl, ⟨m, rfl, hm⟩, hlat⟩ := hrel
        have HLENr := Lib.hid (fun W (hl : Later wr W) => HLEN.out q W (HL8.out.later (hlat.trans hl)))
        by_cases hlt : j < E
        · have hjl : j < es.length := by rw [HE.out]; exact hlt
          have HENr := Lib.hid (fun W (hl : Later wr W) => HENT.out q j hjl W (HL8.out.later (hlat.trans hl)))
          have hls := HLB.out _ (List.getElem_mem hjl)
          have HPJ := HPL.out j hjl
          have HG := Lib.hid (fun (k : Nat) (hk : k < es[j].ls.length) => HGET.out j k hjl hk)
          have hpb := HPB.out (j + 1) (by omega)
          rw [HPJ, ← hm.out] at hpb
          rw [← hm.out] at HPJ HG
          have HPJ := Lib.hid HPJ
          clear HENT HGET HLEN HPL HPB
          generalize es[j] = x at *
          obtain ⟨con, day, cur, sq, pr, ref, ls⟩ := x
          simp only at HENr hls HPJ hpb HG
          go_upto_block 2 with (first | (go_at_call 10; go_must (refine (HLENr.out _ (by repeat (first | with_reducible exact Later.refl _ | with_reducible assumption | with_reducible refine Later.ofdrew ?_ | with_reducible refine Later.ofdrewN ?_ | with_reducible refine Later.setCell ?_ ?_ _ | with_reducible refine Later.alloc ?_ _ | with_reducible refine Later.drewN ?_ _ | with_reducible refine Later.drew ?_ | (with_reducible refine Later.trans ?_ (by assumption)) | (simp only [World.size_setCell, World.size_alloc, World.heap_drewN]; omega) | (simp; done) | (simp; omega)))).mono ?_; rintro e w4 ⟨rfl, hb4⟩)) | (go_at_call 11; go_must (refine (HENr.out _ (by repeat (first | with_reducible exact Later.refl _ | with_reducible assumption | with_reducible refine Later.ofdrew ?_ | with_reducible refine Later.ofdrewN ?_ | with_reducible refine Later.setCell ?_ ?_ _ | with_reducible refine Later.alloc ?_ _ | with_reducible refine Later.drewN ?_ _ | with_reducible refine Later.drew ?_ | (with_reducible refine Later.trans ?_ (by assumption)) | (simp only [World.size_setCell, World.size_alloc, World.heap_drewN]; omega) | (simp; done) | (simp; omega)))).mono ?_; rintro e w5 ⟨v5, rfl, hR5, -, hb5⟩; have HLI5 := Lib.hid hR5.1; obtain ⟨p5, c5, rfl⟩ := hR5.1.form; clear hR5)))
          refine wp_opaque (fun W9 hb9 => ?_)
          obtain ⟨n, hn⟩ : ∃ n, ls.length = n := ⟨_, rfl⟩
          have HLI9 := Lib.hid (IsRow.later HLI5.out hb9.un1)
          have HO9 := Lib.hid (Own.one hb9)
          rw [hn] at HLI9 HO9 hls HPJ hpb ⊢
          have hw9 : Later W8 W9 := hlat.trans (Later.trans (by repeat (first | with_reducible exact Later.refl _ | with_reducible assumption | with_reducible refine Later.ofdrew ?_ | with_reducible refine Later.ofdrewN ?_ | with_reducible refine Later.setCell ?_ ?_ _ | with_reducible refine Later.alloc ?_ _ | with_reducible refine Later.drewN ?_ _ | with_reducible refine Later.drew ?_ | (with_reducible refine Later.trans ?_ (by assumption)) | (simp only [World.size_setCell, World.size_alloc, World.heap_drewN]; omega) | (simp; done) | (simp; omega))) hb9.un1)
          have HNL := Lib.hid hn
          clear hb9 HLI5 hn HENr HLENr hb4 hb5
          obtain ⟨⟨z9, d9, f9⟩, -⟩ := HO9.out
          go_wp2
          go_loopw [7, 11] (fun s7 s11 wr => ∃ k : Nat, k ≤ n ∧ s11 = .int .i64 k ∧ s7 = .int .i64 ((m : Int) + k) ∧ Later W9 wr) (fun _ s11 _ => n - (intOf s11).toNat)
          case atStart => exact ⟨0, Nat.zero_le _, rfl, by simp, Later.refl _⟩
          case round =>
            obtain ⟨k, hk, rfl, rfl, hlq⟩ := hrel
            clear z9 d9 f9
            obtain ⟨⟨z9, d9, f9⟩, -⟩ := HO9.out.later hlq
            by_cases hkt : k < n
            · have hkl : k < ls.length := by rw [HNL.out]; exact hkt
              obtain ⟨b2, o2, cp2, hv2, hb2', gl⟩ := HLI9.out.full (i := k) hkl
              rw [HNL.out] at hv2
              cases hv2
              have l0 := ((bcell hlq).1 _ _ hb2').trans (gl 0 (by omega))
              have l1 := ((bcell hlq).1 _ _ hb2').trans (gl 1 (by omega))
              have l2 := ((bcell hlq).1 _ _ hb2').trans (gl 2 (by omega))
              simp only [lnF, Nat.add_zero] at l0 l1 l2
              have hb2z := Nat.lt_of_lt_of_le hb2' (Later.size hlq)
              have hgk := HG.out k hkl
              obtain ⟨M, hM⟩ : ∃ M, m + k = M := ⟨_, rfl⟩
              have hMi : (m : Int) + (k : Int) = (M : Int) := by omega
              have hMN : M < N := by omega
              have hMge : ¬ (N ≤ M) := by omega
              have hMgi : ¬ ((N : Int) ≤ (M : Int)) := by omega
              rw [hM] at hgk
              obtain ⟨hMl, hgk⟩ := List.getElem?_eq_some_iff.1 hgk
              obtain ⟨b, o, cp', hv, hb, g⟩ := HN8.out.full (i := M) hMl
              rw [HNN.out] at hv
              cases hv
              have hlw := hw9.trans hlq
              replace g := fun k (hk : k < 9) => ((bcell hlw).1 _ _ hb).trans (g k hk)
              rw [hgk] at g
              have g0 := g 0 (by omega)
              have g1 := g 1 (by omega)
              have g2 := g 2 (by omega)
              have g3 := g 3 (by omega)
              have g4 := g 4 (by omega)
              have g5 := g 5 (by omega)
              have g6 := g 6 (by omega)
              have g7 := g 7 (by omega)
              have g8 := g 8 (by omega)
              simp only [rwF, Rw.nums, List.getD_cons_zero, List.getD_cons_succ, Nat.add_zero] at g0 g1 g2 g3 g4 g5 g6 g7 g8
              have hbz := Nat.lt_of_lt_of_le hb (Later.size hlw)
              clear g gl hgk HG HLI9 HN8 hMl hM
              generalize ls[k] = y at *
              obtain ⟨yp, yc, ya⟩ := y
              simp only at l0 l1 l2 g6 g7 g8
              have HBLD := fun W => rw_build (j : Int) sq pr con day ref yp yc ya W
              have HNEQ := fun W => rw_neq (j : Int) sq pr con day ref yp yc ya (j : Int) sq pr con day ref yp yc ya W
              simp only [decide_true, Bool.not_true] at HNEQ
              rw [hMi]
              go_upto_region 17 with (fail)
              refine wp_region_plan 43 (.one [0, 1] 2 (.done [3, 4, 5, 6, 7, 8, 9, 10, 11, 12, 13, 14, 15, 16, 17, 18, 19, 20, 21, 22, 23, 24, 25, 26, 27, 28, 29, 30, 31, 32, 33, 34, 35, 36, 37, 38, 39, 40, 41, 42])) (by kernel_rfl) (by kernel_rfl) (fun _ _ d _ _ h => by cases d <;> exact h) ?_
              repeat' (first
                | (refine plan_done (fun K hK => ?_); (first | (simp only [pick_cons, pick_nil, toList_some_append, List.getElem?_toArray, List.getElem?_cons_zero, List.getElem?_cons_succ]; repeat (go_big_quiet_step (fail))) | simp only [pick_nil]); refine wpQuiet_nil (hK _ ?_); clear hK K)
                | (refine plan_one (by rfl) (fun K hK => ?_); (first | (simp only [pick_cons, pick_nil, toList_some_append, List.getElem?_toArray, List.getElem?_cons_zero, List.getElem?_cons_succ]; repeat (go_big_quiet_step (fail))) | simp only [pick_nil]); refine wpQuiet_nil (hK _ ?_); clear hK K)
                | ((with_reducible refine at_list ?_); go_wp2_with (fail); first | refine behind_store (t := 43) (by decide) ?_ | refine behind (by repeat (first | with_reducible exact Later.refl _ | with_reducible assumption | with_reducible refine Later.ofdrew ?_ | with_reducible refine Later.ofdrewN ?_ | with_reducible refine Later.alloc ?_ _ | with_reducible refine Later.drewN ?_ _ | with_reducible refine Later.drew ?_ | (with_reducible refine Later.trans ?_ (by assumption)))) ?_))
              go_wp2
              go_roundw
              case rel => exact ⟨k + 1, by omega, by go_num, by rw [show (m : Int) + ((k + 1 : Nat) : Int) = (M : Int) + 1 by omega], by repeat (first | with_reducible exact Later.refl _ | with_reducible assumption | with_reducible refine Later.ofdrew ?_ | with_reducible refine Later.ofdrewN ?_ | with_reducible refine Later.setCell ?_ ?_ _ | with_reducible refine Later.alloc ?_ _ | with_reducible refine Later.drewN ?_ _ | with_reducible refine Later.drew ?_ | (with_reducible refine Later.trans ?_ (by assumption)) | (simp only [World.size_setCell, World.size_alloc, World.heap_drewN]; omega) | (simp; done) | (simp; omega))⟩
              case measure => simp [intOf]; omega
            · have hkn : k = n := by omega
              subst hkn
              have HPN : Hid (m + k = preL es (j + 1)) := Lib.hid HPJ.out.symm
              have hmk : (m : Int) + (k : Int) = ((m + k : Nat) : Int) := by omega
              clear HG HN8 HLI9
              rw [hmk]
              go_wp2
              go_roundw
              case rel => exact ⟨j + 1, by omega, by go_num, ⟨m + k, by go_num, HPN⟩, by repeat (first | with_reducible exact Later.refl _ | with_reducible assumption | with_reducible refine Later.ofdrew ?_ | with_reducible refine Later.ofdrewN ?_ | with_reducible refine Later.setCell ?_ ?_ _ | with_reducible refine Later.alloc ?_ _ | with_reducible refine Later.drewN ?_ _ | with_reducible refine Later.drew ?_ | (with_reducible refine Later.trans ?_ (by assumption)) | (simp only [World.size_setCell, World.size_alloc, World.heap_drewN]; omega) | (simp; done) | (simp; omega))⟩
              case measure => simp [intOf]; omega
        · have hmN : m = N := by rw [hm.out, show j = E by omega]; exact HPE.out
          subst hmN
          clear HENT HGET HLEN HPL HPB HPE
          go_wp2_with (go_at_call 10; go_must (refine (HLENr.out _ (by repeat (first | with_reducible exact Later.refl _ | with_reducible assumption | with_reducible refine Later.ofdrew ?_ | with_reducible refine Later.ofdrewN ?_ | with_reducible refine Later.setCell ?_ ?_ _ | with_reducible refine Later.alloc ?_ _ | with_reducible refine Later.drewN ?_ _ | with_reducible refine Later.drew ?_ | (with_reducible refine Later.trans ?_ (by assumption)) | (simp only [World.size_setCell, World.size_alloc, World.heap_drewN]; omega) | (simp; done) | (simp; omega)))).mono ?_; rintro e w4 ⟨rfl, hb4⟩))
          go_meet
          exact ⟨rfl, by repeat (first | with_reducible exact Later.refl _ | with_reducible assumption | with_reducible refine Later.ofdrew ?_ | with_reducible refine Later.ofdrewN ?_ | with_reducible refine Later.setCell ?_ ?_ _ | with_reducible refine Later.alloc ?_ _ | with_reducible refine Later.drewN ?_ _ | with_reducible refine Later.drew ?_ | (with_reducible refine Later.trans ?_ (by assumption)) | (simp only [World.size_setCell, World.size_alloc, World.heap_drewN]; omega) | (simp; done) | (simp; omega))⟩
    case rest =>
    obtain ⟨rfl, hl1⟩ := hcut
    clear HLEN HENT HPL HGET HP0 HPE HPB HLB HE
    have hwc := hw8.trans hl1
    have HLc := Lib.hid (HL8.out.later hl1)
    have HNc := Lib.hid (HN8.out.later hl1)
    have HAWc := Lib.hid (fun W (hl : Later wc W) => HAW.out W (hwc.trans hl))
    have hRl : (rowsL es).length ≤ 10000 := by rw [HNN.out]; omega
    have HCKc := Lib.hid (fun W (hl : Later wc W) => HCK.out (rowsL es) hRl HOK.out _ W (HNc.out.later hl))
    rw [HRIGHT.out] at HCKc
    have HAYc := Lib.hid (fun W (hl : Later wc W) => HAY.out q (rowsL es) hRl rfl _ W (HLc.out.later hl) (HNc.out.later hl))
    have hbe : ((N : Int) == (N : Int)) = true := beq_self_eq_true _
    clear HN8 HL8 hl1 hw8 HAW HAY hRl
    by_cases hN0 : N = 0
    · subst hN0
      go_wp2_with (first | (go_at_call 12; go_must (refine (HCKc.out _ (by repeat (first | with_reducible exact Later.refl _ | with_reducible assumption | with_reducible refine Later.ofdrew ?_ | with_reducible refine Later.ofdrewN ?_ | with_reducible refine Later.setCell ?_ ?_ _ | with_reducible refine Later.alloc ?_ _ | with_reducible refine Later.drewN ?_ _ | with_reducible refine Later.drew ?_ | (with_reducible refine Later.trans ?_ (by assumption)) | (simp only [World.size_setCell, World.size_alloc, World.heap_drewN]; omega) | (simp; done) | (simp; omega)))).mono ?_; rintro e wb ⟨rfl, hbb⟩)) | (go_at_call 13; go_must (refine (HAYc.out _ (by repeat (first | with_reducible exact Later.refl _ | with_reducible assumption | with_reducible refine Later.ofdrew ?_ | with_reducible refine Later.ofdrewN ?_ | with_reducible refine Later.setCell ?_ ?_ _ | with_reducible refine Later.alloc ?_ _ | with_reducible refine Later.drewN ?_ _ | with_reducible refine Later.drew ?_ | (with_reducible refine Later.trans ?_ (by assumption)) | (simp only [World.size_setCell, World.size_alloc, World.heap_drewN]; omega) | (simp; done) | (simp; omega)))).mono ?_; rintro e wd ⟨rfl, hbd⟩)) | (go_at_call 7; go_must (refine (HAWc.out _ (by repeat (first | with_reducible exact Later.refl _ | with_reducible assumption | with_reducible refine Later.ofdrew ?_ | with_reducible refine Later.ofdrewN ?_ | with_reducible refine Later.setCell ?_ ?_ _ | with_reducible refine Later.alloc ?_ _ | with_reducible refine Later.drewN ?_ _ | with_reducible refine Later.drew ?_ | (with_reducible refine Later.trans ?_ (by assumption)) | (simp only [World.size_setCell, World.size_alloc, World.heap_drewN]; omega) | (simp; done) | (simp; omega)))).mono ?_; rintro e wa ⟨rfl, hba⟩)))
      go_ret
      exact ⟨rfl, hwc.trans (by repeat (first | with_reducible exact Later.refl _ | with_reducible assumption | with_reducible refine Later.ofdrew ?_ | with_reducible refine Later.ofdrewN ?_ | with_reducible refine Later.setCell ?_ ?_ _ | with_reducible refine Later.alloc ?_ _ | with_reducible refine Later.drewN ?_ _ | with_reducible refine Later.drew ?_ | (with_reducible refine Later.trans ?_ (by assumption)) | (simp only [World.size_setCell, World.size_alloc, World.heap_drewN]; omega) | (simp; done) | (simp; omega)))⟩
    · obtain ⟨kk, hkN, x, hx1, hx2, hx3⟩ := which_k which N (by omega) (by omega)
      have hNz : ((N : Int) == 0) = false := by rw [beq_eq_false_iff_ne]; omega
      have hkl : kk < (rowsL es).length := by rw [HNN.out]; exact hkN
      obtain ⟨b, o, cap, hv, hb, g⟩ := HNc.out.full (i := kk) hkl
      rw [HNN.out] at hv
      cases hv
      have hsplit : rowsL es = (rowsL es).take kk ++ (rowsL es)[kk] :: (rowsL es).drop (kk + 1) := by
        rw [← List.drop_eq_getElem_cons hkl, List.take_append_drop]
      have hTK := HNc.out.take (k := kk) (by omega)
      have hrok := HOK.out _ (List.getElem_mem hkl)
      obtain ⟨P2, C2, hs2, hB2⟩ := rows_behind b o N c3 kk (rowsL es) _ _ _ hkN HNN.out hsplit (by rw [List.length_take]; omega) wc HNc.out
      have hs1 := fun W => rows_upto b o N c3 kk hTK.2 W
      have HS2 := Lib.hid hs2
      have HB2 := Lib.hid hB2
      have HT1 := Lib.hid (fun W (hl : Later wc W) => hTK.1.later hl)
      have hAl : ((rowsL es).take kk).length = kk := by rw [List.length_take]; omega
      have hBl : ((rowsL es).drop (kk + 1)).length = N - kk - 1 := by rw [List.length_drop, HNN.out]; omega
      have HG := Lib.hid (fun W (hl : Later wc W) k (hk : k < 9) => ((bcell hl).1 _ _ hb).trans (g k hk))
      obtain ⟨A, hA⟩ : ∃ A, (rowsL es).take kk = A := ⟨_, rfl⟩
      obtain ⟨B, hB⟩ : ∃ B, (rowsL es).drop (kk + 1) = B := ⟨_, rfl⟩
      rw [hA, hB] at hsplit
      rw [hA] at hAl HT1
      rw [hB] at hBl HB2
      obtain ⟨r, hr⟩ : ∃ r, (rowsL es)[kk] = r := ⟨_, rfl⟩
      rw [hr] at hsplit hrok
      simp only [hr] at HG
      have hAok : ∀ y ∈ A, y.ok := fun y hy => HOK.out y (by rw [hsplit]; simp [hy])
      have hBok : ∀ y ∈ B, y.ok := fun y hy => HOK.out y (by rw [hsplit]; simp [hy])
      have hNsum : N = kk + 1 + B.length := by have := HNN.out; rw [hsplit, List.length_append, List.length_cons, hAl] at this; omega
      obtain ⟨r0, r1, r2, r3, r4, r5, r6, r7, r8⟩ := r
      obtain ⟨hamo, hamn⟩ := wrap_add_one r8 hrok.2.2.2.2.2.2.2.2
      obtain ⟨am, ham⟩ : ∃ am, IntKind.i64.wrap (r8 + 1) = am := ⟨_, rfl⟩
      rw [ham] at hamo hamn
      have hne1 : A ++ B ≠ rowsL es := fun e => by
        have := congrArg List.length e
        rw [HNN.out, List.length_append] at this; omega
      have hne2 : A ++ [(⟨r0, r1, r2, r3, r4, r5, r6, r7, am⟩ : Rw)] ++ B ≠ rowsL es := fun e => by
        rw [hsplit, List.append_assoc] at e
        have := List.append_cancel_left e
        simp only [List.singleton_append, List.cons.injEq, Rw.mk.injEq] at this
        exact hamn this.1.2.2.2.2.2.2.2.2
      have hck2 : checkG (groups (A ++ [(⟨r0, r1, r2, r3, r4, r5, r6, r7, am⟩ : Rw)] ++ B)) ≠ 0 := by
        have h1 := HRIGHT.out
        rw [hsplit] at h1
        have := other_wrong (n := am) h1 hamn
        rw [List.append_assoc]
        exact this
      have hl2 : (A ++ [(⟨r0, r1, r2, r3, r4, r5, r6, r7, am⟩ : Rw)] ++ B).length ≤ 10000 := by simp only [List.length_append, List.length_cons, List.length_nil]; omega
      have hok2 : ∀ y ∈ A ++ [(⟨r0, r1, r2, r3, r4, r5, r6, r7, am⟩ : Rw)] ++ B, y.ok := by
        intro y hy
        rcases List.mem_append.1 hy with hy | hy
        · rcases List.mem_append.1 hy with hy | hy
          · exact hAok y hy
          · simp only [List.mem_singleton] at hy; subst hy; exact ⟨hrok.1, hrok.2.1, hrok.2.2.1, hrok.2.2.2.1, hrok.2.2.2.2.1, hrok.2.2.2.2.2.1, hrok.2.2.2.2.2.2.1, hrok.2.2.2.2.2.2.2.1, hamo⟩
        · exact hBok y hy
      have HA1 := Lib.hid (fun v W hL hN => HAN.out q (A ++ B) (by rw [List.length_append]; omega) hne1 v W hL hN)
      have HA2 := Lib.hid (fun v W hL hN => HAN.out q (A ++ [(⟨r0, r1, r2, r3, r4, r5, r6, r7, am⟩ : Rw)] ++ B) hl2 hne2 v W hL hN)
      have HC2 := Lib.hid (fun v W hN => HCK.out (A ++ [(⟨r0, r1, r2, r3, r4, r5, r6, r7, am⟩ : Rw)] ++ B) hl2 hok2 v W hN)
      obtain ⟨ck, hck⟩ : ∃ c, checkG (groups (A ++ [(⟨r0, r1, r2, r3, r4, r5, r6, r7, am⟩ : Rw)] ++ B)) = c := ⟨_, rfl⟩
      rw [hck] at hck2
      simp only [hck] at HC2
      have hckb : (ck == 0) = false := by simpa using hck2
      have hckn : (ck != 0) = true := by simpa using hck2
      have hA9 : A.length ≤ 10000 := by omega
      have hB9 : B.length ≤ 10000 := by omega
      replace hAl := Lib.hid hAl
      replace hBl := Lib.hid hBl
      replace hNsum := Lib.hid hNsum
      clear hTK hB2 hs2 g hsplit hA hB hr hAok hBok hrok hamo hamn hne1 hne2 hck2 hl2 hok2 hck HAN HCK HRIGHT HOK hN0 hkl
      go_upto_region 25 with (first | (go_at_call 12; go_must (refine (HCKc.out _ (by repeat (first | with_reducible exact Later.refl _ | with_reducible assumption | with_reducible refine Later.ofdrew ?_ | with_reducible refine Later.ofdrewN ?_ | with_reducible refine Later.setCell ?_ ?_ _ | with_reducible refine Later.alloc ?_ _ | with_reducible refine Later.drewN ?_ _ | with_reducible refine Later.drew ?_ | (with_reducible refine Later.trans ?_ (by assumption)) | (simp only [World.size_setCell, World.size_alloc, World.heap_drewN]; omega) | (simp; done) | (simp; omega)))).mono ?_; rintro e wb ⟨rfl, hbb⟩)) | (go_at_call 13; go_must (refine (HAYc.out _ (by repeat (first | with_reducible exact Later.refl _ | with_reducible assumption | with_reducible refine Later.ofdrew ?_ | with_reducible refine Later.ofdrewN ?_ | with_reducible refine Later.setCell ?_ ?_ _ | with_reducible refine Later.alloc ?_ _ | with_reducible refine Later.drewN ?_ _ | with_reducible refine Later.drew ?_ | (with_reducible refine Later.trans ?_ (by assumption)) | (simp only [World.size_setCell, World.size_alloc, World.heap_drewN]; omega) | (simp; done) | (simp; omega)))).mono ?_; rintro e wd ⟨rfl, hbd⟩)))
      refine wp_opaque (fun W20 hb20 => ?_)
      have hw20 : Later wc W20 := Later.trans (by repeat (first | with_reducible exact Later.refl _ | with_reducible assumption | with_reducible refine Later.ofdrew ?_ | with_reducible refine Later.ofdrewN ?_ | with_reducible refine Later.setCell ?_ ?_ _ | with_reducible refine Later.alloc ?_ _ | with_reducible refine Later.drewN ?_ _ | with_reducible refine Later.drew ?_ | (with_reducible refine Later.trans ?_ (by assumption)) | (simp only [World.size_setCell, World.size_alloc, World.heap_drewN]; omega) | (simp; done) | (simp; omega))) hb20
      clear hbb hbd hb20 HCKc HAYc hbe hx1 hx2 hx3
      have HT1 := Lib.hid (fun W (hl : Later W20 W) => HT1.out W (hw20.trans hl))
      have HB2 := Lib.hid (fun W (hl : Later W20 W) => HB2.out W (hw20.trans hl))
      have HG := Lib.hid (fun W (hl : Later W20 W) => HG.out W (hw20.trans hl))
      have HL20 := Lib.hid (fun W (hl : Later W20 W) => HLc.out.later (hw20.trans hl))
      have HAW20 := Lib.hid (fun W (hl : Later W20 W) => HAWc.out W (hw20.trans hl))
      have hw20' := hwc.trans hw20
      clear HLc HNc HAWc hwc
      go_upto_region 27 with (at_builtin; go_must (refine wpList_rows (L := ([] : List Rw)) (Mine.nil (w0 := W20) (by repeat (first | with_reducible exact Later.refl _ | with_reducible assumption | with_reducible refine Later.ofdrew ?_ | with_reducible refine Later.ofdrewN ?_ | with_reducible refine Later.setCell ?_ ?_ _ | with_reducible refine Later.alloc ?_ _ | with_reducible refine Later.drewN ?_ _ | with_reducible refine Later.drew ?_ | (with_reducible refine Later.trans ?_ (by assumption)) | (simp only [World.size_setCell, World.size_alloc, World.heap_drewN]; omega) | (simp; done) | (simp; omega)))) (HT1.out _ (by repeat (first | with_reducible exact Later.refl _ | with_reducible assumption | with_reducible refine Later.ofdrew ?_ | with_reducible refine Later.ofdrewN ?_ | with_reducible refine Later.setCell ?_ ?_ _ | with_reducible refine Later.alloc ?_ _ | with_reducible refine Later.drewN ?_ _ | with_reducible refine Later.drew ?_ | (with_reducible refine Later.trans ?_ (by assumption)) | (simp only [World.size_setCell, World.size_alloc, World.heap_drewN]; omega) | (simp; done) | (simp; omega)))) rfl _ _ rfl rfl rfl (by first | omega | (simp only [List.length_append, List.length_cons, List.length_nil]; omega)) ?_; intro v9 w9 hM9 hg9 hf9; obtain ⟨n9, hn9⟩ : ∃ n, (([] : List Rw) ++ A).length = n := ⟨_, rfl⟩; rw [hn9] at hM9; replace hn9 := Lib.hid hn9; obtain ⟨p9, c9, rfl⟩ := hM9.form; skip))
      refine wp_opaque (fun W21 hb21 => ?_)
      rw [List.nil_append] at hM9
      have hn9' : kk = n9 := by rw [← hn9.out, List.nil_append]; exact hAl.out.symm
      subst hn9'
      have HM9 := Lib.hid (fun W (hl : Later W21 W) => hM9.later (hb21.trans hl))
      have hw21 := hM9.lat.trans hb21
      clear hM9 hg9 hf9 hb21
      go_upto_region 29 with (at_builtin; go_must (refine wpList_rows (L := ([] : List Rw)) (Mine.nil (w0 := W20) (hw21.trans (by repeat (first | with_reducible exact Later.refl _ | with_reducible assumption | with_reducible refine Later.ofdrew ?_ | with_reducible refine Later.ofdrewN ?_ | with_reducible refine Later.setCell ?_ ?_ _ | with_reducible refine Later.alloc ?_ _ | with_reducible refine Later.drewN ?_ _ | with_reducible refine Later.drew ?_ | (with_reducible refine Later.trans ?_ (by assumption)) | (simp only [World.size_setCell, World.size_alloc, World.heap_drewN]; omega) | (simp; done) | (simp; omega))))) (HT1.out _ (hw21.trans (by repeat (first | with_reducible exact Later.refl _ | with_reducible assumption | with_reducible refine Later.ofdrew ?_ | with_reducible refine Later.ofdrewN ?_ | with_reducible refine Later.setCell ?_ ?_ _ | with_reducible refine Later.alloc ?_ _ | with_reducible refine Later.drewN ?_ _ | with_reducible refine Later.drew ?_ | (with_reducible refine Later.trans ?_ (by assumption)) | (simp only [World.size_setCell, World.size_alloc, World.heap_drewN]; omega) | (simp; done) | (simp; omega))))) rfl _ _ rfl rfl rfl (by first | omega | (simp only [List.length_append, List.length_cons, List.length_nil]; omega)) ?_; intro v8 w8 hM8 hg8 hf8; obtain ⟨n8, hn8⟩ : ∃ n, (([] : List Rw) ++ A).length = n := ⟨_, rfl⟩; rw [hn8] at hM8; replace hn8 := Lib.hid hn8; obtain ⟨p8, c8, rfl⟩ := hM8.form; have hK9 := Lib.hid ((HM9.out _ (by repeat (first | with_reducible exact Later.refl _ | with_reducible assumption | with_reducible refine Later.ofdrew ?_ | with_reducible refine Later.ofdrewN ?_ | with_reducible refine Later.setCell ?_ ?_ _ | with_reducible refine Later.alloc ?_ _ | with_reducible refine Later.drewN ?_ _ | with_reducible refine Later.drew ?_ | (with_reducible refine Later.trans ?_ (by assumption)) | (simp only [World.size_setCell, World.size_alloc, World.heap_drewN]; omega) | (simp; done) | (simp; omega)))).beside hg8 (fun k h => by cases h) (fun k h => by cases h)); have hap := Apart.grow (v := .slice none 0 0) (fun k h => by cases h) (HM9.out _ (by repeat (first | with_reducible exact Later.refl _ | with_reducible assumption | with_reducible refine Later.ofdrew ?_ | with_reducible refine Later.ofdrewN ?_ | with_reducible refine Later.setCell ?_ ?_ _ | with_reducible refine Later.alloc ?_ _ | with_reducible refine Later.drewN ?_ _ | with_reducible refine Later.drew ?_ | (with_reducible refine Later.trans ?_ (by assumption)) | (simp only [World.size_setCell, World.size_alloc, World.heap_drewN]; omega) | (simp; done) | (simp; omega)))).1 hf8))
      refine wp_opaque (fun W22 hb22 => ?_)
      rw [List.nil_append] at hM8
      have hn8' : kk = n8 := by rw [← hn8.out, List.nil_append]; exact hAl.out.symm
      subst hn8'
      have HM9' := Lib.hid (fun W (hl : Later W22 W) => hK9.out.later (hb22.trans hl))
      have HM8 := Lib.hid (fun W (hl : Later W22 W) => hM8.later (hb22.trans hl))
      have hap := Lib.hid hap
      have hw22 := hM8.lat.trans hb22
      clear hM8 hg8 hf8 hb22 hK9 HM9
      have HM9 := HM9'
      clear HM9'
      have e0 := HG.out W22 hw22 0 (by omega)
      have e1 := HG.out W22 hw22 1 (by omega)
      have e2 := HG.out W22 hw22 2 (by omega)
      have e3 := HG.out W22 hw22 3 (by omega)
      have e4 := HG.out W22 hw22 4 (by omega)
      have e5 := HG.out W22 hw22 5 (by omega)
      have e6 := HG.out W22 hw22 6 (by omega)
      have e7 := HG.out W22 hw22 7 (by omega)
      have e8 := HG.out W22 hw22 8 (by omega)
      simp only [rwF, Rw.nums, List.getD_cons_zero, List.getD_cons_succ, Nat.add_zero] at e0 e1 e2 e3 e4 e5 e6 e7 e8
      have hz22 := World.block_lt_of_cell? _ _ e0
      go_upto_region 30 with (fail)
      refine wp_opaque (fun W23 hb23 => ?_)
      have HO23 := Lib.hid (Own.one hb23)
      have hw23 := hb23.un1
      obtain ⟨BB, hBB⟩ : ∃ B, W22.heap.size = B := ⟨_, rfl⟩
      rw [hBB] at HO23 ⊢
      obtain ⟨⟨z23, d23, f23⟩, -⟩ := HO23.out
      clear hb23 e0 e1 e2 e3 e4 e5 e6 e7 e8 hz22 HG
      go_upto_region 31 with (fail)
      refine wp_opaque (fun W24 hb24 => ?_)
      have HO24 := Lib.hid ((own_put HO23.out (k := 8) (by simp) (.int .i64 am)).later hb24)
      have hw24 : Later W22 W24 := (Later.putCell hw23 (k := BB) (i := 8) (by omega) (.int .i64 am)).trans hb24
      have HM9a := Lib.hid (fun W (hl : Later W24 W) => HM9.out W (hw24.trans hl))
      have HM8a := Lib.hid (fun W (hl : Later W24 W) => HM8.out W (hw24.trans hl))
      have hw24' := hw22.trans hw24
      clear hb24 z23 d23 f23 HO23 hw23 hw24 HM9 HM8 hw22 hBB
      obtain ⟨⟨z24, d24, f24⟩, -⟩ := HO24.out
      go_upto_region 32 with (first | refine wpList_builtS (rw_one _ _ _ _ _ _ _ _ _ _) rfl rfl rfl ?_ | (at_builtin; go_must (refine wpList_pushF sliceRw (HM8a.out _ (by repeat (first | with_reducible exact Later.refl _ | with_reducible assumption | with_reducible refine Later.ofdrew ?_ | with_reducible refine Later.ofdrewN ?_ | with_reducible refine Later.setCell ?_ ?_ _ | with_reducible refine Later.alloc ?_ _ | with_reducible refine Later.drewN ?_ _ | with_reducible refine Later.drew ?_ | (with_reducible refine Later.trans ?_ (by assumption)) | (simp only [World.size_setCell, World.size_alloc, World.heap_drewN]; omega) | (simp; done) | (simp; omega)))) rfl _ _ rfl rfl 1 _ rfl (by simp) rfl (by simp [Value.oneCell']) (by omega) (by unfold maxLen; omega) ?_; intro v7 w7 hM7 hg7 hf7; obtain ⟨p7, c7, rfl⟩ := hM7.form; have hK9 := Lib.hid (((HM9a.out _ (by repeat (first | with_reducible exact Later.refl _ | with_reducible assumption | with_reducible refine Later.ofdrew ?_ | with_reducible refine Later.ofdrewN ?_ | with_reducible refine Later.setCell ?_ ?_ _ | with_reducible refine Later.alloc ?_ _ | with_reducible refine Later.drewN ?_ _ | with_reducible refine Later.drew ?_ | (with_reducible refine Later.trans ?_ (by assumption)) | (simp only [World.size_setCell, World.size_alloc, World.heap_drewN]; omega) | (simp; done) | (simp; omega)))).later ((Later.refl _).alloc _)).beside hg7 hap.out (fun k e => ((HM8a.out _ (by repeat (first | with_reducible exact Later.refl _ | with_reducible assumption | with_reducible refine Later.ofdrew ?_ | with_reducible refine Later.ofdrewN ?_ | with_reducible refine Later.setCell ?_ ?_ _ | with_reducible refine Later.alloc ?_ _ | with_reducible refine Later.drewN ?_ _ | with_reducible refine Later.drew ?_ | (with_reducible refine Later.trans ?_ (by assumption)) | (simp only [World.size_setCell, World.size_alloc, World.heap_drewN]; omega) | (simp; done) | (simp; omega)))).1.lt k e).1)); have hap2 := Apart.grow hap.out (HM9a.out _ (by repeat (first | with_reducible exact Later.refl _ | with_reducible assumption | with_reducible refine Later.ofdrew ?_ | with_reducible refine Later.ofdrewN ?_ | with_reducible refine Later.setCell ?_ ?_ _ | with_reducible refine Later.alloc ?_ _ | with_reducible refine Later.drewN ?_ _ | with_reducible refine Later.drew ?_ | (with_reducible refine Later.trans ?_ (by assumption)) | (simp only [World.size_setCell, World.size_alloc, World.heap_drewN]; omega) | (simp; done) | (simp; omega)))).1 hf7)))
      refine wp_opaque (fun W25 hb25 => ?_)
      have HM9b := Lib.hid (fun W (hl : Later W25 W) => hK9.out.later (hb25.trans hl))
      have HM7 := Lib.hid (fun W (hl : Later W25 W) => (show Mine W20 39 9 W _ (A ++ [(⟨r0, r1, r2, r3, r4, r5, r6, r7, am⟩ : Rw)]).length ((A ++ [(⟨r0, r1, r2, r3, r4, r5, r6, r7, am⟩ : Rw)]).flatMap rwCs) by rw [List.length_append, List.flatMap_append, hAl.out]; exact hM7.later (hb25.trans hl)))
      have hap2 := Lib.hid hap2
      have hw25 := hM7.lat.trans hb25
      have hs2 := HS2.out
      clear hM7 hg7 hf7 hb25 hK9 HM9a HM8a hap z24 d24 f24 HO24 HS2
      go_upto_region 33 with (at_builtin; go_must (refine wpList_rows (L := A) (by rw [hAl.out]; exact HM9b.out _ (by repeat (first | with_reducible exact Later.refl _ | with_reducible assumption | with_reducible refine Later.ofdrew ?_ | with_reducible refine Later.ofdrewN ?_ | with_reducible refine Later.setCell ?_ ?_ _ | with_reducible refine Later.alloc ?_ _ | with_reducible refine Later.drewN ?_ _ | with_reducible refine Later.drew ?_ | (with_reducible refine Later.trans ?_ (by assumption)) | (simp only [World.size_setCell, World.size_alloc, World.heap_drewN]; omega) | (simp; done) | (simp; omega)))) (HB2.out _ (hw25.trans (by repeat (first | with_reducible exact Later.refl _ | with_reducible assumption | with_reducible refine Later.ofdrew ?_ | with_reducible refine Later.ofdrewN ?_ | with_reducible refine Later.setCell ?_ ?_ _ | with_reducible refine Later.alloc ?_ _ | with_reducible refine Later.drewN ?_ _ | with_reducible refine Later.drew ?_ | (with_reducible refine Later.trans ?_ (by assumption)) | (simp only [World.size_setCell, World.size_alloc, World.heap_drewN]; omega) | (simp; done) | (simp; omega))))) rfl _ _ rfl rfl rfl (by first | omega | (simp only [List.length_append, List.length_cons, List.length_nil]; omega)) ?_; intro v6 w6 hM6 hg6 hf6; obtain ⟨n6, hn6⟩ : ∃ n, (A ++ B).length = n := ⟨_, rfl⟩; rw [hn6] at hM6; replace hn6 := Lib.hid hn6; obtain ⟨p6, c6, rfl⟩ := hM6.form; have hK7 := Lib.hid ((HM7.out _ (by repeat (first | with_reducible exact Later.refl _ | with_reducible assumption | with_reducible refine Later.ofdrew ?_ | with_reducible refine Later.ofdrewN ?_ | with_reducible refine Later.setCell ?_ ?_ _ | with_reducible refine Later.alloc ?_ _ | with_reducible refine Later.drewN ?_ _ | with_reducible refine Later.drew ?_ | (with_reducible refine Later.trans ?_ (by assumption)) | (simp only [World.size_setCell, World.size_alloc, World.heap_drewN]; omega) | (simp; done) | (simp; omega)))).beside hg6 hap2.out.symm (fun k e => ((HM9b.out _ (by repeat (first | with_reducible exact Later.refl _ | with_reducible assumption | with_reducible refine Later.ofdrew ?_ | with_reducible refine Later.ofdrewN ?_ | with_reducible refine Later.setCell ?_ ?_ _ | with_reducible refine Later.alloc ?_ _ | with_reducible refine Later.drewN ?_ _ | with_reducible refine Later.drew ?_ | (with_reducible refine Later.trans ?_ (by assumption)) | (simp only [World.size_setCell, World.size_alloc, World.heap_drewN]; omega) | (simp; done) | (simp; omega)))).1.lt k e).1)); have hap3 := Apart.grow hap2.out.symm (HM7.out _ (by repeat (first | with_reducible exact Later.refl _ | with_reducible assumption | with_reducible refine Later.ofdrew ?_ | with_reducible refine Later.ofdrewN ?_ | with_reducible refine Later.setCell ?_ ?_ _ | with_reducible refine Later.alloc ?_ _ | with_reducible refine Later.drewN ?_ _ | with_reducible refine Later.drew ?_ | (with_reducible refine Later.trans ?_ (by assumption)) | (simp only [World.size_setCell, World.size_alloc, World.heap_drewN]; omega) | (simp; done) | (simp; omega)))).1 hf6))
      refine wp_opaque (fun W26 hb26 => ?_)
      have HM6 := Lib.hid (fun W (hl : Later W26 W) => hM6.later (hb26.trans hl))
      have HM7b := Lib.hid (fun W (hl : Later W26 W) => hK7.out.later (hb26.trans hl))
      have hap3 := Lib.hid hap3
      have hw26 := hM6.lat.trans hb26
      clear hM6 hg6 hf6 hb26 hK7 HM9b HM7 hap2 hw25
      go_upto_region 34 with (at_builtin; go_must (refine wpList_rows (L := (A ++ [(⟨r0, r1, r2, r3, r4, r5, r6, r7, am⟩ : Rw)])) (HM7b.out _ (by repeat (first | with_reducible exact Later.refl _ | with_reducible assumption | with_reducible refine Later.ofdrew ?_ | with_reducible refine Later.ofdrewN ?_ | with_reducible refine Later.setCell ?_ ?_ _ | with_reducible refine Later.alloc ?_ _ | with_reducible refine Later.drewN ?_ _ | with_reducible refine Later.drew ?_ | (with_reducible refine Later.trans ?_ (by assumption)) | (simp only [World.size_setCell, World.size_alloc, World.heap_drewN]; omega) | (simp; done) | (simp; omega)))) (HB2.out _ (hw26.trans (by repeat (first | with_reducible exact Later.refl _ | with_reducible assumption | with_reducible refine Later.ofdrew ?_ | with_reducible refine Later.ofdrewN ?_ | with_reducible refine Later.setCell ?_ ?_ _ | with_reducible refine Later.alloc ?_ _ | with_reducible refine Later.drewN ?_ _ | with_reducible refine Later.drew ?_ | (with_reducible refine Later.trans ?_ (by assumption)) | (simp only [World.size_setCell, World.size_alloc, World.heap_drewN]; omega) | (simp; done) | (simp; omega))))) rfl _ _ rfl rfl rfl (by first | omega | (simp only [List.length_append, List.length_cons, List.length_nil]; omega)) ?_; intro v5 w5 hM5 hg5 hf5; obtain ⟨n5, hn5⟩ : ∃ n, ((A ++ [(⟨r0, r1, r2, r3, r4, r5, r6, r7, am⟩ : Rw)]) ++ B).length = n := ⟨_, rfl⟩; rw [hn5] at hM5; replace hn5 := Lib.hid hn5; obtain ⟨p5, c5, rfl⟩ := hM5.form; have hK6 := Lib.hid ((HM6.out _ (by repeat (first | with_reducible exact Later.refl _ | with_reducible assumption | with_reducible refine Later.ofdrew ?_ | with_reducible refine Later.ofdrewN ?_ | with_reducible refine Later.setCell ?_ ?_ _ | with_reducible refine Later.alloc ?_ _ | with_reducible refine Later.drewN ?_ _ | with_reducible refine Later.drew ?_ | (with_reducible refine Later.trans ?_ (by assumption)) | (simp only [World.size_setCell, World.size_alloc, World.heap_drewN]; omega) | (simp; done) | (simp; omega)))).beside hg5 hap3.out.symm (fun k e => ((HM7b.out _ (by repeat (first | with_reducible exact Later.refl _ | with_reducible assumption | with_reducible refine Later.ofdrew ?_ | with_reducible refine Later.ofdrewN ?_ | with_reducible refine Later.setCell ?_ ?_ _ | with_reducible refine Later.alloc ?_ _ | with_reducible refine Later.drewN ?_ _ | with_reducible refine Later.drew ?_ | (with_reducible refine Later.trans ?_ (by assumption)) | (simp only [World.size_setCell, World.size_alloc, World.heap_drewN]; omega) | (simp; done) | (simp; omega)))).1.lt k e).1))))
      refine wp_opaque (fun W27 hb27 => ?_)
      have hI6 := (Mine.row_ (sz := 9) (f := rwF) rwCs rwCs_len rwCs_cell (by decide) (hK6.out.later hb27)).1
      have hI5 := (Mine.row_ (sz := 9) (f := rwF) rwCs rwCs_len rwCs_cell (by decide) (hM5.later hb27)).1
      have hw27 := hM5.lat.trans hb27
      have hL27 := HL20.out W27 hw27
      have HX1 := Lib.hid (fun W (hl : Later W27 W) => HA1.out _ W (hL27.later hl) (hI6.later hl))
      have HX2 := Lib.hid (fun W (hl : Later W27 W) => HA2.out _ W (hL27.later hl) (hI5.later hl))
      have HX3 := Lib.hid (fun W (hl : Later W27 W) => HC2.out _ W (hI5.later hl))
      have HX4 := Lib.hid (fun W (hl : Later W27 W) => HAW20.out W (hw27.trans hl))
      have hfin := hw20'.trans hw27
      have tok1 : True := trivial
      clear hI6 hI5 hL27 HA1 HA2 HC2 HAW20 hM5 hg5 hf5 hb27 hK6 HM6 HM7b hap3 hw26 HB2 HT1 HL20 hs1 hs2
      go_wp2_with (first | (go_at_call 13; clear tok1; go_must (refine (HX1.out _ (by repeat (first | with_reducible exact Later.refl _ | with_reducible assumption | with_reducible refine Later.ofdrew ?_ | with_reducible refine Later.ofdrewN ?_ | with_reducible refine Later.setCell ?_ ?_ _ | with_reducible refine Later.alloc ?_ _ | with_reducible refine Later.drewN ?_ _ | with_reducible refine Later.drew ?_ | (with_reducible refine Later.trans ?_ (by assumption)) | (simp only [World.size_setCell, World.size_alloc, World.heap_drewN]; omega) | (simp; done) | (simp; omega)))).mono ?_; rintro e wb ⟨rfl, hbb⟩)) | (go_at_call 13; go_must (refine (HX2.out _ (by repeat (first | with_reducible exact Later.refl _ | with_reducible assumption | with_reducible refine Later.ofdrew ?_ | with_reducible refine Later.ofdrewN ?_ | with_reducible refine Later.setCell ?_ ?_ _ | with_reducible refine Later.alloc ?_ _ | with_reducible refine Later.drewN ?_ _ | with_reducible refine Later.drew ?_ | (with_reducible refine Later.trans ?_ (by assumption)) | (simp only [World.size_setCell, World.size_alloc, World.heap_drewN]; omega) | (simp; done) | (simp; omega)))).mono ?_; rintro e wd ⟨rfl, hbd⟩)) | (go_at_call 12; go_must (refine (HX3.out _ (by repeat (first | with_reducible exact Later.refl _ | with_reducible assumption | with_reducible refine Later.ofdrew ?_ | with_reducible refine Later.ofdrewN ?_ | with_reducible refine Later.setCell ?_ ?_ _ | with_reducible refine Later.alloc ?_ _ | with_reducible refine Later.drewN ?_ _ | with_reducible refine Later.drew ?_ | (with_reducible refine Later.trans ?_ (by assumption)) | (simp only [World.size_setCell, World.size_alloc, World.heap_drewN]; omega) | (simp; done) | (simp; omega)))).mono ?_; rintro e wf ⟨rfl, hbf⟩)) | (go_at_call 7; go_must (refine (HX4.out _ (by repeat (first | with_reducible exact Later.refl _ | with_reducible assumption | with_reducible refine Later.ofdrew ?_ | with_reducible refine Later.ofdrewN ?_ | with_reducible refine Later.setCell ?_ ?_ _ | with_reducible refine Later.alloc ?_ _ | with_reducible refine Later.drewN ?_ _ | with_reducible refine Later.drew ?_ | (with_reducible refine Later.trans ?_ (by assumption)) | (simp only [World.size_setCell, World.size_alloc, World.heap_drewN]; omega) | (simp; done) | (simp; omega)))).mono ?_; rintro e wa ⟨rfl, hba⟩)))
      go_ret
      exact ⟨rfl, hfin.trans (by repeat (first | with_reducible exact Later.refl _ | with_reducible assumption | with_reducible refine Later.ofdrew ?_ | with_reducible refine Later.ofdrewN ?_ | with_reducible refine Later.setCell ?_ ?_ _ | with_reducible refine Later.alloc ?_ _ | with_reducible refine Later.drewN ?_ _ | with_reducible refine Later.drew ?_ | (with_reducible refine Later.trans ?_ (by assumption)) | (simp only [World.size_setCell, World.size_alloc, World.heap_drewN]; omega) | (simp; done) | (simp; omega)))⟩
  · have hff : fewB l = false := by simpa using hf
    rw [hff] at HFEW
    obtain ⟨p, cp, rfl, -⟩ := hN.form
    clear hN hR hT hw hf hff
    generalize l.length = L at *
    go_enter Tryd.func3, Tryd.ntmps3
    go_wp2_with (first | (go_at_call 6; go_must (refine (HFEW.out _ (by repeat (first | with_reducible exact Later.refl _ | with_reducible assumption | with_reducible refine Later.ofdrew ?_ | with_reducible refine Later.ofdrewN ?_ | with_reducible refine Later.setCell ?_ ?_ _ | with_reducible refine Later.alloc ?_ _ | with_reducible refine Later.drewN ?_ _ | with_reducible refine Later.drew ?_ | (with_reducible refine Later.trans ?_ (by assumption)) | (simp only [World.size_setCell, World.size_alloc, World.heap_drewN]; omega) | (simp; done) | (simp; omega)))).mono ?_; rintro e w1 ⟨rfl, hb1⟩)) | (go_at_call 7; go_must (refine (HAW.out _ (by repeat (first | with_reducible exact Later.refl _ | with_reducible assumption | with_reducible refine Later.ofdrew ?_ | with_reducible refine Later.ofdrewN ?_ | with_reducible refine Later.setCell ?_ ?_ _ | with_reducible refine Later.alloc ?_ _ | with_reducible refine Later.drewN ?_ _ | with_reducible refine Later.drew ?_ | (with_reducible refine Later.trans ?_ (by assumption)) | (simp only [World.size_setCell, World.size_alloc, World.heap_drewN]; omega) | (simp; done) | (simp; omega)))).mono ?_; rintro e wa ⟨rfl, hba⟩)))
    go_ret
    exact ⟨rfl, by repeat (first | with_reducible exact Later.refl _ | with_reducible assumption | with_reducible refine Later.ofdrew ?_ | with_reducible refine Later.ofdrewN ?_ | with_reducible refine Later.setCell ?_ ?_ _ | with_reducible refine Later.alloc ?_ _ | with_reducible refine Later.drewN ?_ _ | with_reducible refine Later.drew ?_ | (with_reducible refine Later.trans ?_ (by assumption)) | (simp only [World.size_setCell, World.size_alloc, World.heap_drewN]; omega) | (simp; done) | (simp; omega))⟩
end Go.Proofs.YtpblfheeeifjcaaDoor
