/- Post -/
import Derived.Test.YtckeaibamgkegaaGreatDoorQ13
set_option linter.all false
set_option linter.all false
section
/- Post -/
namespace Go.Proofs.YtckeaibamgkegaaGreatDoor
open Go.RowKit
set_option maxRecDepth 100000

theorem en_one (a b c d e f : Int) (p : Option Addr) (n k : Nat) (w : World) :
    (Instr.buildSlice 82 1 #[(0, .agg #[.int .i64 a, .int .i64 b, .int .i64 c, .int .i64 d, .int .i64 e, .int .i64 f, .slice p n k])]).run Tryz.prog w
      = .ok (.slice (some ⟨w.heap.size, 0, none⟩) 1 1) (w.alloc (.cells #[.int .i64 a, .int .i64 b, .int .i64 c, .int .i64 d, .int .i64 e, .int .i64 f, .slice p n k] 48)) := by kernel_rfl


set_option maxHeartbeats 800000 in
theorem post_no (q : Nat) (es : List En) (hel : es.length ≤ 90000) (hew : ∀ y ∈ es, y.ok) (pq pb : Nat) (sz lk period seq : Int) (hsq : I64 seq) (hpd : I64 period) (xs : List En) (hxl : xs.length ≤ 1000) (hxw : ∀ y ∈ xs, y.ok) (ev : Value) (w : World) (hL : Led w q es) (hP : PerAt w pq pb sz lk) (hE : IsEntries w ev xs) (hR : RulesAt w)
    (h : perE sz period ≠ 0 ∨ period < lk ∨ seq < 0 ∨ seq < lastSeq es) :
    Calls Tryz.prog 15 #[.pointer (some ⟨q, 0, none⟩), .pointer (some ⟨pq, 0, none⟩), .int .i64 period, .int .i64 seq, ev] w fun e w' => e = .returned (.tuple #[.int .i64 0, .int .i64 (postE sz lk es period seq xs)]) ∧ postE sz lk es period seq xs ≠ 0 ∧ Later w w' := by
  have HSP := Lib.hid (fun W (hl : Later w W) => span_any pq pb sz lk period W (hP.later hl))
  have HLK := Lib.hid (fun W (hl : Later w W) => plocked_any pq pb sz lk period W (hP.later hl))
  have HSQ := Lib.hid (fun W (hl : Later w W) => seq_any q es (by omega) W (hL.later hl))
  obtain ⟨r, hr⟩ : ∃ r, postE sz lk es period seq xs = r := ⟨_, rfl⟩
  rw [hr]
  unfold postE at hr
  obtain ⟨p, cp, rfl⟩ := hE.form
  clear hL hE hP hew hxw hR
  generalize perE sz period = pe at *
  generalize lastSeq es = ls at *
  by_cases h1 : pe = 0
  · subst h1
    simp only [true_and] at HLK
    rw [if_neg (by simp)] at hr
    by_cases h2 : period < lk
    · rw [if_pos h2] at hr
      subst hr
      clear h
      go_enter Tryz.func15, Tryz.ntmps15
      go_wp2_with (first | (go_at_call 36; go_must (refine (HSP.out _ (by repeat (first | with_reducible exact Later.refl _ | with_reducible assumption | with_reducible refine Later.ofdrew ?_ | with_reducible refine Later.ofdrewN ?_ | with_reducible refine Later.setCell ?_ ?_ _ | with_reducible refine Later.alloc ?_ _ | with_reducible refine Later.drewN ?_ _ | with_reducible refine Later.drew ?_ | (with_reducible refine Later.trans ?_ (by assumption)) | (simp only [World.size_setCell, World.size_alloc, World.heap_drewN]; omega) | (simp; done) | (simp; omega)))).mono ?_; rintro e w2 ⟨⟨x1, x2, rfl⟩, hb2⟩)) | (go_at_call 37; go_must (refine (HLK.out _ (by repeat (first | with_reducible exact Later.refl _ | with_reducible assumption | with_reducible refine Later.ofdrew ?_ | with_reducible refine Later.ofdrewN ?_ | with_reducible refine Later.setCell ?_ ?_ _ | with_reducible refine Later.alloc ?_ _ | with_reducible refine Later.drewN ?_ _ | with_reducible refine Later.drew ?_ | (with_reducible refine Later.trans ?_ (by assumption)) | (simp only [World.size_setCell, World.size_alloc, World.heap_drewN]; omega) | (simp; done) | (simp; omega)))).mono ?_; rintro e w3 ⟨rfl, hb3⟩)))
      go_ret2
      exact ⟨rfl, by decide, by repeat (first | with_reducible exact Later.refl _ | with_reducible assumption | with_reducible refine Later.ofdrew ?_ | with_reducible refine Later.ofdrewN ?_ | with_reducible refine Later.setCell ?_ ?_ _ | with_reducible refine Later.alloc ?_ _ | with_reducible refine Later.drewN ?_ _ | with_reducible refine Later.drew ?_ | (with_reducible refine Later.trans ?_ (by assumption)) | (simp only [World.size_setCell, World.size_alloc, World.heap_drewN]; omega) | (simp; done) | (simp; omega))⟩
    · rw [if_neg h2] at hr
      have h3 : seq < 0 ∨ seq < ls := by omega
      rw [if_pos h3] at hr
      subst hr
      clear h
      by_cases h4 : seq < 0
      · clear h3
        go_enter Tryz.func15, Tryz.ntmps15
        go_wp2_with (first | (go_at_call 36; go_must (refine (HSP.out _ (by repeat (first | with_reducible exact Later.refl _ | with_reducible assumption | with_reducible refine Later.ofdrew ?_ | with_reducible refine Later.ofdrewN ?_ | with_reducible refine Later.setCell ?_ ?_ _ | with_reducible refine Later.alloc ?_ _ | with_reducible refine Later.drewN ?_ _ | with_reducible refine Later.drew ?_ | (with_reducible refine Later.trans ?_ (by assumption)) | (simp only [World.size_setCell, World.size_alloc, World.heap_drewN]; omega) | (simp; done) | (simp; omega)))).mono ?_; rintro e w2 ⟨⟨x1, x2, rfl⟩, hb2⟩)) | (go_at_call 37; go_must (refine (HLK.out _ (by repeat (first | with_reducible exact Later.refl _ | with_reducible assumption | with_reducible refine Later.ofdrew ?_ | with_reducible refine Later.ofdrewN ?_ | with_reducible refine Later.setCell ?_ ?_ _ | with_reducible refine Later.alloc ?_ _ | with_reducible refine Later.drewN ?_ _ | with_reducible refine Later.drew ?_ | (with_reducible refine Later.trans ?_ (by assumption)) | (simp only [World.size_setCell, World.size_alloc, World.heap_drewN]; omega) | (simp; done) | (simp; omega)))).mono ?_; rintro e w3 ⟨rfl, hb3⟩)) | (go_at_call 38; go_must (refine (HSQ.out _ (by repeat (first | with_reducible exact Later.refl _ | with_reducible assumption | with_reducible refine Later.ofdrew ?_ | with_reducible refine Later.ofdrewN ?_ | with_reducible refine Later.setCell ?_ ?_ _ | with_reducible refine Later.alloc ?_ _ | with_reducible refine Later.drewN ?_ _ | with_reducible refine Later.drew ?_ | (with_reducible refine Later.trans ?_ (by assumption)) | (simp only [World.size_setCell, World.size_alloc, World.heap_drewN]; omega) | (simp; done) | (simp; omega)))).mono ?_; rintro e w4 ⟨rfl, hb4⟩)))
        go_ret2
        exact ⟨rfl, by decide, by repeat (first | with_reducible exact Later.refl _ | with_reducible assumption | with_reducible refine Later.ofdrew ?_ | with_reducible refine Later.ofdrewN ?_ | with_reducible refine Later.setCell ?_ ?_ _ | with_reducible refine Later.alloc ?_ _ | with_reducible refine Later.drewN ?_ _ | with_reducible refine Later.drew ?_ | (with_reducible refine Later.trans ?_ (by assumption)) | (simp only [World.size_setCell, World.size_alloc, World.heap_drewN]; omega) | (simp; done) | (simp; omega))⟩
      · have h5 : seq < ls := by omega
        clear h3
        go_enter Tryz.func15, Tryz.ntmps15
        go_wp2_with (first | (go_at_call 36; go_must (refine (HSP.out _ (by repeat (first | with_reducible exact Later.refl _ | with_reducible assumption | with_reducible refine Later.ofdrew ?_ | with_reducible refine Later.ofdrewN ?_ | with_reducible refine Later.setCell ?_ ?_ _ | with_reducible refine Later.alloc ?_ _ | with_reducible refine Later.drewN ?_ _ | with_reducible refine Later.drew ?_ | (with_reducible refine Later.trans ?_ (by assumption)) | (simp only [World.size_setCell, World.size_alloc, World.heap_drewN]; omega) | (simp; done) | (simp; omega)))).mono ?_; rintro e w2 ⟨⟨x1, x2, rfl⟩, hb2⟩)) | (go_at_call 37; go_must (refine (HLK.out _ (by repeat (first | with_reducible exact Later.refl _ | with_reducible assumption | with_reducible refine Later.ofdrew ?_ | with_reducible refine Later.ofdrewN ?_ | with_reducible refine Later.setCell ?_ ?_ _ | with_reducible refine Later.alloc ?_ _ | with_reducible refine Later.drewN ?_ _ | with_reducible refine Later.drew ?_ | (with_reducible refine Later.trans ?_ (by assumption)) | (simp only [World.size_setCell, World.size_alloc, World.heap_drewN]; omega) | (simp; done) | (simp; omega)))).mono ?_; rintro e w3 ⟨rfl, hb3⟩)) | (go_at_call 38; go_must (refine (HSQ.out _ (by repeat (first | with_reducible exact Later.refl _ | with_reducible assumption | with_reducible refine Later.ofdrew ?_ | with_reducible refine Later.ofdrewN ?_ | with_reducible refine Later.setCell ?_ ?_ _ | with_reducible refine Later.alloc ?_ _ | with_reducible refine Later.drewN ?_ _ | with_reducible refine Later.drew ?_ | (with_reducible refine Later.trans ?_ (by assumption)) | (simp only [World.size_setCell, World.size_alloc, World.heap_drewN]; omega) | (simp; done) | (simp; omega)))).mono ?_; rintro e w4 ⟨rfl, hb4⟩)))
        go_ret2
        exact ⟨rfl, by decide, by repeat (first | with_reducible exact Later.refl _ | with_reducible assumption | with_reducible refine Later.ofdrew ?_ | with_reducible refine Later.ofdrewN ?_ | with_reducible refine Later.setCell ?_ ?_ _ | with_reducible refine Later.alloc ?_ _ | with_reducible refine Later.drewN ?_ _ | with_reducible refine Later.drew ?_ | (with_reducible refine Later.trans ?_ (by assumption)) | (simp only [World.size_setCell, World.size_alloc, World.heap_drewN]; omega) | (simp; done) | (simp; omega))⟩
  · rw [if_pos h1] at hr
    subst hr
    have h2 : (pe == 0) = false := by simpa using h1
    have h3 : (pe != 0) = true := by simpa using h1
    have h1' := Lib.hid h1
    clear h h1
    go_enter Tryz.func15, Tryz.ntmps15
    go_wp2_with (first | (go_at_call 36; go_must (refine (HSP.out _ (by repeat (first | with_reducible exact Later.refl _ | with_reducible assumption | with_reducible refine Later.ofdrew ?_ | with_reducible refine Later.ofdrewN ?_ | with_reducible refine Later.setCell ?_ ?_ _ | with_reducible refine Later.alloc ?_ _ | with_reducible refine Later.drewN ?_ _ | with_reducible refine Later.drew ?_ | (with_reducible refine Later.trans ?_ (by assumption)) | (simp only [World.size_setCell, World.size_alloc, World.heap_drewN]; omega) | (simp; done) | (simp; omega)))).mono ?_; rintro e w2 ⟨⟨x1, x2, rfl⟩, hb2⟩)) | (go_at_call 37; go_must (refine (HLK.out _ (by repeat (first | with_reducible exact Later.refl _ | with_reducible assumption | with_reducible refine Later.ofdrew ?_ | with_reducible refine Later.ofdrewN ?_ | with_reducible refine Later.setCell ?_ ?_ _ | with_reducible refine Later.alloc ?_ _ | with_reducible refine Later.drewN ?_ _ | with_reducible refine Later.drew ?_ | (with_reducible refine Later.trans ?_ (by assumption)) | (simp only [World.size_setCell, World.size_alloc, World.heap_drewN]; omega) | (simp; done) | (simp; omega)))).mono ?_; rintro e w3 ⟨rfl, hb3⟩)))
    go_ret2
    exact ⟨rfl, h1'.out, by repeat (first | with_reducible exact Later.refl _ | with_reducible assumption | with_reducible refine Later.ofdrew ?_ | with_reducible refine Later.ofdrewN ?_ | with_reducible refine Later.setCell ?_ ?_ _ | with_reducible refine Later.alloc ?_ _ | with_reducible refine Later.drewN ?_ _ | with_reducible refine Later.drew ?_ | (with_reducible refine Later.trans ?_ (by assumption)) | (simp only [World.size_setCell, World.size_alloc, World.heap_drewN]; omega) | (simp; done) | (simp; omega))⟩


set_option maxHeartbeats 4000000 in
theorem post_yes (q : Nat) (es : List En) (hel : es.length ≤ 90000) (hew : ∀ y ∈ es, y.ok) (pq pb : Nat) (sz lk period seq : Int) (hsq : I64 seq) (hpd : I64 period) (xs : List En) (hxl : xs.length ≤ 1000) (hxw : ∀ y ∈ xs, y.ok) (ev : Value) (w : World) (hL : Led w q es) (hP : PerAt w pq pb sz lk) (hE : IsEntries w ev xs) (hR : RulesAt w)
    (h1 : perE sz period = 0) (h2 : ¬ period < lk) (h3 : ¬ seq < 0) (h4 : ¬ seq < lastSeq es) (hlt : q < w.heap.size) :
    Calls Tryz.prog 15 #[.pointer (some ⟨q, 0, none⟩), .pointer (some ⟨pq, 0, none⟩), .int .i64 period, .int .i64 seq, ev] w fun e w' => e = .returned (.tuple #[.int .i64 (if (postL period seq es xs).1 = 0 then (es.length : Int) else 0), .int .i64 (postL period seq es xs).1]) ∧ Led w' q (if (postL period seq es xs).1 = 0 then (postL period seq es xs).2 else es) ∧ w.grownBy w' (some q) := by
  have HSP := Lib.hid (fun W (hl : Later w W) => span_any pq pb sz lk period W (hP.later hl))
  have HLK := Lib.hid (fun W (hl : Later w W) => plocked_any pq pb sz lk period W (hP.later hl))
  have HSQ := Lib.hid (fun W (hl : Later w W) => seq_any q es (by omega) W (hL.later hl))
  have HCP := Lib.hid (fun W (hl : Later w W) => copy_any q es (by omega) W (hL.later hl))
  have HLN := Lib.hid (fun W (hl : Later w W) => len_any q es (by omega) W (hL.later hl))
  have HL := Lib.hid hL
  have HE := Lib.hid hE
  have HR := Lib.hid hR
  have hxw := Lib.hid hxw
  have hew := Lib.hid hew
  obtain ⟨r, hr⟩ : ∃ r, postL period seq es xs = r := ⟨_, rfl⟩
  rw [hr]
  obtain ⟨o1, ho1⟩ : ∃ o, (if r.1 = 0 then (es.length : Int) else 0) = o := ⟨_, rfl⟩
  obtain ⟨o2, ho2⟩ : ∃ o, (if r.1 = 0 then r.2 else es) = o := ⟨_, rfl⟩
  obtain ⟨o3, ho3⟩ : ∃ o, r.1 = o := ⟨_, rfl⟩
  rw [ho1, ho2, ho3]
  rw [ho3] at ho1 ho2
  have ho1 := Lib.hid ho1
  have ho2 := Lib.hid ho2
  have ho3 := Lib.hid ho3
  have hr := Lib.hid hr
  obtain ⟨p, cp, rfl⟩ := hE.form
  have hd : decide (perE sz period = 0 ∧ period < lk) = false := by simp [h2]
  rw [hd] at HLK
  rw [h1] at HSP
  generalize hls : lastSeq es = lsq at *
  have hP2 := Lib.hid hls
  clear hL hE hP hR h1 h2 hd hls
  have hsq := Lib.hid hsq
  have hpd := Lib.hid hpd
  go_enter Tryz.func15, Tryz.ntmps15
  go_upto_region 11 with (first | (go_at_call 36; go_must (refine (HSP.out _ (by repeat (first | with_reducible exact Later.refl _ | with_reducible assumption | with_reducible refine Later.ofdrew ?_ | with_reducible refine Later.ofdrewN ?_ | with_reducible refine Later.setCell ?_ ?_ _ | with_reducible refine Later.alloc ?_ _ | with_reducible refine Later.drewN ?_ _ | with_reducible refine Later.drew ?_ | (with_reducible refine Later.trans ?_ (by assumption)) | (simp only [World.size_setCell, World.size_alloc, World.heap_drewN]; omega) | (simp; done) | (simp; omega)))).mono ?_; rintro e w2 ⟨⟨x1, x2, rfl⟩, hb2⟩)) | (go_at_call 37; go_must (refine (HLK.out _ (by repeat (first | with_reducible exact Later.refl _ | with_reducible assumption | with_reducible refine Later.ofdrew ?_ | with_reducible refine Later.ofdrewN ?_ | with_reducible refine Later.setCell ?_ ?_ _ | with_reducible refine Later.alloc ?_ _ | with_reducible refine Later.drewN ?_ _ | with_reducible refine Later.drew ?_ | (with_reducible refine Later.trans ?_ (by assumption)) | (simp only [World.size_setCell, World.size_alloc, World.heap_drewN]; omega) | (simp; done) | (simp; omega)))).mono ?_; rintro e w3 ⟨rfl, hb3⟩)) | (go_at_call 38; go_must (refine (HSQ.out _ (by repeat (first | with_reducible exact Later.refl _ | with_reducible assumption | with_reducible refine Later.ofdrew ?_ | with_reducible refine Later.ofdrewN ?_ | with_reducible refine Later.setCell ?_ ?_ _ | with_reducible refine Later.alloc ?_ _ | with_reducible refine Later.drewN ?_ _ | with_reducible refine Later.drew ?_ | (with_reducible refine Later.trans ?_ (by assumption)) | (simp only [World.size_setCell, World.size_alloc, World.heap_drewN]; omega) | (simp; done) | (simp; omega)))).mono ?_; rintro e w4 ⟨rfl, hb4⟩)) | (go_at_call 39; go_must (refine (HCP.out w4 (by repeat (first | with_reducible exact Later.refl _ | with_reducible assumption | with_reducible refine Later.ofdrew ?_ | with_reducible refine Later.ofdrewN ?_ | with_reducible refine Later.setCell ?_ ?_ _ | with_reducible refine Later.alloc ?_ _ | with_reducible refine Later.drewN ?_ _ | with_reducible refine Later.drew ?_ | (with_reducible refine Later.trans ?_ (by assumption)) | (simp only [World.size_setCell, World.size_alloc, World.heap_drewN]; omega) | (simp; done) | (simp; omega)))).mono ?_; rintro e w5 ⟨nb, rfl, hC5, hb5⟩; have hC5 := hC5.low (show Later w w4 by repeat (first | with_reducible exact Later.refl _ | with_reducible assumption | with_reducible refine Later.ofdrew ?_ | with_reducible refine Later.ofdrewN ?_ | with_reducible refine Later.setCell ?_ ?_ _ | with_reducible refine Later.alloc ?_ _ | with_reducible refine Later.drewN ?_ _ | with_reducible refine Later.drew ?_ | (with_reducible refine Later.trans ?_ (by assumption)) | (simp only [World.size_setCell, World.size_alloc, World.heap_drewN]; omega) | (simp; done) | (simp; omega))); have hC := Lib.hid hC5; clear hC5)))
  have hb6 : Later w w5 := by repeat (first | with_reducible exact Later.refl _ | with_reducible assumption | with_reducible refine Later.ofdrew ?_ | with_reducible refine Later.ofdrewN ?_ | with_reducible refine Later.setCell ?_ ?_ _ | with_reducible refine Later.alloc ?_ _ | with_reducible refine Later.drewN ?_ _ | with_reducible refine Later.drew ?_ | (with_reducible refine Later.trans ?_ (by assumption)) | (simp only [World.size_setCell, World.size_alloc, World.heap_drewN]; omega) | (simp; done) | (simp; omega))
  clear HSP HLK HSQ HCP hb2 hb3 hb4 hb5 h3 h4
  go_wp2
  go_loopw [53] (fun s53 wr => ∃ j : Nat, j ≤ xs.length ∧ s53 = .int .i64 j ∧ ∃ fs, Hid (CopyAt w wr nb fs) ∧ Hid (r = postL period seq fs (xs.drop j)) ∧ Hid (fs.length = es.length + j) ∧ Hid (∀ y ∈ fs, y.ok)) (fun s53 _ => xs.length - (intOf s53).toNat)
  case atStart => exact ⟨0, Nat.zero_le _, rfl, es, hC, Lib.hid hr.out.symm, Lib.hid rfl, hew⟩
  case round =>
    obtain ⟨j, hj, rfl, fs, hF, hrr, hfl, hfw⟩ := hrel
    obtain ⟨v, m, ys, hys, hN⟩ := hF.out.nx
    have hlat := hN.lat
    have hN := Lib.hid hN
    have hys := Lib.hid hys
    by_cases hjl : j < xs.length
    · obtain ⟨b, o, cap, u, hv, hb, hu, g⟩ := HE.out.full (i := j) hjl
      cases hv
      have hdrop : xs.drop j = xs[j] :: xs.drop (j + 1) := List.drop_eq_getElem_cons hjl
      have hxok := hxw.out _ (List.getElem_mem hjl)
      have hfl' : fs.length ≤ 100000 := by have := hfl.out; omega
      have hstep : Hid (r = if chkE fs xs[j] ≠ 0 then (chkE fs xs[j], fs) else postL period seq (fs ++ [atE period seq xs[j]]) (xs.drop (j + 1))) := Lib.hid (by rw [hrr.out, hdrop]; rfl)
      generalize xs[j] = x at *
      have hxok := Lib.hid hxok
      obtain ⟨con, day, cur, sq, pr, ref, ls⟩ := x
      have HCK := Lib.hid (fun W (hl : Later wr W) => lcheck_any con day cur sq pr ref u ls hxok.out.2.2.2.2.2.2.2 hxok.out.2.2.2.2.2.2.1 nb fs hfl' hfw.out hxok.out.2.2.2.2.2.1 W (hu.later (hlat.trans hl)) (hF.out.led.later hl) (HR.out.later (hlat.trans hl)))
      have HCL := Lib.hid (fun W (hl : Later wr W) => IsLines.clone hxok.out.2.2.2.2.2.2.2 (hu.later (hlat.trans hl)))
      have HG := Lib.hid (fun k (hk : k < 7) => ((bcell hlat).1 _ _ hb).trans (g k hk))
      have g0 := HG.out 0 (by omega)
      have g1 := HG.out 1 (by omega)
      have g2 := HG.out 2 (by omega)
      have g3 := HG.out 3 (by omega)
      have g4 := HG.out 4 (by omega)
      have g5 := HG.out 5 (by omega)
      have g6 := HG.out 6 (by omega)
      obtain ⟨pu, cu, rfl⟩ := IsRow.form hu
      simp only [enF, Nat.add_zero] at g0 g1 g2 g3 g4 g5 g6
      have hbz := Nat.lt_of_lt_of_le hb (Later.size hlat)
      clear g HG hu hrr hdrop hb6 hC
      obtain ⟨c, hc⟩ : ∃ c, chkE fs ⟨con, day, cur, sq, pr, ref, ls⟩ = c := ⟨_, rfl⟩
      rw [hc] at HCK hstep
      by_cases hc0 : c = 0
      · subst hc0
        by_cases hr1 : ref = -1
        · subst hr1
          have hstep2 : Hid (r = postL period seq (fs ++ [(⟨con, day, cur, seq, period, (-1), ls⟩ : En)]) (xs.drop (j + 1))) := Lib.hid (by rw [hstep.out, if_neg (by simp)]; rfl)
          have hfw2 : Hid (∀ y ∈ fs ++ [(⟨con, day, cur, seq, period, (-1), ls⟩ : En)], y.ok) := Lib.hid (by
            intro y hy
            rcases List.mem_append.1 hy with hy | hy
            · exact hfw.out y hy
            · simp only [List.mem_singleton] at hy; subst hy; exact ⟨hxok.out.1, hxok.out.2.1, hxok.out.2.2.1, hsq.out, hpd.out, hxok.out.2.2.2.2.2.1, hxok.out.2.2.2.2.2.2⟩)
          have hyl : ys.length = fs.length := by rw [← hys.out, List.length_map]
          have hyl2 : ys.length ≤ 100000 := by omega
          replace hyl := Lib.hid hyl
          clear hstep
          go_upto_region 20 with (first | (go_at_call 40; go_must (refine (HCK.out _ (by repeat (first | with_reducible exact Later.refl _ | with_reducible assumption | with_reducible refine Later.ofdrew ?_ | with_reducible refine Later.ofdrewN ?_ | with_reducible refine Later.setCell ?_ ?_ _ | with_reducible refine Later.alloc ?_ _ | with_reducible refine Later.drewN ?_ _ | with_reducible refine Later.drew ?_ | (with_reducible refine Later.trans ?_ (by assumption)) | (simp only [World.size_setCell, World.size_alloc, World.heap_drewN]; omega) | (simp; done) | (simp; omega)))).mono ?_; rintro e w6 ⟨rfl, hb6⟩; obtain ⟨⟨z1, d1, f1⟩, -⟩ := Own.one hb6)) | (go_at_call 41; go_must (refine (HCL.out _ (by repeat (first | with_reducible exact Later.refl _ | with_reducible assumption | with_reducible refine Later.ofdrew ?_ | with_reducible refine Later.ofdrewN ?_ | with_reducible refine Later.setCell ?_ ?_ _ | with_reducible refine Later.alloc ?_ _ | with_reducible refine Later.drewN ?_ _ | with_reducible refine Later.drew ?_ | (with_reducible refine Later.trans ?_ (by assumption)) | (simp only [World.size_setCell, World.size_alloc, World.heap_drewN]; omega) | (simp; done) | (simp; omega)))).mono ?_; rintro e w7 ⟨v7, rfl, hR7, hM7, hb7⟩; obtain ⟨p7, cp7, rfl⟩ := hR7.1.form; have z6 := z1; have hO7 := (Own.one hb6).later hb7; clear z1 d1 f1; obtain ⟨⟨z1, d1, f1⟩, -⟩ := hO7)))
          refine wp_opaque (fun W8 hb8 => ?_)
          have hO8 : Own W8 [(wr.heap.size, #[.int .i64 con, .int .i64 day, .int .i64 cur, .int .i64 seq, .int .i64 period, .int .i64 (-1), .slice p7 ls.length cp7])] := (own_put (own_put (own_put ((Own.one hb6).later hb7) (k := 4) (by simp) (.int .i64 period)) (k := 3) (by simp) (.int .i64 seq)) (k := 6) (by simp) (.slice p7 ls.length cp7)).later hb8
          have hl8 : Later wr W8 := Later.trans (by repeat (first | with_reducible exact Later.refl _ | with_reducible assumption | with_reducible refine Later.ofdrew ?_ | with_reducible refine Later.ofdrewN ?_ | with_reducible refine Later.setCell ?_ ?_ _ | with_reducible refine Later.alloc ?_ _ | with_reducible refine Later.drewN ?_ _ | with_reducible refine Later.drew ?_ | (with_reducible refine Later.trans ?_ (by assumption)) | (simp only [World.size_setCell, World.size_alloc, World.heap_drewN]; omega) | (simp; done) | (simp; omega))) hb8
          have hR8 : RowT 92 3 lnF W8 (.slice p7 ls.length cp7) ls := (rowT_owns lnCs lnCs_len lnCs_cell (by decide) (ownsRow_setCell_below (ownsRow_setCell_below (ownsRow_setCell_below hM7.1 (a := ⟨wr.heap.size, 4, none⟩) z6 (.int .i64 period)) (a := ⟨wr.heap.size, 3, none⟩) z6 (.int .i64 seq)) (a := ⟨wr.heap.size, 6, none⟩) z6 (.slice p7 ls.length cp7))).later hb8
          have hN8 := hN.out.later hl8
          clear z1 d1 f1 z6 hb6 hb7 hb8 hR7 hM7 HCK HCL hlat hl8
          have HO9 := Lib.hid hO8
          have HN8 := Lib.hid hN8
          have HR8 := Lib.hid hR8
          have HMW := Lib.hid (fun W (hl : Later W8 W) => hN8.2.2.2.1.later hl)
          obtain ⟨pv, cv, rfl⟩ := hN8.2.2.2.1.form
          clear hN8 hR8 hO8
          refine W.wp_region_plan 7 (.two [0, 1, 5] 2 (.one [3, 4] 6 (.one [] 7 (.one [] 8 (.one [] 9 (.one [] 10 (.done [])))))) 6 (.one [] 2 (.one [3, 4] 7 (.one [] 8 (.one [] 9 (.one [] 10 (.done []))))))) (by kernel_rfl) (by kernel_rfl) (fun _ _ d _ _ h => by cases d <;> exact h) ?_
          refine W.open_drew (fun D hD => ?_)
          obtain ⟨⟨z8, d8, f8⟩, -⟩ := HO9.out.later hD; have c8 := (HN8.out.later hD).1.c0; have zn8 := (HN8.out.later hD).1.lt
          repeat' (first
            | (refine plan_done (fun K hK => ?_); (first | (simp only [pick_cons, pick_nil, toList_some_append, List.getElem?_toArray, List.getElem?_cons_zero, List.getElem?_cons_succ]; repeat (go_big_quiet_step (fail))) | simp only [pick_nil]); refine wpQuiet_nil (hK _ ?_); clear hK K)
            | (refine plan_one (by rfl) (fun K hK => ?_); (first | (simp only [pick_cons, pick_nil, toList_some_append, List.getElem?_toArray, List.getElem?_cons_zero, List.getElem?_cons_succ]; repeat (go_big_quiet_step (fail))) | simp only [pick_nil]); refine wpQuiet_nil (hK _ ?_); clear hK K)
            | (refine plan_two (by rfl) (by rfl) (fun K hK => ?_); (first | (simp only [pick_cons, pick_nil, toList_some_append, List.getElem?_toArray, List.getElem?_cons_zero, List.getElem?_cons_succ]; repeat (go_big_quiet_step (fail))) | simp only [pick_nil]); refine wpQuiet_nil (hK _ ?_); clear hK K; refine ⟨?_, ?_⟩)
            | ((with_reducible refine at_list ?_); (try simp only [List.getElem_toArray, List.getElem_cons_succ, List.getElem_cons_zero]); go_wp2_with (first | refine wpList_builtS (en_one _ _ _ _ _ _ _ _ _ _) rfl rfl rfl ?_ | (at_builtin; go_must (refine wpList_pushAt sliceEn (HMW.out _ (by repeat (first | with_reducible exact Later.refl _ | with_reducible assumption | with_reducible refine Later.ofdrew ?_ | with_reducible refine Later.ofdrewN ?_ | with_reducible refine Later.setCell ?_ ?_ _ | with_reducible refine Later.alloc ?_ _ | with_reducible refine Later.drewN ?_ _ | with_reducible refine Later.drew ?_ | (with_reducible refine Later.trans ?_ (by assumption)) | (simp only [World.size_setCell, World.size_alloc, World.heap_drewN]; omega) | (simp; done) | (simp; omega)))) rfl _ _ rfl rfl 1 _ rfl (by simp) rfl (by simp [Value.oneCell']) (by omega) (by unfold maxLen; omega) ?_; intro v9 w9 hM9 hg9; obtain ⟨p9, cp9, rfl⟩ := hM9.form; obtain ⟨hbk9, hN9⟩ := NxAt.push (HN8.out.later (by repeat (first | with_reducible exact Later.refl _ | with_reducible assumption | with_reducible refine Later.ofdrew ?_ | with_reducible refine Later.ofdrewN ?_ | with_reducible refine Later.setCell ?_ ?_ _ | with_reducible refine Later.alloc ?_ _ | with_reducible refine Later.drewN ?_ _ | with_reducible refine Later.drew ?_ | (with_reducible refine Later.trans ?_ (by assumption)) | (simp only [World.size_setCell, World.size_alloc, World.heap_drewN]; omega) | (simp; done) | (simp; omega)))) (x := ((⟨con, day, cur, seq, period, (-1), ls⟩ : En), .slice p7 ls.length cp7)) (HR8.out.later (by repeat (first | with_reducible exact Later.refl _ | with_reducible assumption | with_reducible refine Later.ofdrew ?_ | with_reducible refine Later.ofdrewN ?_ | with_reducible refine Later.setCell ?_ ?_ _ | with_reducible refine Later.alloc ?_ _ | with_reducible refine Later.drewN ?_ _ | with_reducible refine Later.drew ?_ | (with_reducible refine Later.trans ?_ (by assumption)) | (simp only [World.size_setCell, World.size_alloc, World.heap_drewN]; omega) | (simp; done) | (simp; omega)))) hg9 hM9; have c9 := hbk9.c0; obtain ⟨⟨zn, dn, fn⟩, -⟩ := hbk9.own; have HN9 := Lib.hid hN9; clear hN9 hM9 hg9 hbk9))); first | refine behind_store (t := 7) (by decide) ?_ | refine behind (by repeat (first | with_reducible exact Later.refl _ | with_reducible assumption | with_reducible refine Later.ofdrew ?_ | with_reducible refine Later.ofdrewN ?_ | with_reducible refine Later.alloc ?_ _ | with_reducible refine Later.drewN ?_ _ | with_reducible refine Later.drew ?_ | (with_reducible refine Later.trans ?_ (by assumption)))) ?_))
          all_goals
            go_wp2
            go_roundw
            case rel => exact ⟨j + 1, by omega, by go_num, fs ++ [(⟨con, day, cur, seq, period, (-1), ls⟩ : En)], Lib.hid (by have h := HN9.out; rw [show byL fs = byL (fs ++ [(⟨con, day, cur, seq, period, (-1), ls⟩ : En)]) by rw [byL_snoc, if_pos rfl, List.append_nil]] at h; exact h.copy (by rw [List.map_append, hys.out]; rfl)), hstep2, Lib.hid (by rw [List.length_append, hfl.out]; simp; omega), hfw2⟩
            case measure => simp [intOf]; omega
        · have hr2 : (ref == -1) = false := by simpa using hr1
          have hr3 : (ref != -1) = true := by simpa using hr1
          have hnew : Hid (∀ k (hk : k < fs.length), fs[k].ref ≠ ref) := Lib.hid (by
            obtain ⟨_, h2⟩ := chkE_ok hc
            obtain ⟨k, hk, _, _, _, h3⟩ := h2 hr1
            exact h3)
          replace hr1 := Lib.hid hr1
          have hstep2 : Hid (r = postL period seq (fs ++ [(⟨con, day, cur, seq, period, ref, ls⟩ : En)]) (xs.drop (j + 1))) := Lib.hid (by rw [hstep.out, if_neg (by simp)]; rfl)
          have hfw2 : Hid (∀ y ∈ fs ++ [(⟨con, day, cur, seq, period, ref, ls⟩ : En)], y.ok) := Lib.hid (by
            intro y hy
            rcases List.mem_append.1 hy with hy | hy
            · exact hfw.out y hy
            · simp only [List.mem_singleton] at hy; subst hy; exact ⟨hxok.out.1, hxok.out.2.1, hxok.out.2.2.1, hsq.out, hpd.out, hxok.out.2.2.2.2.2.1, hxok.out.2.2.2.2.2.2⟩)
          have hyl : ys.length = fs.length := by rw [← hys.out, List.length_map]
          have hyl2 : ys.length ≤ 100000 := by omega
          replace hyl := Lib.hid hyl
          clear hstep
          go_upto_region 19 with (first | (go_at_call 40; go_must (refine (HCK.out _ (by repeat (first | with_reducible exact Later.refl _ | with_reducible assumption | with_reducible refine Later.ofdrew ?_ | with_reducible refine Later.ofdrewN ?_ | with_reducible refine Later.setCell ?_ ?_ _ | with_reducible refine Later.alloc ?_ _ | with_reducible refine Later.drewN ?_ _ | with_reducible refine Later.drew ?_ | (with_reducible refine Later.trans ?_ (by assumption)) | (simp only [World.size_setCell, World.size_alloc, World.heap_drewN]; omega) | (simp; done) | (simp; omega)))).mono ?_; rintro e w6 ⟨rfl, hb6⟩; obtain ⟨⟨z1, d1, f1⟩, -⟩ := Own.one hb6)) | (go_at_call 41; go_must (refine (HCL.out _ (by repeat (first | with_reducible exact Later.refl _ | with_reducible assumption | with_reducible refine Later.ofdrew ?_ | with_reducible refine Later.ofdrewN ?_ | with_reducible refine Later.setCell ?_ ?_ _ | with_reducible refine Later.alloc ?_ _ | with_reducible refine Later.drewN ?_ _ | with_reducible refine Later.drew ?_ | (with_reducible refine Later.trans ?_ (by assumption)) | (simp only [World.size_setCell, World.size_alloc, World.heap_drewN]; omega) | (simp; done) | (simp; omega)))).mono ?_; rintro e w7 ⟨v7, rfl, hR7, hM7, hb7⟩; obtain ⟨p7, cp7, rfl⟩ := hR7.1.form; have z6 := z1; have hO7 := (Own.one hb6).later hb7; clear z1 d1 f1; obtain ⟨⟨z1, d1, f1⟩, -⟩ := hO7)))
          refine wp_opaque (fun W8 hb8 => ?_)
          have hO8 : Own W8 [(wr.heap.size, #[.int .i64 con, .int .i64 day, .int .i64 cur, .int .i64 seq, .int .i64 period, .int .i64 ref, .slice p7 ls.length cp7])] := (own_put (own_put (own_put ((Own.one hb6).later hb7) (k := 4) (by simp) (.int .i64 period)) (k := 3) (by simp) (.int .i64 seq)) (k := 6) (by simp) (.slice p7 ls.length cp7)).later hb8
          have hl8 : Later wr W8 := Later.trans (by repeat (first | with_reducible exact Later.refl _ | with_reducible assumption | with_reducible refine Later.ofdrew ?_ | with_reducible refine Later.ofdrewN ?_ | with_reducible refine Later.setCell ?_ ?_ _ | with_reducible refine Later.alloc ?_ _ | with_reducible refine Later.drewN ?_ _ | with_reducible refine Later.drew ?_ | (with_reducible refine Later.trans ?_ (by assumption)) | (simp only [World.size_setCell, World.size_alloc, World.heap_drewN]; omega) | (simp; done) | (simp; omega))) hb8
          have hR8 : RowT 92 3 lnF W8 (.slice p7 ls.length cp7) ls := (rowT_owns lnCs lnCs_len lnCs_cell (by decide) (ownsRow_setCell_below (ownsRow_setCell_below (ownsRow_setCell_below hM7.1 (a := ⟨wr.heap.size, 4, none⟩) z6 (.int .i64 period)) (a := ⟨wr.heap.size, 3, none⟩) z6 (.int .i64 seq)) (a := ⟨wr.heap.size, 6, none⟩) z6 (.slice p7 ls.length cp7))).later hb8
          have hN8 := hN.out.later hl8
          clear z1 d1 f1 z6 hb6 hb7 hb8 hR7 hM7 HCK HCL hlat hl8
          have hmb : some wr.heap.size ≠ some m := fun e => by
            obtain ⟨mes, mcl, hmm⟩ := NxAt.isMap hN.out.2.2.2.2.2
            cases e
            have := (Array.getElem?_eq_some_iff.1 hmm).1
            omega
          replace hmb := Lib.hid hmb
          have hO8' := hO8
          obtain ⟨⟨z8, d8, f8⟩, -⟩ := hO8
          have c80 := hN8.1.c0
          have c81 := hN8.1.c1
          have zn80 := hN8.1.lt
          obtain ⟨pv, cv, rfl⟩ := hN8.2.2.2.1.form
          have HN8 := Lib.hid hN8
          have HR8 := Lib.hid hR8
          have HO8 := Lib.hid hO8'
          have hl9 : Later W8 W8.drew := by repeat (first | with_reducible exact Later.refl _ | with_reducible assumption | with_reducible refine Later.ofdrew ?_ | with_reducible refine Later.ofdrewN ?_ | with_reducible refine Later.setCell ?_ ?_ _ | with_reducible refine Later.alloc ?_ _ | with_reducible refine Later.drewN ?_ _ | with_reducible refine Later.drew ?_ | (with_reducible refine Later.trans ?_ (by assumption)) | (simp only [World.size_setCell, World.size_alloc, World.heap_drewN]; omega) | (simp; done) | (simp; omega))
          have HMP := Lib.hid (fun W (hl : Later W8 W) => (hN8.later hl).2.2.2.2.2)
          clear hN8 hR8 hO8'
          refine wp_region_plan 11 (.two [0, 4, 5, 6] 1 (.one [2, 3] 7 (.one [8, 9] 10 (.one [] 11 (.done [])))) 7 (.two [8, 9] 1 (.one [2, 3] 10 (.one [] 11 (.done []))) 10 (.one [] 1 (.one [2, 3] 11 (.done []))))) (by kernel_rfl) (by kernel_rfl) (fun _ _ d _ _ h => by cases d <;> exact h) ?_
          repeat' (first
            | (refine plan_done (fun K hK => ?_); (first | (simp only [pick_cons, pick_nil, toList_some_append, List.getElem?_toArray, List.getElem?_cons_zero, List.getElem?_cons_succ]; repeat (go_big_quiet_step (fail))) | simp only [pick_nil]); refine wpQuiet_nil (hK _ ?_); clear hK K)
            | (refine plan_one (by rfl) (fun K hK => ?_); (first | (simp only [pick_cons, pick_nil, toList_some_append, List.getElem?_toArray, List.getElem?_cons_zero, List.getElem?_cons_succ]; repeat (go_big_quiet_step (fail))) | simp only [pick_nil]); refine wpQuiet_nil (hK _ ?_); clear hK K)
            | (refine plan_two (by rfl) (by rfl) (fun K hK => ?_); (first | (simp only [pick_cons, pick_nil, toList_some_append, List.getElem?_toArray, List.getElem?_cons_zero, List.getElem?_cons_succ]; repeat (go_big_quiet_step (fail))) | simp only [pick_nil]); refine wpQuiet_nil (hK _ ?_); clear hK K; refine ⟨?_, ?_⟩)
            | ((with_reducible refine at_list ?_); go_wp2_with ((refine wpList_put intLaw intInj Tryz.underlying81 (HMP.out _ (by repeat (first | with_reducible exact Later.refl _ | with_reducible assumption | with_reducible refine Later.ofdrew ?_ | with_reducible refine Later.ofdrewN ?_ | with_reducible refine Later.setCell ?_ ?_ _ | with_reducible refine Later.alloc ?_ _ | with_reducible refine Later.drewN ?_ _ | with_reducible refine Later.drew ?_ | (with_reducible refine Later.trans ?_ (by assumption)) | (simp only [World.size_setCell, World.size_alloc, World.heap_drewN]; omega) | (simp; done) | (simp; omega)))) rfl _ _ _ rfl rfl ref (ys.length : Int) rfl rfl (intKey hxok.out.2.2.2.2.2.1) ?_; intro w10 hm10 hg10)); first | refine behind_store (t := 11) (by decide) ?_ | refine behind (by repeat (first | with_reducible exact Later.refl _ | with_reducible assumption | with_reducible refine Later.ofdrew ?_ | with_reducible refine Later.ofdrewN ?_ | with_reducible refine Later.alloc ?_ _ | with_reducible refine Later.drewN ?_ _ | with_reducible refine Later.drew ?_ | (with_reducible refine Later.trans ?_ (by assumption)))) ?_))
          all_goals
            have hm11 : byM w10 m (byL (fs ++ [(⟨con, day, cur, seq, period, ref, ls⟩ : En)])) := by
              rw [← byL_put (x := (⟨con, day, cur, seq, period, ref, ls⟩ : En)) hr1.out (hnew.out), ← hyl.out]; exact hm10
            have hl10 : Later W8 W8.drew := by repeat (first | with_reducible exact Later.refl _ | with_reducible assumption | with_reducible refine Later.ofdrew ?_ | with_reducible refine Later.ofdrewN ?_ | with_reducible refine Later.setCell ?_ ?_ _ | with_reducible refine Later.alloc ?_ _ | with_reducible refine Later.drewN ?_ _ | with_reducible refine Later.drew ?_ | (with_reducible refine Later.trans ?_ (by assumption)) | (simp only [World.size_setCell, World.size_alloc, World.heap_drewN]; omega) | (simp; done) | (simp; omega))
            have hN10 := NxAt.put (HN8.out.later hl10) hg10 hm11
            have hO10 := own_grown (HO8.out.later hl10) hg10 hmb.out
            have hR10 : RowT 92 3 lnF w10 (.slice p7 ls.length cp7) ls := (HR8.out.later hl10).grown hg10 (fun cs fr e => by
              obtain ⟨mes, mcl, hmm⟩ := NxAt.isMap (HN8.out.later hl10).2.2.2.2.2
              rw [hmm] at e; cases e)
            clear HN8 HO8 HR8 HMP hm10 hg10 hm11 c80 c81 z8 d8 f8 hl10 hl9
            simp only [List.getElem_toArray, List.getElem_cons_succ, List.getElem_cons_zero, Act.put]
            go_upto_region 20 with (fail)
            refine wp_opaque (fun W11 hb11 => ?_)
            have hN11 := hN10.later hb11
            have hO11 := hO10.later hb11
            have hR11 := hR10.later hb11
            clear hN10 hO10 hR10 hb11
            have HO9 := Lib.hid hO11
            have HN8 := Lib.hid hN11
            have HR8 := Lib.hid hR11
            have HMW := Lib.hid (fun W (hl : Later W11 W) => hN11.2.2.2.1.later hl)
            skip
            clear hN11 hR11 hO11
            refine W.wp_region_plan 7 (.two [0, 1, 5] 2 (.one [3, 4] 6 (.one [] 7 (.one [] 8 (.one [] 9 (.one [] 10 (.done [])))))) 6 (.one [] 2 (.one [3, 4] 7 (.one [] 8 (.one [] 9 (.one [] 10 (.done []))))))) (by kernel_rfl) (by kernel_rfl) (fun _ _ d _ _ h => by cases d <;> exact h) ?_
            refine W.open_drew (fun D hD => ?_)
            obtain ⟨⟨z8, d8, f8⟩, -⟩ := HO9.out.later hD; have c8 := (HN8.out.later hD).1.c0; have zn8 := (HN8.out.later hD).1.lt
            repeat' (first
              | (refine plan_done (fun K hK => ?_); (first | (simp only [pick_cons, pick_nil, toList_some_append, List.getElem?_toArray, List.getElem?_cons_zero, List.getElem?_cons_succ]; repeat (go_big_quiet_step (fail))) | simp only [pick_nil]); refine wpQuiet_nil (hK _ ?_); clear hK K)
              | (refine plan_one (by rfl) (fun K hK => ?_); (first | (simp only [pick_cons, pick_nil, toList_some_append, List.getElem?_toArray, List.getElem?_cons_zero, List.getElem?_cons_succ]; repeat (go_big_quiet_step (fail))) | simp only [pick_nil]); refine wpQuiet_nil (hK _ ?_); clear hK K)
              | (refine plan_two (by rfl) (by rfl) (fun K hK => ?_); (first | (simp only [pick_cons, pick_nil, toList_some_append, List.getElem?_toArray, List.getElem?_cons_zero, List.getElem?_cons_succ]; repeat (go_big_quiet_step (fail))) | simp only [pick_nil]); refine wpQuiet_nil (hK _ ?_); clear hK K; refine ⟨?_, ?_⟩)
              | ((with_reducible refine at_list ?_); (try simp only [List.getElem_toArray, List.getElem_cons_succ, List.getElem_cons_zero]); go_wp2_with (first | refine wpList_builtS (en_one _ _ _ _ _ _ _ _ _ _) rfl rfl rfl ?_ | (at_builtin; go_must (refine wpList_pushAt sliceEn (HMW.out _ (by repeat (first | with_reducible exact Later.refl _ | with_reducible assumption | with_reducible refine Later.ofdrew ?_ | with_reducible refine Later.ofdrewN ?_ | with_reducible refine Later.setCell ?_ ?_ _ | with_reducible refine Later.alloc ?_ _ | with_reducible refine Later.drewN ?_ _ | with_reducible refine Later.drew ?_ | (with_reducible refine Later.trans ?_ (by assumption)) | (simp only [World.size_setCell, World.size_alloc, World.heap_drewN]; omega) | (simp; done) | (simp; omega)))) rfl _ _ rfl rfl 1 _ rfl (by simp) rfl (by simp [Value.oneCell']) (by omega) (by unfold maxLen; omega) ?_; intro v9 w9 hM9 hg9; obtain ⟨p9, cp9, rfl⟩ := hM9.form; obtain ⟨hbk9, hN9⟩ := NxAt.push (HN8.out.later (by repeat (first | with_reducible exact Later.refl _ | with_reducible assumption | with_reducible refine Later.ofdrew ?_ | with_reducible refine Later.ofdrewN ?_ | with_reducible refine Later.setCell ?_ ?_ _ | with_reducible refine Later.alloc ?_ _ | with_reducible refine Later.drewN ?_ _ | with_reducible refine Later.drew ?_ | (with_reducible refine Later.trans ?_ (by assumption)) | (simp only [World.size_setCell, World.size_alloc, World.heap_drewN]; omega) | (simp; done) | (simp; omega)))) (x := ((⟨con, day, cur, seq, period, ref, ls⟩ : En), .slice p7 ls.length cp7)) (HR8.out.later (by repeat (first | with_reducible exact Later.refl _ | with_reducible assumption | with_reducible refine Later.ofdrew ?_ | with_reducible refine Later.ofdrewN ?_ | with_reducible refine Later.setCell ?_ ?_ _ | with_reducible refine Later.alloc ?_ _ | with_reducible refine Later.drewN ?_ _ | with_reducible refine Later.drew ?_ | (with_reducible refine Later.trans ?_ (by assumption)) | (simp only [World.size_setCell, World.size_alloc, World.heap_drewN]; omega) | (simp; done) | (simp; omega)))) hg9 hM9; have c9 := hbk9.c0; obtain ⟨⟨zn, dn, fn⟩, -⟩ := hbk9.own; have HN9 := Lib.hid hN9; clear hN9 hM9 hg9 hbk9))); first | refine behind_store (t := 7) (by decide) ?_ | refine behind (by repeat (first | with_reducible exact Later.refl _ | with_reducible assumption | with_reducible refine Later.ofdrew ?_ | with_reducible refine Later.ofdrewN ?_ | with_reducible refine Later.alloc ?_ _ | with_reducible refine Later.drewN ?_ _ | with_reducible refine Later.drew ?_ | (with_reducible refine Later.trans ?_ (by assumption)))) ?_))
            all_goals
              go_wp2
              go_roundw
              case rel => exact ⟨j + 1, by omega, by go_num, fs ++ [(⟨con, day, cur, seq, period, ref, ls⟩ : En)], Lib.hid (by exact HN9.out.copy (by rw [List.map_append, hys.out]; rfl)), hstep2, Lib.hid (by rw [List.length_append, hfl.out]; simp; omega), hfw2⟩
              case measure => simp [intOf]; omega
      · have hc1 : (c == 0) = false := by simpa using hc0
        have hc2 : (c != 0) = true := by simpa using hc0
        have hrE : o3 = c := by rw [← ho3.out, hstep.out, if_pos hc0]
        subst hrE
        have hrE1 : o1 = 0 := by rw [← ho1.out, if_neg hc0]
        subst hrE1
        have hrE2 : o2 = es := by rw [← ho2.out, if_neg hc0]
        subst hrE2
        clear hc0 hc hstep HCL ho1 ho2 ho3
        go_wp2_with ((go_at_call 40; go_must (refine (HCK.out _ (by repeat (first | with_reducible exact Later.refl _ | with_reducible assumption | with_reducible refine Later.ofdrew ?_ | with_reducible refine Later.ofdrewN ?_ | with_reducible refine Later.setCell ?_ ?_ _ | with_reducible refine Later.alloc ?_ _ | with_reducible refine Later.drewN ?_ _ | with_reducible refine Later.drew ?_ | (with_reducible refine Later.trans ?_ (by assumption)) | (simp only [World.size_setCell, World.size_alloc, World.heap_drewN]; omega) | (simp; done) | (simp; omega)))).mono ?_; rintro e w6 ⟨rfl, hb6⟩; obtain ⟨⟨z1, d1, f1⟩, -⟩ := Own.one hb6)))
        go_ret2
        exact ⟨rfl, HL.out.later (hlat.trans (by repeat (first | with_reducible exact Later.refl _ | with_reducible assumption | with_reducible refine Later.ofdrew ?_ | with_reducible refine Later.ofdrewN ?_ | with_reducible refine Later.setCell ?_ ?_ _ | with_reducible refine Later.alloc ?_ _ | with_reducible refine Later.drewN ?_ _ | with_reducible refine Later.drew ?_ | (with_reducible refine Later.trans ?_ (by assumption)) | (simp only [World.size_setCell, World.size_alloc, World.heap_drewN]; omega) | (simp; done) | (simp; omega)))), grown_later (hlat.trans (by repeat (first | with_reducible exact Later.refl _ | with_reducible assumption | with_reducible refine Later.ofdrew ?_ | with_reducible refine Later.ofdrewN ?_ | with_reducible refine Later.setCell ?_ ?_ _ | with_reducible refine Later.alloc ?_ _ | with_reducible refine Later.drewN ?_ _ | with_reducible refine Later.drew ?_ | (with_reducible refine Later.trans ?_ (by assumption)) | (simp only [World.size_setCell, World.size_alloc, World.heap_drewN]; omega) | (simp; done) | (simp; omega)))) _⟩
    · have hend : r = (0, fs) := by rw [hrr.out, List.drop_of_length_le (by omega)]; rfl
      have e3 : o3 = 0 := by rw [← ho3.out, hend]
      subst e3
      have e1 : o1 = (es.length : Int) := by rw [← ho1.out]; rfl
      subst e1
      have e2 : o2 = fs := by rw [← ho2.out, hend]; rfl
      subst e2
      obtain ⟨v0, m0, hbk0, -, -⟩ := HL.out
      have HK := Lib.hid hbk0
      obtain ⟨pv, cv, rfl⟩ := hN.out.2.2.2.1.form
      clear hbk0 hend hrr hfl hfw ho1 ho2 ho3 hr HE HR hb6 hC hew hxw hF
      go_wp2_with (go_at_call 42; go_must (refine (HLN.out _ (by repeat (first | with_reducible exact Later.refl _ | with_reducible assumption | with_reducible refine Later.ofdrew ?_ | with_reducible refine Later.ofdrewN ?_ | with_reducible refine Later.setCell ?_ ?_ _ | with_reducible refine Later.alloc ?_ _ | with_reducible refine Later.drewN ?_ _ | with_reducible refine Later.drew ?_ | (with_reducible refine Later.trans ?_ (by assumption)) | (simp only [World.size_setCell, World.size_alloc, World.heap_drewN]; omega) | (simp; done) | (simp; omega)))).mono ?_; rintro e w12 ⟨rfl, hb12⟩; have hN12 := hN.out.later hb12; have hK12 := HK.out.later (hlat.trans hb12); obtain ⟨⟨za, da, fa⟩, -⟩ := hK12.own; have cb0 := hN12.1.c0; have cb1 := hN12.1.c1; have zb := hN12.1.lt; have HN12 := Lib.hid hN12; have HK12 := Lib.hid hK12; have hlat12 := hlat.trans hb12; clear hN12 hK12))
      go_ret2
      have hlay := HN12.out.lay hys.out HK12.out hlt
      exact ⟨rfl, hlay.1, grown_trans (grown_later hlat12 _) hlay.2⟩


/-- Post. -/
theorem post_any (q : Nat) (es : List En) (hel : es.length ≤ 90000) (hew : ∀ y ∈ es, y.ok) (pq pb : Nat) (sz lk period seq : Int) (hsq : I64 seq) (hpd : I64 period) (xs : List En) (hxl : xs.length ≤ 1000) (hxw : ∀ y ∈ xs, y.ok) (ev : Value) (w : World) (hL : Led w q es) (hP : PerAt w pq pb sz lk) (hE : IsEntries w ev xs) (hR : RulesAt w) (hlt : q < w.heap.size) :
    Calls Tryz.prog 15 #[.pointer (some ⟨q, 0, none⟩), .pointer (some ⟨pq, 0, none⟩), .int .i64 period, .int .i64 seq, ev] w fun e w' => e = .returned (.tuple #[.int .i64 (if postE sz lk es period seq xs = 0 then (es.length : Int) else 0), .int .i64 (postE sz lk es period seq xs)]) ∧ Led w' q (postR sz lk es period seq xs) ∧ w.grownBy w' (some q) := by
  by_cases h : perE sz period ≠ 0 ∨ period < lk ∨ seq < 0 ∨ seq < lastSeq es
  · refine (post_no q es hel hew pq pb sz lk period seq hsq hpd xs hxl hxw ev w hL hP hE hR h).mono ?_
    rintro e w' ⟨rfl, h0, hb⟩
    unfold postR
    rw [if_neg h0, if_neg h0]
    exact ⟨rfl, hL.later hb, grown_later hb _⟩
  · have h1 : perE sz period = 0 := Decidable.of_not_not (fun e => h (.inl e))
    have h2 : ¬ period < lk := fun e => h (.inr (.inl e))
    have h3 : ¬ seq < 0 := fun e => h (.inr (.inr (.inl e)))
    have h4 : ¬ seq < lastSeq es := fun e => h (.inr (.inr (.inr e)))
    have hp : postE sz lk es period seq xs = (postL period seq es xs).1 := by
      unfold postE
      rw [if_neg (by rw [h1]; simp), if_neg h2, if_neg (by omega)]
    refine (post_yes q es hel hew pq pb sz lk period seq hsq hpd xs hxl hxw ev w hL hP hE hR h1 h2 h3 h4 hlt).mono ?_
    rintro e w' ⟨rfl, hb⟩
    unfold postR
    rw [hp]
    exact ⟨rfl, hb⟩
theorem postR_inv {sz lk : Int} {es : List En} {period seq : Int} (hsq : I64 seq) (hpd : I64 period) {xs : List En} (hxw : ∀ y ∈ xs, y.ok) (h : Inv es) : Inv (postR sz lk es period seq xs) := by
  unfold postR
  by_cases h0 : postE sz lk es period seq xs = 0
  · rw [if_pos h0]
    unfold postE at h0
    by_cases h1 : perE sz period = 0
    · rw [if_neg (by simpa using h1)] at h0
      by_cases h2 : period < lk
      · rw [if_pos h2] at h0; exact absurd h0 (by decide)
      · rw [if_neg h2] at h0
        by_cases h3 : seq < 0 ∨ seq < lastSeq es
        · rw [if_pos h3] at h0; exact absurd h0 (by decide)
        · refine postL_inv ?_ (by omega) hpd hsq xs es h (by omega) hxw
          unfold perE at h1
          by_cases h4 : period < 0 ∨ lastP sz < period
          · rw [if_pos h4] at h1; exact absurd h1 (by decide)
          · omega
    · rw [if_pos h1] at h0; exact absurd h0 h1
  · rw [if_neg h0]; exact h
theorem postR_len {sz lk : Int} {es : List En} {period seq : Int} {xs : List En} : (postR sz lk es period seq xs).length ≤ es.length + xs.length := by
  unfold postR
  by_cases h0 : postE sz lk es period seq xs = 0
  · rw [if_pos h0]
    unfold postE at h0
    by_cases h1 : perE sz period = 0
    · rw [if_neg (by simpa using h1)] at h0
      by_cases h2 : period < lk
      · rw [if_pos h2] at h0; exact absurd h0 (by decide)
      · rw [if_neg h2] at h0
        by_cases h3 : seq < 0 ∨ seq < lastSeq es
        · rw [if_pos h3] at h0; exact absurd h0 (by decide)
        · rw [if_neg h3] at h0
          rw [postL_len xs es h0]
          exact Nat.le_refl _
    · rw [if_pos h1] at h0; exact absurd h0 h1
  · rw [if_neg h0]; omega
end Go.Proofs.YtckeaibamgkegaaGreatDoor
end
