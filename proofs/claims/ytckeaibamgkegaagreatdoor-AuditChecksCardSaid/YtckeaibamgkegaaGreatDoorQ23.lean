/- audit's reference: words for own, back -/
import Derived.Test.YtckeaibamgkegaaGreatDoorQ22
import Derived.Test.YtckeaibamgkegaaGreatDoorQ18
import Derived.Test.YtckeaibamgkegaaGreatDoorQ21
set_option linter.all false
set_option linter.all false
section
/- audit.Print: which text rows are -/
namespace Go.Proofs.YtckeaibamgkegaaGreatDoor
open Go.RowKit
set_option maxRecDepth 100000

/-- A row's line. -/
def lineL (x : Rw) : List UInt8 := Lib.join (x.nums.map Lib.itoa) [32] ++ [10]
def textL (l : List Rw) : List UInt8 := l.flatMap lineL
theorem lineL_len {x : Rw} (h : x.ok) : (lineL x).length ≤ 200 := by
  obtain ⟨h0, h1, h2, h3, h4, h5, h6, h7, h8⟩ := h
  unfold I64 at *
  have e0 := Lib.itoa_length_le x.no h0.1 h0.2
  have e1 := Lib.itoa_length_le x.seq h1.1 h1.2
  have e2 := Lib.itoa_length_le x.per h2.1 h2.2
  have e3 := Lib.itoa_length_le x.con h3.1 h3.2
  have e4 := Lib.itoa_length_le x.day h4.1 h4.2
  have e5 := Lib.itoa_length_le x.ref h5.1 h5.2
  have e6 := Lib.itoa_length_le x.pty h6.1 h6.2
  have e7 := Lib.itoa_length_le x.cur h7.1 h7.2
  have e8 := Lib.itoa_length_le x.amt h8.1 h8.2
  unfold lineL Rw.nums Lib.join
  simp only [List.map_cons, List.map_nil, List.intercalate, List.intersperse, List.flatten_cons, List.flatten_nil, List.length_append, List.length_cons, List.length_nil]
  omega
theorem textL_len : ∀ {l : List Rw}, (∀ r ∈ l, r.ok) → (textL l).length ≤ 200 * l.length
  | [], _ => by simp [textL]
  | x :: r, h => by
    have h1 := lineL_len (h x (by simp))
    have h2 := textL_len (l := r) (fun y hy => h y (by simp [hy]))
    unfold textL at h2 ⊢
    rw [List.flatMap_cons, List.length_append, List.length_cons]
    omega
theorem textL_step {l : List Rw} {j : Nat} (h : j < l.length) : textL (l.take (j + 1)) = textL (l.take j) ++ lineL l[j] := by
  unfold textL
  rw [List.take_add_one, List.getElem?_eq_getElem h, Option.toList_some, List.flatMap_append, List.flatMap_singleton]


theorem num_build (r0 r1 r2 r3 r4 r5 r6 r7 r8 : Int) (w : World) :
    (Instr.buildSlice 59 9 #[(0, .int .i64 r0), (1, .int .i64 r1), (2, .int .i64 r2), (3, .int .i64 r3), (4, .int .i64 r4), (5, .int .i64 r5), (6, .int .i64 r6), (7, .int .i64 r7), (8, .int .i64 r8)]).run Tryz.prog w = .ok (.slice (some ⟨w.heap.size, 0, none⟩) 9 9) (w.alloc (.cells #[.int .i64 r0, .int .i64 r1, .int .i64 r2, .int .i64 r3, .int .i64 r4, .int .i64 r5, .int .i64 r6, .int .i64 r7, .int .i64 r8] 3)) := by kernel_rfl

set_option maxHeartbeats 1600000 in
theorem numbers_any (r0 r1 r2 r3 r4 r5 r6 r7 r8 : Int) (w : World) :
    Calls Tryz.prog 29 #[.agg #[.int .i64 r0, .int .i64 r1, .int .i64 r2, .int .i64 r3, .int .i64 r4, .int .i64 r5, .int .i64 r6, .int .i64 r7, .int .i64 r8]] w fun e w' => ∃ b, e = .returned (.slice (some ⟨b, 0, none⟩) 9 9) ∧ IsInts w' (.slice (some ⟨b, 0, none⟩) 9 9) [r0, r1, r2, r3, r4, r5, r6, r7, r8] ∧ Later w w' := by
  go_enter Tryz.func29, Tryz.ntmps29
  go_wp2_with (refine wpList_builtS (num_build _ _ _ _ _ _ _ _ _) rfl rfl rfl ?_)
  go_ret
  refine ⟨_, rfl, ?_, by repeat (first | with_reducible exact Later.refl _ | with_reducible assumption | with_reducible refine Later.ofdrew ?_ | with_reducible refine Later.ofdrewN ?_ | with_reducible refine Later.setCell ?_ ?_ _ | with_reducible refine Later.alloc ?_ _ | with_reducible refine Later.drewN ?_ _ | with_reducible refine Later.drew ?_ | (with_reducible refine Later.trans ?_ (by assumption)) | (simp only [World.size_setCell, World.size_alloc, World.heap_drewN]; omega) | (simp; done) | (simp; omega))⟩
  have hM := Mine.lit (w0 := w.alloc (.cells #[.int .i64 r0, .int .i64 r1, .int .i64 r2, .int .i64 r3, .int .i64 r4, .int .i64 r5, .int .i64 r6, .int .i64 r7, .int .i64 r8] 55)) (w := w.alloc (.cells #[.int .i64 r0, .int .i64 r1, .int .i64 r2, .int .i64 r3, .int .i64 r4, .int .i64 r5, .int .i64 r6, .int .i64 r7, .int .i64 r8] 55)) (e := 3) (sz := 1) (n := 9) (cur := #[.int .i64 r0, .int .i64 r1, .int .i64 r2, .int .i64 r3, .int .i64 r4, .int .i64 r5, .int .i64 r6, .int .i64 r7, .int .i64 r8]) (Later.refl _) rfl (by decide)
  have h := (Mine.ints (zs := [r0, r1, r2, r3, r4, r5, r6, r7, r8]) hM).1
  simp only [World.size_alloc] at h
  exact h

set_option maxHeartbeats 4000000 in
theorem print_any (l : List Rw) (hlen : l.length ≤ 100000) (hro : ∀ r ∈ l, r.ok) (v : Value) (w : World) (hN : IsRow 9 rwF w v l) (htab : PowTab w) :
    Calls Tryz.prog 11 #[v] w fun e w' => e = .returned (.string ⟨(textL l).toArray⟩) ∧ Later w w' := by
  have HT := Lib.hid htab
  have HN := Lib.hid hN
  obtain ⟨p, cp, rfl⟩ := hN.form
  clear hN htab
  have HRO := Lib.hid hro
  clear hro
  obtain ⟨L, hLL⟩ : ∃ L, l.length = L := ⟨_, rfl⟩
  rw [hLL] at HN hlen ⊢
  have HL := Lib.hid hLL
  clear hLL
  go_enter Tryz.func11, Tryz.ntmps11
  go_upto_region 2 with (fail)
  refine wp_opaque (fun W1 hb1 => ?_)
  have hB1 := Lib.hid (builder_new (by repeat (first | with_reducible exact Later.refl _ | with_reducible assumption | with_reducible refine Later.ofdrew ?_ | with_reducible refine Later.ofdrewN ?_ | with_reducible refine Later.setCell ?_ ?_ _ | with_reducible refine Later.alloc ?_ _ | with_reducible refine Later.drewN ?_ _ | with_reducible refine Later.drew ?_ | (with_reducible refine Later.trans ?_ (by assumption)) | (simp only [World.size_setCell, World.size_alloc, World.heap_drewN]; omega) | (simp; done) | (simp; omega))) (block_later (heap_alloc_new w _) hb1) : Lib.IsBuilderF 72 5 w.heap.size w.heap.size (Lib.byteCells (textL (l.take 0))) W1)
  have hw1 := hb1.un1
  clear hb1
  go_wp2
  go_loopw [11] (fun s11 wr => ∃ j : Nat, j ≤ L ∧ s11 = .int .i64 j ∧ Hid (Lib.IsBuilderF 72 5 w.heap.size w.heap.size (Lib.byteCells (textL (l.take j))) wr) ∧ Later w wr) (fun s11 _ => L - (intOf s11).toNat)
  case atStart => exact ⟨0, Nat.zero_le _, rfl, hB1, hw1⟩
  case round =>
    obtain ⟨j, hj, rfl, hB, hlat⟩ := hrel
    clear hB1 hw1
    by_cases hlt : j < L
    · have hjl : j < l.length := by rw [HL.out]; exact hlt
      obtain ⟨b, o, cp', hv, hb, g⟩ := HN.out.full (i := j) hjl
      rw [HL.out] at hv
      cases hv
      replace g := fun k (hk : k < 9) => ((bcell hlat).1 _ _ hb).trans (g k hk)
      have g0 := g 0 (by omega)
      have g1 := g 1 (by omega)
      have g2 := g 2 (by omega)
      have g3 := g 3 (by omega)
      have g4 := g 4 (by omega)
      have g5 := g 5 (by omega)
      have g6 := g 6 (by omega)
      have g7 := g 7 (by omega)
      have g8 := g 8 (by omega)
      simp only [rwF, Rw.nums, List.getD_cons_zero, List.getD_cons_succ, Nat.add_zero] at g0 g1 g2 g3 g4 g5 g6 g7 g8
      have hbz := Nat.lt_of_lt_of_le hb (Later.size hlat)
      have hok := HRO.out _ (List.getElem_mem hjl)
      have hstep := Lib.hid (textL_step hjl)
      have hlenT : (textL (l.take j)).length ≤ 200 * 100000 := by
        have h1 := textL_len (l := l.take j) (fun r hr => HRO.out r (List.mem_of_mem_take hr))
        rw [List.length_take] at h1
        omega
      have hlenX := lineL_len hok
      clear g HN HRO HL
      generalize textL (l.take j) = T at *
      generalize l[j] = X at *
      obtain ⟨x0, x1, x2, x3, x4, x5, x6, x7, x8⟩ := X
      simp only at g0 g1 g2 g3 g4 g5 g6 g7 g8
      have hnI : ∀ i (h : i < [x0, x1, x2, x3, x4, x5, x6, x7, x8].length), I64 [x0, x1, x2, x3, x4, x5, x6, x7, x8][i] := by
        obtain ⟨o0, o1, o2, o3, o4, o5, o6, o7, o8⟩ := hok
        intro i h
        simp only [List.length_cons, List.length_nil] at h
        rcases i with _ | _ | _ | _ | _ | _ | _ | _ | _ | i
        all_goals first | (simp only [List.getElem_cons_zero, List.getElem_cons_succ]; assumption) | omega
      have HNI := Lib.hid hnI
      have hlin : Hid (lineL ⟨x0, x1, x2, x3, x4, x5, x6, x7, x8⟩ = Lib.join ([x0, x1, x2, x3, x4, x5, x6, x7, x8].map Lib.itoa) [32] ++ [10]) := Lib.hid rfl
      rw [hlin.out] at hlenX hstep
      have HNUM := Lib.hid (fun W => numbers_any x0 x1 x2 x3 x4 x5 x6 x7 x8 W)
      clear hok hnI hlin
      go_upto_region 7 with (go_at_call 29; go_must (refine (HNUM.out _).mono ?_; rintro e w2 ⟨bn, rfl, hI2, hb2⟩))
      refine wp_opaque (fun W3 hb3 => ?_)
      have HI3 := Lib.hid (hI2.later hb3)
      have hw3 : Later wr W3 := Later.trans (by repeat (first | with_reducible exact Later.refl _ | with_reducible assumption | with_reducible refine Later.ofdrew ?_ | with_reducible refine Later.ofdrewN ?_ | with_reducible refine Later.setCell ?_ ?_ _ | with_reducible refine Later.alloc ?_ _ | with_reducible refine Later.drewN ?_ _ | with_reducible refine Later.drew ?_ | (with_reducible refine Later.trans ?_ (by assumption)) | (simp only [World.size_setCell, World.size_alloc, World.heap_drewN]; omega) | (simp; done) | (simp; omega))) hb3
      obtain ⟨NL, hNL⟩ : ∃ n, [x0, x1, x2, x3, x4, x5, x6, x7, x8] = n := ⟨_, rfl⟩
      have hNn : NL.length = 9 := by rw [← hNL]; rfl
      rw [hNL] at HI3 HNI hlenX hstep
      have hNn := Lib.hid hNn
      clear hb3 hI2 hNL HNUM g0 g1 g2 g3 g4 g5 g6 g7 g8
      go_loopw [6, 18] (fun s6 s18 wr => ∃ i : Nat, i ≤ 9 ∧ s18 = .int .i64 i ∧ Mine W3 9 1 wr s6 i ((NL.take i).map (fun n => Value.string ⟨(Lib.itoa n).toArray⟩))) (fun _ s18 _ => 9 - (intOf s18).toNat)
      case atStart => exact ⟨0, by omega, rfl, Mine.nil (Later.refl _)⟩
      case round =>
        obtain ⟨i, hi, rfl, hM⟩ := hrel
        have hlq := hM.lat
        obtain ⟨p6, cp6, rfl⟩ := hM.form
        have HM := Lib.hid hM
        clear hM
        by_cases hit : i < 9
        · have hin : i < NL.length := by rw [hNn.out]; exact hit
          obtain ⟨bb, oo, cc, hv, hbb, gi⟩ := HI3.out.full hin
          rw [hNn.out] at hv
          cases hv
          have gi' := ((bcell hlq).1 _ _ hbb).trans gi
          simp only [Nat.zero_add] at gi'
          have hbbz := Nat.lt_of_lt_of_le hbb (Later.size hlq)
          have hii := HNI.out i hin
          have HIT := Lib.hid (fun W (hl : Later wr W) => itoa_any NL[i] hii W (HT.out.later ((hlat.trans hw3).trans (hlq.trans hl))))
          have hstp : Hid ((NL.take (i + 1)).map (fun n => Value.string ⟨(Lib.itoa n).toArray⟩) = (NL.take i).map (fun n => Value.string ⟨(Lib.itoa n).toArray⟩) ++ [Value.string ⟨(Lib.itoa NL[i]).toArray⟩]) := Lib.hid (by
            rw [List.take_add_one, List.getElem?_eq_getElem hin, Option.toList_some, List.map_append]; rfl)
          have HMW := Lib.hid (fun W (h : Later wr W) => HM.out.later h)
          clear gi hii HM HNI
          generalize NL[i] = N at *
          generalize (⟨(Lib.itoa N).toArray⟩ : ByteArray) = S at *
          go_wp2_with (first | (go_at_call 30; go_must (refine (HIT.out _ (by repeat (first | with_reducible exact Later.refl _ | with_reducible assumption | with_reducible refine Later.ofdrew ?_ | with_reducible refine Later.ofdrewN ?_ | with_reducible refine Later.setCell ?_ ?_ _ | with_reducible refine Later.alloc ?_ _ | with_reducible refine Later.drewN ?_ _ | with_reducible refine Later.drew ?_ | (with_reducible refine Later.trans ?_ (by assumption)) | (simp only [World.size_setCell, World.size_alloc, World.heap_drewN]; omega) | (simp; done) | (simp; omega)))).mono ?_; rintro e w4 ⟨rfl, hb4⟩)) | (at_builtin; go_must (refine wpList_pushAt sliceStr (HMW.out _ (by repeat (first | with_reducible exact Later.refl _ | with_reducible assumption | with_reducible refine Later.ofdrew ?_ | with_reducible refine Later.ofdrewN ?_ | with_reducible refine Later.setCell ?_ ?_ _ | with_reducible refine Later.alloc ?_ _ | with_reducible refine Later.drewN ?_ _ | with_reducible refine Later.drew ?_ | (with_reducible refine Later.trans ?_ (by assumption)) | (simp only [World.size_setCell, World.size_alloc, World.heap_drewN]; omega) | (simp; done) | (simp; omega)))) rfl _ _ rfl rfl 1 _ rfl (by simp) rfl (by simp [Value.oneCell']) (by omega) (by unfold maxLen; omega) ?_; intro v5 w5 hM5 hg5; have hb5 := hM5.lat; obtain ⟨p5, cp5, rfl⟩ := hM5.form)))
          go_roundw
          case rel => exact ⟨i + 1, by omega, by go_num, by rw [hstp.out]; exact hM5⟩
          case measure => simp [intOf]; omega
        · have hi9 : i = 9 := by omega
          subst hi9
          have hmm := HM.out
          rw [List.take_of_length_le (by rw [hNn.out]; omega)] at hmm
          have hB3 := builder_later hB.out (hw3.trans hlq)
          have HJ := Lib.hid (join_any NL 9 hNn.out.symm (by omega) (by have := hlenX; rw [List.length_append] at this; omega) hmm)
          have hlenX' := hlenX
          clear HM hmm hlenX
          obtain ⟨S, hS⟩ : ∃ S, Lib.join (NL.map Lib.itoa) [32] = S := ⟨_, rfl⟩
          simp only [hS] at HJ hlenX' hstep
          have hsc : Hid (Lib.byteCells T ++ Lib.strCells (ByteArray.mk S.toArray ++ ⟨#[10]⟩) = Lib.byteCells (textL (l.take (j + 1)))) := Lib.hid (by rw [hstep.out]; exact byteCells_str T S)
          have HWS := Lib.hid (fun W (hl : Later wr W) => write_any w.heap.size w.heap.size T (ByteArray.mk S.toArray ++ ⟨#[10]⟩) W (builder_later hB3 hl) (by rw [ba_app_size, ba_mk_size, show (⟨#[10]⟩ : ByteArray).size = 1 from rfl]; rw [List.length_append] at hlenX'; simp at hlenX'; omega) (Later.size ((hlat.trans hw3).trans (hlq.trans hl))))
          have hsz : ¬ (9223372036854775807 < (ByteArray.mk S.toArray).size + 1) := by rw [ba_mk_size]; rw [List.length_append] at hlenX'; simp at hlenX'; omega
          clear hS hB3 hstep hB hlenX' hlenT HT HNI HI3
          generalize (ByteArray.mk S.toArray) = S2 at *
          go_wp2_with (first | (go_at_call 32; go_must (refine (HJ.out _ (by repeat (first | with_reducible exact Later.refl _ | with_reducible assumption | with_reducible refine Later.ofdrew ?_ | with_reducible refine Later.ofdrewN ?_ | with_reducible refine Later.setCell ?_ ?_ _ | with_reducible refine Later.alloc ?_ _ | with_reducible refine Later.drewN ?_ _ | with_reducible refine Later.drew ?_ | (with_reducible refine Later.trans ?_ (by assumption)) | (simp only [World.size_setCell, World.size_alloc, World.heap_drewN]; omega) | (simp; done) | (simp; omega)))).mono ?_; rintro e w4 ⟨rfl, hb4⟩)) | (go_at_call 31; go_must (refine (HWS.out _ (by repeat (first | with_reducible exact Later.refl _ | with_reducible assumption | with_reducible refine Later.ofdrew ?_ | with_reducible refine Later.ofdrewN ?_ | with_reducible refine Later.setCell ?_ ?_ _ | with_reducible refine Later.alloc ?_ _ | with_reducible refine Later.drewN ?_ _ | with_reducible refine Later.drew ?_ | (with_reducible refine Later.trans ?_ (by assumption)) | (simp only [World.size_setCell, World.size_alloc, World.heap_drewN]; omega) | (simp; done) | (simp; omega)))).mono ?_; rintro e w6 ⟨rfl, hB6, hb6⟩)))
          go_roundw
          case rel => exact ⟨j + 1, by omega, by go_num, Lib.hid (by rw [← hsc.out]; exact hB6), Below.trans (Later.trans ((hlat.trans hw3).trans hlq) (by repeat (first | with_reducible exact Later.refl _ | with_reducible assumption | with_reducible refine Later.ofdrew ?_ | with_reducible refine Later.ofdrewN ?_ | with_reducible refine Later.setCell ?_ ?_ _ | with_reducible refine Later.alloc ?_ _ | with_reducible refine Later.drewN ?_ _ | with_reducible refine Later.drew ?_ | (with_reducible refine Later.trans ?_ (by assumption)) | (simp only [World.size_setCell, World.size_alloc, World.heap_drewN]; omega) | (simp; done) | (simp; omega)))) hb6⟩
          case measure => simp [intOf]; omega
    · have hBe := hB.out
      rw [List.take_of_length_le (by rw [HL.out]; omega)] at hBe
      have HST := Lib.hid (Tryz.Builder_String_any_f w.heap.size w.heap.size (textL l) wr hBe (Later.size hlat))
      clear hB hBe HN HRO
      go_wp2_with (go_at_call 33; go_must (refine HST.out.mono ?_; rintro e w7 ⟨rfl, -, hb7⟩))
      go_ret
      exact ⟨rfl, Below.trans hlat hb7⟩
end Go.Proofs.YtckeaibamgkegaaGreatDoor
end
section
/- audit's reference: Fold, Line -/
namespace Go.Proofs.YtckeaibamgkegaaGreatDoor
open Go.RowKit
set_option maxRecDepth 100000

theorem fit_int (n : Int) : intV (decide (n < 0)) n.natAbs = fitN n ∧ (fitsB (decide (n < 0)) n.natAbs = true ↔ -9223372036854775808 ≤ n ∧ n ≤ 9223372036854775807) := by
  have h2 : (fitsB (decide (n < 0)) n.natAbs = true ↔ -9223372036854775808 ≤ n ∧ n ≤ 9223372036854775807) := by
    unfold fitsB
    simp only [Bool.or_eq_true, Bool.and_eq_true, decide_eq_true_eq]
    omega
  refine ⟨?_, h2⟩
  unfold intV fitN
  by_cases h : -9223372036854775808 ≤ n ∧ n ≤ 9223372036854775807
  · rw [if_pos (h2.2 h), if_pos h]
    by_cases h0 : n < 0
    · simp only [h0, decide_true, if_true]; omega
    · simp only [h0, decide_false, Bool.false_eq_true, if_false]; omega
  · rw [if_neg (fun e => h (h2.1 e)), if_neg h]
def fitB (n : Int) : Bool := decide (-9223372036854775808 ≤ n ∧ n ≤ 9223372036854775807)
theorem fit_b (n : Int) : fitsB (decide (n < 0)) n.natAbs = fitB n := by
  rw [Bool.eq_iff_iff, (fit_int n).2]; unfold fitB; rw [decide_eq_true_eq]
/-- The sum of all, as a number, if it fits. -/
theorem isum_any (l : List Int) (hw : ∀ x ∈ l, I64 x) (hlen : l.length ≤ 100000) (r : Value) (w : World) (h : IsZ w r (sumI l)) :
    Calls Tryz.prog 26 #[r] w fun e w' => e = .returned (.tuple #[.int .i64 (fitN (sumI l)), .bool (fitB (sumI l))]) ∧ Later w w' := by
  have hb := sumI_nlen hw hlen
  refine (rint_any r _ _ w h (by omega)).mono ?_
  rintro e w' ⟨rfl, hl⟩
  rw [(fit_int _).1, fit_b]
  exact ⟨rfl, hl⟩

theorem fold_snoc (party cur period : Int) (l : List Rw) {j : Nat} (h : j < l.length) : ((l.take (j + 1)).filter (foldB party cur period)).map (·.amt) = ((l.take j).filter (foldB party cur period)).map (·.amt) ++ (if foldB party cur period l[j] = true then [(l[j]).amt] else []) := by
  rw [List.take_add_one, List.getElem?_eq_getElem h, Option.toList_some, List.filter_append, List.map_append]
  congr 1
  by_cases hb : foldB party cur period l[j] = true
  · rw [if_pos hb, List.filter_cons_of_pos hb]; rfl
  · rw [if_neg hb, List.filter_cons_of_neg hb]; rfl

set_option maxHeartbeats 3200000 in
theorem rfold_any (l : List Rw) (hlen : l.length ≤ 100000) (hw : ∀ r ∈ l, I64 r.amt) (party cur period : Int) (v : Value) (w : World) (hN : IsRow 9 rwF w v l) :
    Calls Tryz.prog 9 #[v, .int .i64 party, .int .i64 cur, .int .i64 period] w fun e w' => e = .returned (.tuple #[.int .i64 (fitN (sumI ((l.filter (foldB party cur period)).map (·.amt)))), .bool (fitB (sumI ((l.filter (foldB party cur period)).map (·.amt))))]) ∧ Later w w' := by
  have HN := Lib.hid hN
  obtain ⟨p, cp, rfl⟩ := hN.form
  clear hN
  have hzw : ∀ x ∈ (l.filter (foldB party cur period)).map (·.amt), I64 x := by
    intro x hx
    obtain ⟨y, hy, rfl⟩ := List.mem_map.1 hx
    exact hw y (List.mem_filter.1 hy).1
  have hzl : ((l.filter (foldB party cur period)).map (·.amt)).length ≤ 100000 := by
    rw [List.length_map]; exact Nat.le_trans (List.length_filter_le _ _) hlen
  have hkl : ∀ k, (((l.take k).filter (foldB party cur period)).map (·.amt)).length ≤ 100000 := fun k => by
    rw [List.length_map]; exact Nat.le_trans (List.length_filter_le _ _) (by rw [List.length_take]; omega)
  have HSUM := Lib.hid (fun u W h => rsum_any _ hzw hzl u W h)
  have HINT := Lib.hid (fun r W h => isum_any _ hzw hzl r W h)
  have HKL := Lib.hid hkl
  clear hzw hzl hkl hw
  obtain ⟨Z, hZ⟩ : ∃ Z, (l.filter (foldB party cur period)).map (·.amt) = Z := ⟨_, rfl⟩
  rw [hZ] at HSUM HINT ⊢
  have HZ := Lib.hid hZ
  clear hZ
  generalize fitN (sumI Z) = n at *
  generalize fitB (sumI Z) = is at *
  obtain ⟨L, hLL⟩ : ∃ L, l.length = L := ⟨_, rfl⟩
  rw [hLL] at HN hlen ⊢
  have HL := Lib.hid hLL
  clear hLL
  go_enter Tryz.func9, Tryz.ntmps9
  go_wp2
  go_loopw [10, 11] (fun s10 s11 wr => ∃ j k : Nat, j ≤ L ∧ s11 = .int .i64 j ∧ Mine w 3 1 wr s10 k ((((l.take j).filter (foldB party cur period)).map (·.amt)).map (Value.int .i64))) (fun _ s11 _ => L - (intOf s11).toNat)
  case atStart => exact ⟨0, 0, Nat.zero_le _, rfl, Mine.nil (Later.refl _)⟩
  case round =>
    obtain ⟨j, k, hj, rfl, hM⟩ := hrel
    have hlat := hM.lat
    have hk := hM.ints.2
    have hkb := HKL.out j
    rw [← hk] at hkb
    obtain ⟨p3, c3, rfl⟩ := hM.form
    have HM := Lib.hid hM
    clear hM hk
    by_cases hlt : j < L
    · have hjl : j < l.length := by rw [HL.out]; exact hlt
      obtain ⟨b, o, cp', hv, hb, g⟩ := HN.out.full (i := j) hjl
      rw [HL.out] at hv
      cases hv
      have HG := Lib.hid (fun W (hl : Later w W) k (hk : k < 9) => ((bcell hl).1 _ _ hb).trans (g k hk))
      have hbz := Nat.lt_of_lt_of_le hb (Later.size hlat)
      have HST := Lib.hid (fold_snoc party cur period l hjl)
      clear g HSUM HINT HN
      generalize l[j] = X at *
      obtain ⟨x0, x1, x2, x3, x4, x5, x6, x7, x8⟩ := X
      simp only [rwF, Rw.nums] at HG
      have g6 := HG.out wr hlat 6 (by omega)
      have g7 := HG.out wr hlat 7 (by omega)
      have g2 := HG.out wr hlat 2 (by omega)
      simp only [List.getD_cons_zero, List.getD_cons_succ] at g6 g7 g2
      have HG8 := Lib.hid (fun W hl => HG.out W hl 8 (by omega))
      simp only [List.getD_cons_zero, List.getD_cons_succ] at HG8
      have HMW := Lib.hid (fun W (h : Later wr W) => HM.out.later h)
      clear HG HM
      have no : foldB party cur period ⟨x0, x1, x2, x3, x4, x5, x6, x7, x8⟩ = false → Hid (((l.take (j + 1)).filter (foldB party cur period)).map (·.amt) = ((l.take j).filter (foldB party cur period)).map (·.amt)) := fun h => Lib.hid (by rw [HST.out, h, if_neg (by simp), List.append_nil])
      have yes : foldB party cur period ⟨x0, x1, x2, x3, x4, x5, x6, x7, x8⟩ = true → Hid (((l.take (j + 1)).filter (foldB party cur period)).map (·.amt) = ((l.take j).filter (foldB party cur period)).map (·.amt) ++ [x8]) := fun h => Lib.hid (by rw [HST.out, h, if_pos rfl])
      have no := Lib.hid no
      have yes := Lib.hid yes
      clear HST
      by_cases h6 : x6 = party
      · subst h6
        by_cases h7 : x7 = cur
        · subst h7
          by_cases h2 : x2 = period
          · subst h2
            have HST := yes.out (by simp [foldB])
            clear yes no
            have g8 := HG8.out wr hlat
            go_wp2_with (at_builtin; go_must (refine wpList_pushAt sliceInt (HMW.out _ (by repeat (first | with_reducible exact Later.refl _ | with_reducible assumption | with_reducible refine Later.ofdrew ?_ | with_reducible refine Later.ofdrewN ?_ | with_reducible refine Later.setCell ?_ ?_ _ | with_reducible refine Later.alloc ?_ _ | with_reducible refine Later.drewN ?_ _ | with_reducible refine Later.drew ?_ | (with_reducible refine Later.trans ?_ (by assumption)) | (simp only [World.size_setCell, World.size_alloc, World.heap_drewN]; omega) | (simp; done) | (simp; omega)))) rfl _ _ rfl rfl 1 _ rfl (by simp) rfl (by simp [Value.oneCell']) (by omega) (by unfold maxLen; omega) ?_; intro v5 w5 hM5 hg5; have hb5 := hM5.lat; obtain ⟨p5, cp5, rfl⟩ := hM5.form))
            go_roundw
            case rel => exact ⟨j + 1, k + 1, by omega, by go_num, by rw [HST.out, List.map_append]; exact hM5⟩
            case measure => simp [intOf]; omega
          · have h2b : (x2 == period) = false := by simpa using h2
            have HST := no.out (by simp [foldB, h2])
            clear yes no h2
            go_wp2
            go_roundw
            case rel => exact ⟨j + 1, k, by omega, by go_num, by rw [HST.out]; exact HMW.out _ (by repeat (first | with_reducible exact Later.refl _ | with_reducible assumption | with_reducible refine Later.ofdrew ?_ | with_reducible refine Later.ofdrewN ?_ | with_reducible refine Later.setCell ?_ ?_ _ | with_reducible refine Later.alloc ?_ _ | with_reducible refine Later.drewN ?_ _ | with_reducible refine Later.drew ?_ | (with_reducible refine Later.trans ?_ (by assumption)) | (simp only [World.size_setCell, World.size_alloc, World.heap_drewN]; omega) | (simp; done) | (simp; omega)))⟩
            case measure => simp [intOf]; omega
        · have h7b : (x7 == cur) = false := by simpa using h7
          have HST := no.out (by simp [foldB, h7])
          clear yes no h7
          go_wp2
          go_roundw
          case rel => exact ⟨j + 1, k, by omega, by go_num, by rw [HST.out]; exact HMW.out _ (by repeat (first | with_reducible exact Later.refl _ | with_reducible assumption | with_reducible refine Later.ofdrew ?_ | with_reducible refine Later.ofdrewN ?_ | with_reducible refine Later.setCell ?_ ?_ _ | with_reducible refine Later.alloc ?_ _ | with_reducible refine Later.drewN ?_ _ | with_reducible refine Later.drew ?_ | (with_reducible refine Later.trans ?_ (by assumption)) | (simp only [World.size_setCell, World.size_alloc, World.heap_drewN]; omega) | (simp; done) | (simp; omega)))⟩
          case measure => simp [intOf]; omega
      · have h6b : (x6 == party) = false := by simpa using h6
        have HST := no.out (by simp [foldB, h6])
        clear yes no h6
        go_wp2
        go_roundw
        case rel => exact ⟨j + 1, k, by omega, by go_num, by rw [HST.out]; exact HMW.out _ (by repeat (first | with_reducible exact Later.refl _ | with_reducible assumption | with_reducible refine Later.ofdrew ?_ | with_reducible refine Later.ofdrewN ?_ | with_reducible refine Later.setCell ?_ ?_ _ | with_reducible refine Later.alloc ?_ _ | with_reducible refine Later.drewN ?_ _ | with_reducible refine Later.drew ?_ | (with_reducible refine Later.trans ?_ (by assumption)) | (simp only [World.size_setCell, World.size_alloc, World.heap_drewN]; omega) | (simp; done) | (simp; omega)))⟩
        case measure => simp [intOf]; omega
    · have hmm := HM.out
      rw [List.take_of_length_le (by rw [HL.out]; omega), HZ.out] at hmm
      have hI := hmm.ints.1
      have hkz := hmm.ints.2
      have HS2 := Lib.hid (fun W (hl : Later wr W) => HSUM.out _ W (hI.later hl))
      clear HM hmm HSUM hI HKL hkz HN
      go_wp2_with (first | (go_at_call 27; go_must (refine (HS2.out _ (by repeat (first | with_reducible exact Later.refl _ | with_reducible assumption | with_reducible refine Later.ofdrew ?_ | with_reducible refine Later.ofdrewN ?_ | with_reducible refine Later.setCell ?_ ?_ _ | with_reducible refine Later.alloc ?_ _ | with_reducible refine Later.drewN ?_ _ | with_reducible refine Later.drew ?_ | (with_reducible refine Later.trans ?_ (by assumption)) | (simp only [World.size_setCell, World.size_alloc, World.heap_drewN]; omega) | (simp; done) | (simp; omega)))).mono ?_; rintro e w4 ⟨r4, rfl, hr4, hb4⟩)) | (go_at_call 26; go_must (refine (HINT.out _ _ hr4).mono ?_; rintro e w5 ⟨rfl, hb5⟩)))
      go_ret2
      exact ⟨rfl, by repeat (first | with_reducible exact Later.refl _ | with_reducible assumption | with_reducible refine Later.ofdrew ?_ | with_reducible refine Later.ofdrewN ?_ | with_reducible refine Later.setCell ?_ ?_ _ | with_reducible refine Later.alloc ?_ _ | with_reducible refine Later.drewN ?_ _ | with_reducible refine Later.drew ?_ | (with_reducible refine Later.trans ?_ (by assumption)) | (simp only [World.size_setCell, World.size_alloc, World.heap_drewN]; omega) | (simp; done) | (simp; omega))⟩

/-- A row's line, by the reference. -/
def refL (x : Rw) (k : Nat) : List UInt8 := Lib.join ((x.nums.take k).map Lib.itoa) [32]
theorem join_snoc (l : List (List UInt8)) (x sep : List UInt8) (h : l ≠ []) : Lib.join (l ++ [x]) sep = Lib.join l sep ++ sep ++ x := by
  induction l with
  | nil => exact absurd rfl h
  | cons y t ih =>
    cases t with
    | nil => simp [Lib.join]
    | cons z u =>
      have := ih (by simp)
      unfold Lib.join at this ⊢
      simp only [List.cons_append, List.intercalate, List.intersperse, List.flatten_cons] at this ⊢
      rw [this]; simp
theorem refL_step (x : Rw) {k : Nat} (h0 : 0 < k) (h : k < 9) : refL x (k + 1) = (refL x k ++ [32]) ++ Lib.itoa (x.nums.getD k 0) := by
  have hl : x.nums.length = 9 := rfl
  unfold refL
  rw [List.take_add_one, List.getElem?_eq_getElem (by omega), Option.toList_some, List.map_append, List.map_singleton, join_snoc _ _ _ (by
    intro e
    have := congrArg List.length e
    simp only [List.length_map, List.length_take, List.length_nil] at this
    omega), List.getD_eq_getElem?_getD, List.getElem?_eq_getElem (by omega)]
  rfl
theorem refL_one (x : Rw) : refL x 1 = [] ++ Lib.itoa (x.nums.getD 0 0) := by simp [refL, Rw.nums, Lib.join]
theorem refL_nine (x : Rw) : refL x 9 ++ [10] = lineL x := rfl
theorem rw_nums_ok {x : Rw} (h : x.ok) {k : Nat} (hk : k < 9) : I64 (x.nums.getD k 0) := by
  obtain ⟨h0, h1, h2, h3, h4, h5, h6, h7, h8⟩ := h
  rcases k with _ | _ | _ | _ | _ | _ | _ | _ | _ | k
  all_goals first | (simp only [Rw.nums, List.getD_cons_zero, List.getD_cons_succ]; assumption) | omega
theorem refL_len {x : Rw} (h : x.ok) : ∀ k, k ≤ 9 → (refL x k).length ≤ 22 * k := by
  intro k
  induction k with
  | zero => intro _; simp [refL, Lib.join]
  | succ k ih =>
    intro hk
    have h1 := itoa_short (rw_nums_ok h (k := k) (by omega))
    have h2 := ih (by omega)
    by_cases h0 : k = 0
    · subst h0; rw [refL_one, List.length_append, List.length_nil]; omega
    · rw [refL_step x (by omega) (by omega), List.length_append, List.length_append, List.length_singleton]; omega

set_option maxHeartbeats 1600000 in
theorem rline_any (x : Rw) (hx : x.ok) (w : World) :
    Calls Tryz.prog 10 #[.agg #[.int .i64 x.no, .int .i64 x.seq, .int .i64 x.per, .int .i64 x.con, .int .i64 x.day, .int .i64 x.ref, .int .i64 x.pty, .int .i64 x.cur, .int .i64 x.amt]] w fun e w' => e = .returned (.string ⟨(lineL x).toArray⟩) ∧ Later w w' := by
  have HL9 := Lib.hid (refL_nine x)
  have HLEN := Lib.hid (fun k hk => refL_len hx k hk)
  have HOK := Lib.hid (fun k (hk : k < 9) => rw_nums_ok hx hk)
  have HST := Lib.hid (fun k h0 (hk : k < 9) => refL_step x (k := k) h0 hk)
  have HS1 := Lib.hid (refL_one x)
  have HCS : Hid (∀ k, k < 9 → #[Value.int .i64 x.no, .int .i64 x.seq, .int .i64 x.per, .int .i64 x.con, .int .i64 x.day, .int .i64 x.ref, .int .i64 x.pty, .int .i64 x.cur, .int .i64 x.amt][k]? = some (.int .i64 (x.nums.getD k 0))) := Lib.hid (fun k hk => by
    rcases k with _ | _ | _ | _ | _ | _ | _ | _ | _ | k
    all_goals first | rfl | omega)
  have HX : ∃ (A : Array Value), Hid (#[Value.int .i64 x.no, .int .i64 x.seq, .int .i64 x.per, .int .i64 x.con, .int .i64 x.day, .int .i64 x.ref, .int .i64 x.pty, .int .i64 x.cur, .int .i64 x.amt] = A) := ⟨_, Lib.hid rfl⟩
  clear hx
  go_enter Tryz.func10, Tryz.ntmps10
  go_upto_region 1 with (fail)
  refine wp_opaque (fun W1 hb1 => ?_)
  have hO := Own.one hb1
  have hw1 := hb1.un1
  have HO := Lib.hid (fun W (hl : Later W1 W) k (hk : k < 9) => ((hO.later hl).1.2.1 k).trans (HCS.out k hk))
  have hz := hO.1.1
  clear hO hb1 HCS
  go_wp2
  go_loopw [3, 4] (fun s3 s4 wr => ∃ k : Nat, k ≤ 9 ∧ s4 = .int .i64 k ∧ s3 = .string ⟨(refL x k).toArray⟩ ∧ Later W1 wr) (fun _ s4 _ => 9 - (intOf s4).toNat)
  case atStart => exact ⟨0, by omega, rfl, rfl, Later.refl _⟩
  case round =>
    obtain ⟨k, hk, rfl, rfl, hlat⟩ := hrel
    have hln := HLEN.out k hk
    by_cases hlt : k < 9
    · have c0 := HO.out wr hlat k hlt
      have hkI : (k : Int) < 9 := by omega
      have hz2 := Nat.lt_of_lt_of_le hz (Later.size hlat)
      have hi := HOK.out k hlt
      have HD := Lib.hid (fun W => rdec20_any (x.nums.getD k 0) hi W)
      have hln2 := itoa_short hi
      obtain ⟨S2, hS2⟩ : ∃ S, ByteArray.mk (Lib.itoa (x.nums.getD k 0)).toArray = S := ⟨_, rfl⟩
      have hl2 : S2.size ≤ 21 := by rw [← hS2, ba_len]; exact hln2
      by_cases h0 : 0 < k
      · have h0' : (0 : Int) < k := by omega
        have HE : Hid (ByteArray.mk (refL x k).toArray ++ ⟨#[32]⟩ ++ S2 = ⟨(refL x (k + 1)).toArray⟩) := Lib.hid (by rw [HST.out k h0 hlt, ← ba_app, ← ba_app, hS2])
        obtain ⟨S1, hS1⟩ : ∃ S, ByteArray.mk (refL x k).toArray = S := ⟨_, rfl⟩
        have hl1 : S1.size ≤ 200 := by rw [← hS1, ba_len]; omega
        have hsz : (⟨#[32]⟩ : ByteArray).size = 1 := rfl
        have hsz2 : (S1 ++ ⟨#[32]⟩).size = S1.size + 1 := by rw [ByteArray.size_append]; rfl
        rw [hS2] at HD
        rw [hS1] at HE ⊢
        clear HLEN HOK HST HS1 HO hln hln2 hi hS2 hS1
        generalize x.nums.getD k 0 = N at *
        go_wp2_with (go_at_call 28; go_must (refine (HD.out _).mono ?_; rintro e w4 ⟨rfl, hb4⟩))
        go_roundw
        case rel => exact ⟨k + 1, by omega, by go_num, by rw [HE.out], by repeat (first | with_reducible exact Later.refl _ | with_reducible assumption | with_reducible refine Later.ofdrew ?_ | with_reducible refine Later.ofdrewN ?_ | with_reducible refine Later.setCell ?_ ?_ _ | with_reducible refine Later.alloc ?_ _ | with_reducible refine Later.drewN ?_ _ | with_reducible refine Later.drew ?_ | (with_reducible refine Later.trans ?_ (by assumption)) | (simp only [World.size_setCell, World.size_alloc, World.heap_drewN]; omega) | (simp; done) | (simp; omega))⟩
        case measure => simp [intOf]; omega
      · have h0' : ¬ ((0 : Int) < k) := by omega
        have HE : Hid (ByteArray.mk (refL x k).toArray ++ S2 = ⟨(refL x (k + 1)).toArray⟩) := Lib.hid (by
          have hk0 : k = 0 := by omega
          subst hk0
          rw [HS1.out, ← ba_app, hS2]; rfl)
        obtain ⟨S1, hS1⟩ : ∃ S, ByteArray.mk (refL x k).toArray = S := ⟨_, rfl⟩
        have hl1 : S1.size ≤ 200 := by rw [← hS1, ba_len]; omega
        rw [hS2] at HD
        rw [hS1] at HE ⊢
        clear HLEN HOK HST HS1 HO hln hln2 hi hS2 hS1
        generalize x.nums.getD k 0 = N at *
        go_wp2_with (go_at_call 28; go_must (refine (HD.out _).mono ?_; rintro e w4 ⟨rfl, hb4⟩))
        go_roundw
        case rel => exact ⟨k + 1, by omega, by go_num, by rw [HE.out], by repeat (first | with_reducible exact Later.refl _ | with_reducible assumption | with_reducible refine Later.ofdrew ?_ | with_reducible refine Later.ofdrewN ?_ | with_reducible refine Later.setCell ?_ ?_ _ | with_reducible refine Later.alloc ?_ _ | with_reducible refine Later.drewN ?_ _ | with_reducible refine Later.drew ?_ | (with_reducible refine Later.trans ?_ (by assumption)) | (simp only [World.size_setCell, World.size_alloc, World.heap_drewN]; omega) | (simp; done) | (simp; omega))⟩
        case measure => simp [intOf]; omega
    · have hk9 : k = 9 := by omega
      subst hk9
      have HE : Hid (ByteArray.mk (refL x 9).toArray ++ ⟨#[10]⟩ = ⟨(lineL x).toArray⟩) := Lib.hid (by rw [← HL9.out, ← ba_app])
      obtain ⟨S1, hS1⟩ : ∃ S, ByteArray.mk (refL x 9).toArray = S := ⟨_, rfl⟩
      have hl1 : S1.size ≤ 200 := by rw [← hS1, ba_len]; omega
      have hsz : (⟨#[10]⟩ : ByteArray).size = 1 := rfl
      rw [hS1] at HE ⊢
      clear HLEN HOK HST HS1 HO hln HL9 hS1
      go_wp2
      go_ret
      exact ⟨ret_str HE.out, hw1.trans hlat⟩
end Go.Proofs.YtckeaibamgkegaaGreatDoor
end
section
/- audit's reference: words for own, back -/
namespace Go.Proofs.YtckeaibamgkegaaGreatDoor
open Go.RowKit
set_option maxRecDepth 100000

/-- The first k numbers of two rows are the same, but for the seventh. -/
def eqTo (x y : Rw) (k : Nat) : Bool := (List.range k).all fun j => decide (j = 6) || decide (x.nums.getD j 0 = y.nums.getD j 0)
theorem eqTo_zero (x y : Rw) : eqTo x y 0 = true := rfl
theorem eqTo_step (x y : Rw) (k : Nat) : eqTo x y (k + 1) = (eqTo x y k && (decide (k = 6) || decide (x.nums.getD k 0 = y.nums.getD k 0))) := by
  unfold eqTo
  rw [List.range_succ, List.all_append]; simp
theorem eqTo_eight (x y : Rw) : eqTo x y 8 = decide (x.head = y.head) := by
  obtain ⟨a0, a1, a2, a3, a4, a5, a6, a7, a8⟩ := x
  obtain ⟨b0, b1, b2, b3, b4, b5, b6, b7, b8⟩ := y
  rw [Bool.eq_iff_iff]
  unfold eqTo Rw.head Rw.nums
  simp [List.range, List.range.loop]
  try omega
/-- The form of an entry's first k rows. -/
def formTo (g : List Rw) (n : Nat) (k : Nat) : Bool := decide ((hd g).no = n) && (g.take k).all (fun r => decide (r.head = (hd g).head))
theorem formTo_step {g : List Rw} {n k : Nat} (h : k < g.length) : formTo g n (k + 1) = (formTo g n k && eqTo g[k] (hd g) 8) := by
  unfold formTo
  rw [List.take_add_one, List.getElem?_eq_getElem h, Option.toList_some, List.all_append, eqTo_eight, Bool.and_assoc]
  simp
theorem formTo_all {gs : List (List Rw)} {n : Nat} (h : n < gs.length) : formTo gs[n] n gs[n].length = true ↔ ¬ ((hd (gs.getD n [])).no ≠ n ∨ (gs.getD n []).any (fun r => decide (r.head ≠ (hd (gs.getD n [])).head))) := by
  unfold formTo
  rw [getD_at h, List.take_length, Bool.and_eq_true, decide_eq_true_eq, List.all_eq_true, not_or, Bool.not_eq_true, List.any_eq_false]
  simp
theorem ownG_form {gs : List (List Rw)} {n : Nat} (h : n < gs.length) (hf : formTo gs[n] n gs[n].length = false) : ownG gs n = 13 := by
  unfold ownG
  rw [if_pos]
  refine Decidable.of_not_not (fun hc => ?_)
  rw [(formTo_all h).2 hc] at hf
  cases hf
theorem ownG_rest {gs : List (List Rw)} {n : Nat} (h : n < gs.length) (hf : formTo gs[n] n gs[n].length = true) :
    ownG gs n = if 0 < n ∧ (hd (gs.getD n [])).seq < (hd (gs.getD (n - 1) [])).seq then 24 else if sumI ((gs.getD n []).map (·.amt)) ≠ 0 then 20 else 0 := by
  unfold ownG
  rw [if_neg ((formTo_all h).1 hf)]
theorem hd_zero {g : List Rw} (h : 0 < g.length) : hd g = g[0] := by cases g with | nil => simp at h | cons x t => rfl
def rw0 : Rw := ⟨0, 0, 0, 0, 0, 0, 0, 0, 0⟩
/-- Rows as the reference's loops read them. -/
theorem rows_cells {l : List Rw} {v : Value} {w : World} (h : IsRow 9 rwF w v l) (h0 : 0 < l.length) : ∃ b o cap, v = .slice (some ⟨b, o, none⟩) l.length cap ∧ b < w.heap.size ∧
    ∀ W, Later w W → ∀ i, i < l.length → ∀ j, j < 9 → W.cell? ⟨b, o + i * 9 + j, none⟩ = some (.int .i64 ((l.getD i rw0).nums.getD j 0)) := by
  obtain ⟨b, o, cap, e1, e2, e3⟩ := h.full h0
  refine ⟨b, o, cap, e1, e2, fun W hl i hi j hj => ?_⟩
  obtain ⟨b', o', cap', f1, f2, f3⟩ := h.full hi
  rw [e1] at f1
  cases f1
  rw [((bcell hl).1 _ _ e2), f3 j hj, getD_at hi]
  rfl
theorem ints_cells {l : List Int} {v : Value} {w : World} (h : IsInts w v l) (h0 : 0 < l.length) : ∃ b o cap, v = .slice (some ⟨b, o, none⟩) l.length cap ∧ b < w.heap.size ∧
    ∀ W, Later w W → ∀ i, i < l.length → W.cell? ⟨b, o + i, none⟩ = some (.int .i64 (l.getD i 0)) := by
  obtain ⟨b, o, cap, e1, e2, e3⟩ := h.full h0
  refine ⟨b, o, cap, e1, e2, fun W hl i hi => ?_⟩
  obtain ⟨b', o', cap', f1, f2, f3⟩ := h.full hi
  rw [e1] at f1
  cases f1
  rw [((bcell hl).1 _ _ e2), f3, getD_at hi]
theorem group_rows (l : List Rw) {n : Nat} (hn : n < (groups l).length) : offG (groups l) (n + 1) = offG (groups l) n + ((groups l)[n]).length ∧ hd ((groups l)[n]) = l.getD (offG (groups l) n) rw0 ∧
    ∀ i, offG (groups l) n ≤ i → i < offG (groups l) (n + 1) → ∃ h : i - offG (groups l) n < ((groups l)[n]).length, ((groups l)[n])[i - offG (groups l) n] = l.getD i rw0 := by
  have e1 := offG_succ hn
  have hne := (parted_groups l).ne _ (List.getElem_mem hn)
  have h0 : 0 < ((groups l)[n]).length := List.length_pos_iff.2 hne
  refine ⟨e1, ?_, fun i h1 h2 => ?_⟩
  · have := groups_get l hn h0
    rw [Nat.add_zero] at this
    rw [hd_zero h0, List.getD_eq_getElem?_getD, this]; rfl
  · have hk : i - offG (groups l) n < ((groups l)[n]).length := by omega
    refine ⟨hk, ?_⟩
    have := groups_get l hn hk
    rw [show offG (groups l) n + (i - offG (groups l) n) = i by omega] at this
    rw [List.getD_eq_getElem?_getD, this]; rfl
end Go.Proofs.YtckeaibamgkegaaGreatDoor
end
