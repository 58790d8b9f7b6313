/- audit.Print: which text rows are -/
import Derived.Test.YtpblfheeeifjcaaDoorAudA
import Derived.Test.YtpblfheeeifjcaaDoorStr
set_option linter.all false
namespace Go.Proofs.YtpblfheeeifjcaaDoor
open Go.RowKit
set_option maxRecDepth 100000

/-- A row's line. -/
def lineL (x : Rw) : List UInt8 := Lib.join (x.nums.map Lib.itoa) [32] ++ [10]
def textL (l : List Rw) : List UInt8 := l.flatMap lineL
theorem lineL_len {x : Rw} (h : x.ok) : (lineL x).length ≤ 200 := by
  obtain ⟨h0, h1, h2, h3, h4, h5, h6, h7, h8⟩ := h
  unfold I64 at *
  have e0 := Lib.itoa_length_le x.no h0.1 h0.2
  have e1 := Lib.itoa_length_le x.seq h1.1 h1.2
  have e2 := Lib.itoa_length_le x.per h2.1 h2.2
  have e3 := Lib.itoa_length_le x.con h3.1 h3.2
  have e4 := Lib.itoa_length_le x.day h4.1 h4.2
  have e5 := Lib.itoa_length_le x.ref h5.1 h5.2
  have e6 := Lib.itoa_length_le x.pty h6.1 h6.2
  have e7 := Lib.itoa_length_le x.cur h7.1 h7.2
  have e8 := Lib.itoa_length_le x.amt h8.1 h8.2
  unfold lineL Rw.nums Lib.join
  simp only [List.map_cons, List.map_nil, List.intercalate, List.intersperse, List.flatten_cons, List.flatten_nil, List.length_append, List.length_cons, List.length_nil]
  omega
theorem textL_len : ∀ {l : List Rw}, (∀ r ∈ l, r.ok) → (textL l).length ≤ 200 * l.length
  | [], _ => by simp [textL]
  | x :: r, h => by
    have h1 := lineL_len (h x (by simp))
    have h2 := textL_len (l := r) (fun y hy => h y (by simp [hy]))
    unfold textL at h2 ⊢
    rw [List.flatMap_cons, List.length_append, List.length_cons]
    omega
theorem textL_step {l : List Rw} {j : Nat} (h : j < l.length) : textL (l.take (j + 1)) = textL (l.take j) ++ lineL l[j] := by
  unfold textL
  rw [List.take_add_one, List.getElem?_eq_getElem h, Option.toList_some, List.flatMap_append, List.flatMap_singleton]


theorem num_build (r0 r1 r2 r3 r4 r5 r6 r7 r8 : Int) (w : World) :
    (Instr.buildSlice 45 9 #[(0, .int .i64 r0), (1, .int .i64 r1), (2, .int .i64 r2), (3, .int .i64 r3), (4, .int .i64 r4), (5, .int .i64 r5), (6, .int .i64 r6), (7, .int .i64 r7), (8, .int .i64 r8)]).run Tryd.prog w = .ok (.slice (some ⟨w.heap.size, 0, none⟩) 9 9) (w.alloc (.cells #[.int .i64 r0, .int .i64 r1, .int .i64 r2, .int .i64 r3, .int .i64 r4, .int .i64 r5, .int .i64 r6, .int .i64 r7, .int .i64 r8] 3)) := by kernel_rfl

set_option maxHeartbeats 1600000 in
theorem numbers_any (r0 r1 r2 r3 r4 r5 r6 r7 r8 : Int) (w : World) :
    Calls Tryd.prog 35 #[.agg #[.int .i64 r0, .int .i64 r1, .int .i64 r2, .int .i64 r3, .int .i64 r4, .int .i64 r5, .int .i64 r6, .int .i64 r7, .int .i64 r8]] w fun e w' => ∃ b, e = .returned (.slice (some ⟨b, 0, none⟩) 9 9) ∧ IsInts w' (.slice (some ⟨b, 0, none⟩) 9 9) [r0, r1, r2, r3, r4, r5, r6, r7, r8] ∧ Later w w' := by
  go_enter Tryd.func35, Tryd.ntmps35
  go_wp2_with (refine wpList_builtS (num_build _ _ _ _ _ _ _ _ _) rfl rfl rfl ?_)
  go_ret
  refine ⟨_, rfl, ?_, by repeat (first | with_reducible exact Later.refl _ | with_reducible assumption | with_reducible refine Later.ofdrew ?_ | with_reducible refine Later.ofdrewN ?_ | with_reducible refine Later.setCell ?_ ?_ _ | with_reducible refine Later.alloc ?_ _ | with_reducible refine Later.drewN ?_ _ | with_reducible refine Later.drew ?_ | (with_reducible refine Later.trans ?_ (by assumption)) | (simp only [World.size_setCell, World.size_alloc, World.heap_drewN]; omega) | (simp; done) | (simp; omega))⟩
  have hM := Mine.lit (w0 := w.alloc (.cells #[.int .i64 r0, .int .i64 r1, .int .i64 r2, .int .i64 r3, .int .i64 r4, .int .i64 r5, .int .i64 r6, .int .i64 r7, .int .i64 r8] 39)) (w := w.alloc (.cells #[.int .i64 r0, .int .i64 r1, .int .i64 r2, .int .i64 r3, .int .i64 r4, .int .i64 r5, .int .i64 r6, .int .i64 r7, .int .i64 r8] 39)) (e := 3) (sz := 1) (n := 9) (cur := #[.int .i64 r0, .int .i64 r1, .int .i64 r2, .int .i64 r3, .int .i64 r4, .int .i64 r5, .int .i64 r6, .int .i64 r7, .int .i64 r8]) (Later.refl _) rfl (by decide)
  have h := (Mine.ints (zs := [r0, r1, r2, r3, r4, r5, r6, r7, r8]) hM).1
  simp only [World.size_alloc] at h
  exact h

set_option maxHeartbeats 4000000 in
theorem print_any (l : List Rw) (hlen : l.length ≤ 100000) (hro : ∀ r ∈ l, r.ok) (v : Value) (w : World) (hN : IsRow 9 rwF w v l) (htab : PowTab w) :
    Calls Tryd.prog 21 #[v] w fun e w' => e = .returned (.string ⟨(textL l).toArray⟩) ∧ Later w w' := by
  have HT := Lib.hid htab
  have HN := Lib.hid hN
  obtain ⟨p, cp, rfl⟩ := hN.form
  clear hN htab
  have HRO := Lib.hid hro
  clear hro
  obtain ⟨L, hLL⟩ : ∃ L, l.length = L := ⟨_, rfl⟩
  rw [hLL] at HN hlen ⊢
  have HL := Lib.hid hLL
  clear hLL
  go_enter Tryd.func21, Tryd.ntmps21
  go_upto_region 2 with (fail)
  refine wp_opaque (fun W1 hb1 => ?_)
  have hB1 := Lib.hid (builder_new (by repeat (first | with_reducible exact Later.refl _ | with_reducible assumption | with_reducible refine Later.ofdrew ?_ | with_reducible refine Later.ofdrewN ?_ | with_reducible refine Later.setCell ?_ ?_ _ | with_reducible refine Later.alloc ?_ _ | with_reducible refine Later.drewN ?_ _ | with_reducible refine Later.drew ?_ | (with_reducible refine Later.trans ?_ (by assumption)) | (simp only [World.size_setCell, World.size_alloc, World.heap_drewN]; omega) | (simp; done) | (simp; omega))) (block_later (heap_alloc_new w _) hb1) : Lib.IsBuilderF 86 5 w.heap.size w.heap.size (Lib.byteCells (textL (l.take 0))) W1)
  have hw1 := hb1.un1
  clear hb1
  go_wp2
  go_loopw [11] (fun s11 wr => ∃ j : Nat, j ≤ L ∧ s11 = .int .i64 j ∧ Hid (Lib.IsBuilderF 86 5 w.heap.size w.heap.size (Lib.byteCells (textL (l.take j))) wr) ∧ Later w wr) (fun s11 _ => L - (intOf s11).toNat)
  case atStart => exact ⟨0, Nat.zero_le _, rfl, hB1, hw1⟩
  case round =>
    obtain ⟨j, hj, rfl, hB, hlat⟩ := hrel
    clear hB1 hw1
    by_cases hlt : j < L
    · have hjl : j < l.length := by rw [HL.out]; exact hlt
      obtain ⟨b, o, cp', hv, hb, g⟩ := HN.out.full (i := j) hjl
      rw [HL.out] at hv
      cases hv
      replace g := fun k (hk : k < 9) => ((bcell hlat).1 _ _ hb).trans (g k hk)
      have g0 := g 0 (by omega)
      have g1 := g 1 (by omega)
      have g2 := g 2 (by omega)
      have g3 := g 3 (by omega)
      have g4 := g 4 (by omega)
      have g5 := g 5 (by omega)
      have g6 := g 6 (by omega)
      have g7 := g 7 (by omega)
      have g8 := g 8 (by omega)
      simp only [rwF, Rw.nums, List.getD_cons_zero, List.getD_cons_succ, Nat.add_zero] at g0 g1 g2 g3 g4 g5 g6 g7 g8
      have hbz := Nat.lt_of_lt_of_le hb (Later.size hlat)
      have hok := HRO.out _ (List.getElem_mem hjl)
      have hstep := Lib.hid (textL_step hjl)
      have hlenT : (textL (l.take j)).length ≤ 200 * 100000 := by
        have h1 := textL_len (l := l.take j) (fun r hr => HRO.out r (List.mem_of_mem_take hr))
        rw [List.length_take] at h1
        omega
      have hlenX := lineL_len hok
      clear g HN HRO HL
      generalize textL (l.take j) = T at *
      generalize l[j] = X at *
      obtain ⟨x0, x1, x2, x3, x4, x5, x6, x7, x8⟩ := X
      simp only at g0 g1 g2 g3 g4 g5 g6 g7 g8
      have hnI : ∀ i (h : i < [x0, x1, x2, x3, x4, x5, x6, x7, x8].length), I64 [x0, x1, x2, x3, x4, x5, x6, x7, x8][i] := by
        obtain ⟨o0, o1, o2, o3, o4, o5, o6, o7, o8⟩ := hok
        intro i h
        simp only [List.length_cons, List.length_nil] at h
        rcases i with _ | _ | _ | _ | _ | _ | _ | _ | _ | i
        all_goals first | (simp only [List.getElem_cons_zero, List.getElem_cons_succ]; assumption) | omega
      have HNI := Lib.hid hnI
      have hlin : Hid (lineL ⟨x0, x1, x2, x3, x4, x5, x6, x7, x8⟩ = Lib.join ([x0, x1, x2, x3, x4, x5, x6, x7, x8].map Lib.itoa) [32] ++ [10]) := Lib.hid rfl
      rw [hlin.out] at hlenX hstep
      have HNUM := Lib.hid (fun W => numbers_any x0 x1 x2 x3 x4 x5 x6 x7 x8 W)
      clear hok hnI hlin
      go_upto_region 7 with (go_at_call 35; go_must (refine (HNUM.out _).mono ?_; rintro e w2 ⟨bn, rfl, hI2, hb2⟩))
      refine wp_opaque (fun W3 hb3 => ?_)
      have HI3 := Lib.hid (hI2.later hb3)
      have hw3 : Later wr W3 := Later.trans (by repeat (first | with_reducible exact Later.refl _ | with_reducible assumption | with_reducible refine Later.ofdrew ?_ | with_reducible refine Later.ofdrewN ?_ | with_reducible refine Later.setCell ?_ ?_ _ | with_reducible refine Later.alloc ?_ _ | with_reducible refine Later.drewN ?_ _ | with_reducible refine Later.drew ?_ | (with_reducible refine Later.trans ?_ (by assumption)) | (simp only [World.size_setCell, World.size_alloc, World.heap_drewN]; omega) | (simp; done) | (simp; omega))) hb3
      obtain ⟨NL, hNL⟩ : ∃ n, [x0, x1, x2, x3, x4, x5, x6, x7, x8] = n := ⟨_, rfl⟩
      have hNn : NL.length = 9 := by rw [← hNL]; rfl
      rw [hNL] at HI3 HNI hlenX hstep
      have hNn := Lib.hid hNn
      clear hb3 hI2 hNL HNUM g0 g1 g2 g3 g4 g5 g6 g7 g8
      go_loopw [6, 18] (fun s6 s18 wr => ∃ i : Nat, i ≤ 9 ∧ s18 = .int .i64 i ∧ Mine W3 9 1 wr s6 i ((NL.take i).map (fun n => Value.string ⟨(Lib.itoa n).toArray⟩))) (fun _ s18 _ => 9 - (intOf s18).toNat)
      case atStart => exact ⟨0, by omega, rfl, Mine.nil (Later.refl _)⟩
      case round =>
        obtain ⟨i, hi, rfl, hM⟩ := hrel
        have hlq := hM.lat
        obtain ⟨p6, cp6, rfl⟩ := hM.form
        have HM := Lib.hid hM
        clear hM
        by_cases hit : i < 9
        · have hin : i < NL.length := by rw [hNn.out]; exact hit
          obtain ⟨bb, oo, cc, hv, hbb, gi⟩ := HI3.out.full hin
          rw [hNn.out] at hv
          cases hv
          have gi' := ((bcell hlq).1 _ _ hbb).trans gi
          simp only [Nat.zero_add] at gi'
          have hbbz := Nat.lt_of_lt_of_le hbb (Later.size hlq)
          have hii := HNI.out i hin
          have HIT := Lib.hid (fun W (hl : Later wr W) => itoa_any NL[i] hii W (HT.out.later ((hlat.trans hw3).trans (hlq.trans hl))))
          have hstp : Hid ((NL.take (i + 1)).map (fun n => Value.string ⟨(Lib.itoa n).toArray⟩) = (NL.take i).map (fun n => Value.string ⟨(Lib.itoa n).toArray⟩) ++ [Value.string ⟨(Lib.itoa NL[i]).toArray⟩]) := Lib.hid (by
            rw [List.take_add_one, List.getElem?_eq_getElem hin, Option.toList_some, List.map_append]; rfl)
          have HMW := Lib.hid (fun W (h : Later wr W) => HM.out.later h)
          clear gi hii HM HNI
          generalize NL[i] = N at *
          generalize (⟨(Lib.itoa N).toArray⟩ : ByteArray) = S at *
          go_wp2_with (first | (go_at_call 36; go_must (refine (HIT.out _ (by repeat (first | with_reducible exact Later.refl _ | with_reducible assumption | with_reducible refine Later.ofdrew ?_ | with_reducible refine Later.ofdrewN ?_ | with_reducible refine Later.setCell ?_ ?_ _ | with_reducible refine Later.alloc ?_ _ | with_reducible refine Later.drewN ?_ _ | with_reducible refine Later.drew ?_ | (with_reducible refine Later.trans ?_ (by assumption)) | (simp only [World.size_setCell, World.size_alloc, World.heap_drewN]; omega) | (simp; done) | (simp; omega)))).mono ?_; rintro e w4 ⟨rfl, hb4⟩)) | (at_builtin; go_must (refine wpList_pushAt sliceStr (HMW.out _ (by repeat (first | with_reducible exact Later.refl _ | with_reducible assumption | with_reducible refine Later.ofdrew ?_ | with_reducible refine Later.ofdrewN ?_ | with_reducible refine Later.setCell ?_ ?_ _ | with_reducible refine Later.alloc ?_ _ | with_reducible refine Later.drewN ?_ _ | with_reducible refine Later.drew ?_ | (with_reducible refine Later.trans ?_ (by assumption)) | (simp only [World.size_setCell, World.size_alloc, World.heap_drewN]; omega) | (simp; done) | (simp; omega)))) rfl _ _ rfl rfl 1 _ rfl (by simp) rfl (by simp [Value.oneCell']) (by omega) (by unfold maxLen; omega) ?_; intro v5 w5 hM5 hg5; have hb5 := hM5.lat; obtain ⟨p5, cp5, rfl⟩ := hM5.form)))
          go_roundw
          case rel => exact ⟨i + 1, by omega, by go_num, by rw [hstp.out]; exact hM5⟩
          case measure => simp [intOf]; omega
        · have hi9 : i = 9 := by omega
          subst hi9
          have hmm := HM.out
          rw [List.take_of_length_le (by rw [hNn.out]; omega)] at hmm
          have hB3 := builder_later hB.out (hw3.trans hlq)
          have HJ := Lib.hid (join_any NL 9 hNn.out.symm (by omega) (by have := hlenX; rw [List.length_append] at this; omega) hmm)
          have hlenX' := hlenX
          clear HM hmm hlenX
          obtain ⟨S, hS⟩ : ∃ S, Lib.join (NL.map Lib.itoa) [32] = S := ⟨_, rfl⟩
          simp only [hS] at HJ hlenX' hstep
          have hsc : Hid (Lib.byteCells T ++ Lib.strCells (ByteArray.mk S.toArray ++ ⟨#[10]⟩) = Lib.byteCells (textL (l.take (j + 1)))) := Lib.hid (by rw [hstep.out]; exact byteCells_str T S)
          have HWS := Lib.hid (fun W (hl : Later wr W) => write_any w.heap.size w.heap.size T (ByteArray.mk S.toArray ++ ⟨#[10]⟩) W (builder_later hB3 hl) (by rw [ba_app_size, ba_mk_size, show (⟨#[10]⟩ : ByteArray).size = 1 from rfl]; rw [List.length_append] at hlenX'; simp at hlenX'; omega) (Later.size ((hlat.trans hw3).trans (hlq.trans hl))))
          have hsz : ¬ (9223372036854775807 < (ByteArray.mk S.toArray).size + 1) := by rw [ba_mk_size]; rw [List.length_append] at hlenX'; simp at hlenX'; omega
          clear hS hB3 hstep hB hlenX' hlenT HT HNI HI3
          generalize (ByteArray.mk S.toArray) = S2 at *
          go_wp2_with (first | (go_at_call 38; go_must (refine (HJ.out _ (by repeat (first | with_reducible exact Later.refl _ | with_reducible assumption | with_reducible refine Later.ofdrew ?_ | with_reducible refine Later.ofdrewN ?_ | with_reducible refine Later.setCell ?_ ?_ _ | with_reducible refine Later.alloc ?_ _ | with_reducible refine Later.drewN ?_ _ | with_reducible refine Later.drew ?_ | (with_reducible refine Later.trans ?_ (by assumption)) | (simp only [World.size_setCell, World.size_alloc, World.heap_drewN]; omega) | (simp; done) | (simp; omega)))).mono ?_; rintro e w4 ⟨rfl, hb4⟩)) | (go_at_call 37; go_must (refine (HWS.out _ (by repeat (first | with_reducible exact Later.refl _ | with_reducible assumption | with_reducible refine Later.ofdrew ?_ | with_reducible refine Later.ofdrewN ?_ | with_reducible refine Later.setCell ?_ ?_ _ | with_reducible refine Later.alloc ?_ _ | with_reducible refine Later.drewN ?_ _ | with_reducible refine Later.drew ?_ | (with_reducible refine Later.trans ?_ (by assumption)) | (simp only [World.size_setCell, World.size_alloc, World.heap_drewN]; omega) | (simp; done) | (simp; omega)))).mono ?_; rintro e w6 ⟨rfl, hB6, hb6⟩)))
          go_roundw
          case rel => exact ⟨j + 1, by omega, by go_num, Lib.hid (by rw [← hsc.out]; exact hB6), Below.trans (Later.trans ((hlat.trans hw3).trans hlq) (by repeat (first | with_reducible exact Later.refl _ | with_reducible assumption | with_reducible refine Later.ofdrew ?_ | with_reducible refine Later.ofdrewN ?_ | with_reducible refine Later.setCell ?_ ?_ _ | with_reducible refine Later.alloc ?_ _ | with_reducible refine Later.drewN ?_ _ | with_reducible refine Later.drew ?_ | (with_reducible refine Later.trans ?_ (by assumption)) | (simp only [World.size_setCell, World.size_alloc, World.heap_drewN]; omega) | (simp; done) | (simp; omega)))) hb6⟩
          case measure => simp [intOf]; omega
    · have hBe := hB.out
      rw [List.take_of_length_le (by rw [HL.out]; omega)] at hBe
      have HST := Lib.hid (Tryd.Builder_String_any_f w.heap.size w.heap.size (textL l) wr hBe (Later.size hlat))
      clear hB hBe HN HRO
      go_wp2_with (go_at_call 39; go_must (refine HST.out.mono ?_; rintro e w7 ⟨rfl, -, hb7⟩))
      go_ret
      exact ⟨rfl, Below.trans hlat hb7⟩
end Go.Proofs.YtpblfheeeifjcaaDoor
