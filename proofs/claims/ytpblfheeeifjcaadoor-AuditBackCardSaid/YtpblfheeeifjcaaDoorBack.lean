/- AuditBack: its walk -/
import Derived.Test.YtpblfheeeifjcaaDoorARw
set_option linter.all false
namespace Go.Proofs.YtpblfheeeifjcaaDoor
open Go.RowKit
set_option maxRecDepth 100000

/-- The live entries. -/
def liveB (es : List En) (no : Nat) : Bool := !(getA (byL es) (no : Int)).isSome && decide ((es.getD no ⟨0, 0, 0, 0, 0, 0, []⟩).ref = -1)
def liveL (es : List En) (n : Nat) : List Nat := (List.range n).filter (liveB es)
theorem liveL_succ (es : List En) (n : Nat) : liveL es (n + 1) = liveL es n ++ (if liveB es n = true then [n] else []) := by
  unfold liveL
  rw [List.range_succ, List.filter_append]
  congr 1
  simp only [List.filter_cons, List.filter_nil]
theorem live_len (es : List En) (n : Nat) : (liveL es n).length ≤ n := by
  unfold liveL
  have := List.length_filter_le (liveB es) (List.range n)
  rw [List.length_range] at this
  exact this
theorem live_of {es : List En} {k : Nat} (h : k ∈ liveL es es.length) : ∃ hk : k < es.length, es[k].ref = -1 ∧ ∀ j (hj : j < es.length), es[j].ref ≠ k := by
  unfold liveL at h
  obtain ⟨h1, h2⟩ := List.mem_filter.1 h
  have hk := List.mem_range.1 h1
  unfold liveB at h2
  rw [Bool.and_eq_true, getD_at hk, decide_eq_true_eq] at h2
  refine ⟨hk, h2.2, fun j hj e => ?_⟩
  have h3 := by_some (es := es) (r := (k : Int)) (by omega)
  have h4 : (getA (byL es) (k : Int)).isSome = false := by simpa using h2.1
  rw [h4] at h3
  have h5 := List.any_eq_false.1 h3.symm es[j] (List.getElem_mem hj)
  exact h5 (by simpa using e)
def atNo (k : Nat) (r : Rw) : Bool := decide (r.no = (k : Int))
def filJ (R : List Rw) (k i : Nat) : List Rw := (R.take i).filter (atNo k)
theorem filJ_succ {R : List Rw} {k i : Nat} (h : i < R.length) : filJ R k (i + 1) = filJ R k i ++ (if atNo k R[i] = true then [R[i]] else []) := by
  unfold filJ
  rw [List.take_add_one, List.getElem?_eq_getElem h, Option.toList_some, List.filter_append]
  congr 1
  simp only [List.filter_cons, List.filter_nil]
theorem filJ_len (R : List Rw) (k i : Nat) : (filJ R k i).length ≤ i := by
  unfold filJ
  have := List.length_filter_le (atNo k) (R.take i)
  rw [List.length_take] at this
  omega
theorem back_more {es : List En} (hI : Inv es) {k : Nat} (hk : k < es.length) : rowsL es ++ (filJ (rowsL es) k (rowsL es).length).map (turnR es es.length k) = rowsL (es ++ [revE es k es[k]]) := by
  unfold filJ
  rw [List.take_length, rowsL_snoc, ← rev_rows es hk, ← filter_no es hk]; rfl
theorem back_twice {es : List En} (hI : Inv es) {k : Nat} (hk : k < es.length) : (rowsL es ++ (filJ (rowsL es) k (rowsL es).length).map (turnR es es.length k)) ++ (filJ (rowsL es) k (rowsL es).length).map (turnR es (es.length + 1) k) = rowsL (es ++ [revE es k es[k]] ++ [revE es k es[k]]) := by
  rw [back_more hI hk, rowsL_snoc (es ++ [revE es k es[k]])]
  congr 1
  unfold filJ
  rw [List.take_length, List.length_append, List.length_singleton, ← rev_rows es hk, ← filter_no es hk]; rfl

theorem ne_after {w : World} {v v' : Value} {b : Nat} (hf : v'.ownBlock = v.ownBlock ∨ ∀ k, v'.ownBlock = some k → w.heap.size ≤ k) (h : some b ≠ v.ownBlock) (hb : b < w.heap.size) : some b ≠ v'.ownBlock := by
  intro e
  rcases hf with hf | hf
  · exact h (by rw [← hf]; exact e)
  · have := hf b e.symm
    omega
theorem Mine.put_other {w0 w : World} {e sz n : Nat} {v : Value} {xs : List Value} (h : Mine w0 e sz w v n xs) {b : Nat} (hb : w0.heap.size ≤ b) (hne : some b ≠ v.ownBlock) (i : Nat) (u : Value) : Mine w0 e sz (w.setCell ⟨b, i, none⟩ u) v n xs := by
  refine ⟨h.1.kept (grown_set w b i u) ?_, Later.putCell h.2 hb u⟩
  cases hv : v.ownBlock with
  | none => exact .inl rfl
  | some g => exact .inr (fun e => hne (by rw [hv, e]))

set_option maxHeartbeats 16000000 in
theorem audback_any (l : List OpL) (which : Int) (hwh : I64 which) (hw : ∀ o ∈ l, o.ok) (v : Value) (w : World) (hN : IsOps w v l) (hR : RulesAt w) (hT : PowTab w) :
    Calls Tryd.prog 5 #[v, .int .i64 which] w fun e w' => e = .returned (.bool true) ∧ Later w w' := by
  have HAW := Lib.hid (fun W (hl : Later w W) => audawake_any W (hR.later hl) (hT.later hl))
  have HFEW := Lib.hid (fun W (hl : Later w W) => few15_any l v W (hN.later hl))
  by_cases hf : fewB l = true
  · have HPO := Lib.hid (fun W (hl : Later w W) => posted_any l hf hw v W (hN.later hl) (hR.later hl))
    rw [hf] at HFEW
    have hI := postAll_inv hf hw l.length (Nat.le_refl _)
    have hlen0 := postAll_len hf l.length (Nat.le_refl _)
    have h20 := (few_ops hf).1
    rw [List.take_length] at hI hlen0
    obtain ⟨p, cp, rfl, -⟩ := hN.form
    clear hN hR hT hw
    generalize postAll l = es at *
    generalize l.length = L at *
    have hlines := lines_20 hI
    have hRN := rowsL_bound es hlines
    have hel : es.length ≤ 200 := by omega
    have HROWS := Lib.hid (fun q W (hL : Led W q es) => rows_any q es hel hI.word hlines W hL)
    have HLEN := Lib.hid (fun q W (hL : Led W q es) => len_any q es (by omega) W hL)
    have HSEQ := Lib.hid (fun q W (hL : Led W q es) => seq_any q es (by omega) W hL)
    have HENT := Lib.hid (fun q (j : Nat) (hj : j < es.length) W (hL : Led W q es) => entry_any j es[j] q es (by omega) W hL (List.getElem?_eq_getElem hj) (hI.word _ (List.getElem_mem hj)).2.2.2.2.2.2.2)
    have HREV := Lib.hid (fun q (j : Nat) (hj : j < es.length) W (hL : Led W q es) => reversed_any j (by unfold I64; omega) q es (by omega) W hL)
    have HCK := Lib.hid (fun (xs : List Rw) (hxl : xs.length ≤ 10000) (hxo : ∀ r ∈ xs, r.ok) v W hN => check_rows xs hxl hxo v W hN)
    have HI := Lib.hid hI
    clear hI hlines hf
    go_enter Tryd.func5, Tryd.ntmps5
    go_upto_block 0 with (first | (go_at_call 6; go_must (refine (HFEW.out _ (by repeat (first | with_reducible exact Later.refl _ | with_reducible assumption | with_reducible refine Later.ofdrew ?_ | with_reducible refine Later.ofdrewN ?_ | with_reducible refine Later.setCell ?_ ?_ _ | with_reducible refine Later.alloc ?_ _ | with_reducible refine Later.drewN ?_ _ | with_reducible refine Later.drew ?_ | (with_reducible refine Later.trans ?_ (by assumption)) | (simp only [World.size_setCell, World.size_alloc, World.heap_drewN]; omega) | (simp; done) | (simp; omega)))).mono ?_; rintro e w1 ⟨rfl, hb1⟩)) | (go_at_call 8; go_must (refine (HPO.out _ (by repeat (first | with_reducible exact Later.refl _ | with_reducible assumption | with_reducible refine Later.ofdrew ?_ | with_reducible refine Later.ofdrewN ?_ | with_reducible refine Later.setCell ?_ ?_ _ | with_reducible refine Later.alloc ?_ _ | with_reducible refine Later.drewN ?_ _ | with_reducible refine Later.drew ?_ | (with_reducible refine Later.trans ?_ (by assumption)) | (simp only [World.size_setCell, World.size_alloc, World.heap_drewN]; omega) | (simp; done) | (simp; omega)))).mono ?_; rintro e w2 ⟨q, rfl, hL2, hb2⟩; have HL2 := Lib.hid hL2; clear hL2)))
    refine wp_opaque (fun W8 hb8 => ?_)
    have hw8 : Later w W8 := Later.trans (by repeat (first | with_reducible exact Later.refl _ | with_reducible assumption | with_reducible refine Later.ofdrew ?_ | with_reducible refine Later.ofdrewN ?_ | with_reducible refine Later.setCell ?_ ?_ _ | with_reducible refine Later.alloc ?_ _ | with_reducible refine Later.drewN ?_ _ | with_reducible refine Later.drew ?_ | (with_reducible refine Later.trans ?_ (by assumption)) | (simp only [World.size_setCell, World.size_alloc, World.heap_drewN]; omega) | (simp; done) | (simp; omega))) hb8
    have HL8 := Lib.hid (HL2.out.later hb8)
    clear hb8 hb2 hb1 HL2 HPO HFEW
    obtain ⟨E, hE⟩ : ∃ E, es.length = E := ⟨_, rfl⟩
    have HE := Lib.hid hE
    rw [hE] at hel
    simp only [hE] at HLEN
    clear hE
    go_cut [6] (fun s6 wx => (∃ p c, s6 = .slice p (liveL es E).length c) ∧ IsInts wx s6 ((liveL es E).map (fun (n : Nat) => (n : Int))) ∧ Later W8 wx)
    case first =>
      clear HAW HCK HROWS HSEQ
      go_wp2_with fail
      go_loopw [6, 7] (fun s6 s7 wr => ∃ j : Nat, j ≤ E ∧ s7 = .int .i64 j ∧ ∃ k, k ≤ j ∧ Mine W8 3 1 wr s6 k (((liveL es j).map (fun (n : Nat) => (n : Int))).map (Value.int .i64))) (fun _ s7 _ => E - (intOf s7).toNat)
      case atStart => exact ⟨0, Nat.zero_le _, rfl, 0, Nat.zero_le _, Mine.nil (Later.refl _)⟩
      case round =>
        obtain ⟨j, hj, rfl, k, hk, hM⟩ := hrel
        have hlat := hM.lat
        have HM := Lib.hid (fun W (hl : Later wr W) => hM.later hl)
        have HLENr := Lib.hid (fun W (hl : Later wr W) => HLEN.out q W (HL8.out.later (hlat.trans hl)))
        by_cases hlt : j < E
        · have hjl : j < es.length := by rw [HE.out]; exact hlt
          obtain ⟨p6, c6, rfl⟩ := hM.form
          have HENr := Lib.hid (fun W (hl : Later wr W) => HENT.out q j hjl W (HL8.out.later (hlat.trans hl)))
          have HREr := Lib.hid (fun W (hl : Later wr W) => HREV.out q j hjl W (HL8.out.later (hlat.trans hl)))
          have HLV := Lib.hid (liveL_succ es j)
          have hlb : liveB es j = (!(getA (byL es) (j : Int)).isSome && decide ((es[j]).ref = -1)) := by unfold liveB; rw [getD_at hjl]
          rw [hlb] at HLV
          clear HENT HREV HLEN hM hlb
          generalize (getA (byL es) (j : Int)).getD 0 = by1 at *
          generalize (getA (byL es) (j : Int)).isSome = is1 at *
          generalize es[j] = x at *
          obtain ⟨con, day, cur, sq, pr, ref, ls⟩ := x
          simp only at HENr HLV
          go_upto_region 11 with (first | (go_at_call 10; go_must (refine (HLENr.out _ (by repeat (first | with_reducible exact Later.refl _ | with_reducible assumption | with_reducible refine Later.ofdrew ?_ | with_reducible refine Later.ofdrewN ?_ | with_reducible refine Later.setCell ?_ ?_ _ | with_reducible refine Later.alloc ?_ _ | with_reducible refine Later.drewN ?_ _ | with_reducible refine Later.drew ?_ | (with_reducible refine Later.trans ?_ (by assumption)) | (simp only [World.size_setCell, World.size_alloc, World.heap_drewN]; omega) | (simp; done) | (simp; omega)))).mono ?_; rintro e w4 ⟨rfl, hb4⟩)) | (go_at_call 11; go_must (refine (HENr.out _ (by repeat (first | with_reducible exact Later.refl _ | with_reducible assumption | with_reducible refine Later.ofdrew ?_ | with_reducible refine Later.ofdrewN ?_ | with_reducible refine Later.setCell ?_ ?_ _ | with_reducible refine Later.alloc ?_ _ | with_reducible refine Later.drewN ?_ _ | with_reducible refine Later.drew ?_ | (with_reducible refine Later.trans ?_ (by assumption)) | (simp only [World.size_setCell, World.size_alloc, World.heap_drewN]; omega) | (simp; done) | (simp; omega)))).mono ?_; rintro e w5 ⟨v5, rfl, hR5, -, hb5⟩; obtain ⟨p5, c5, rfl⟩ := hR5.1.form; clear hR5)))
          refine wp_opaque (fun W9 hb9 => ?_)
          generalize ls.length = n at *
          have HO9 := Lib.hid (Own.one hb9)
          have hr9 : Later wr W9 := Later.trans (by repeat (first | with_reducible exact Later.refl _ | with_reducible assumption | with_reducible refine Later.ofdrew ?_ | with_reducible refine Later.ofdrewN ?_ | with_reducible refine Later.setCell ?_ ?_ _ | with_reducible refine Later.alloc ?_ _ | with_reducible refine Later.drewN ?_ _ | with_reducible refine Later.drew ?_ | (with_reducible refine Later.trans ?_ (by assumption)) | (simp only [World.size_setCell, World.size_alloc, World.heap_drewN]; omega) | (simp; done) | (simp; omega))) hb9.un1
          have HRE9 := Lib.hid (fun W (hl : Later W9 W) => HREr.out W (hr9.trans hl))
          clear hb9 HENr HREr HLENr hb4 hb5
          have HM9 := Lib.hid (fun W (hl : Later W9 W) => HM.out W (hr9.trans hl))
          cases is1
          · by_cases href : ref = -1
            · subst href
              rw [if_pos (by simp)] at HLV
              go_wp2_with (first | (go_at_call 14; go_must (refine (HRE9.out _ (by repeat (first | with_reducible exact Later.refl _ | with_reducible assumption | with_reducible refine Later.ofdrew ?_ | with_reducible refine Later.ofdrewN ?_ | with_reducible refine Later.setCell ?_ ?_ _ | with_reducible refine Later.alloc ?_ _ | with_reducible refine Later.drewN ?_ _ | with_reducible refine Later.drew ?_ | (with_reducible refine Later.trans ?_ (by assumption)) | (simp only [World.size_setCell, World.size_alloc, World.heap_drewN]; omega) | (simp; done) | (simp; omega)))).mono ?_; rintro e w6 ⟨rfl, hb6⟩; obtain ⟨⟨z6, d6, f6⟩, -⟩ := HO9.out.later hb6)) | (at_builtin; go_must (refine wpList_pushAt sliceInt (HM9.out _ (by repeat (first | with_reducible exact Later.refl _ | with_reducible assumption | with_reducible refine Later.ofdrew ?_ | with_reducible refine Later.ofdrewN ?_ | with_reducible refine Later.setCell ?_ ?_ _ | with_reducible refine Later.alloc ?_ _ | with_reducible refine Later.drewN ?_ _ | with_reducible refine Later.drew ?_ | (with_reducible refine Later.trans ?_ (by assumption)) | (simp only [World.size_setCell, World.size_alloc, World.heap_drewN]; omega) | (simp; done) | (simp; omega)))) rfl _ _ rfl rfl 1 _ rfl (by simp) rfl (by simp [Value.oneCell']) (by omega) (by unfold maxLen; omega) ?_; intro v7 w7 hM7 hg7; obtain ⟨p7, c7, rfl⟩ := hM7.form)))
              go_roundw
              case rel => exact ⟨j + 1, by omega, by go_num, k + 1, by omega, by rw [HLV.out, List.map_append, List.map_append]; exact hM7⟩
              case measure => simp [intOf]; omega
            · have hrb : (ref == -1) = false := by simpa using href
              rw [if_neg (by simp [href]), List.append_nil] at HLV
              go_wp2_with (go_at_call 14; go_must (refine (HRE9.out _ (by repeat (first | with_reducible exact Later.refl _ | with_reducible assumption | with_reducible refine Later.ofdrew ?_ | with_reducible refine Later.ofdrewN ?_ | with_reducible refine Later.setCell ?_ ?_ _ | with_reducible refine Later.alloc ?_ _ | with_reducible refine Later.drewN ?_ _ | with_reducible refine Later.drew ?_ | (with_reducible refine Later.trans ?_ (by assumption)) | (simp only [World.size_setCell, World.size_alloc, World.heap_drewN]; omega) | (simp; done) | (simp; omega)))).mono ?_; rintro e w6 ⟨rfl, hb6⟩; obtain ⟨⟨z6, d6, f6⟩, -⟩ := HO9.out.later hb6))
              go_roundw
              case rel => exact ⟨j + 1, by omega, by go_num, k, by omega, by rw [HLV.out]; exact HM9.out _ (by repeat (first | with_reducible exact Later.refl _ | with_reducible assumption | with_reducible refine Later.ofdrew ?_ | with_reducible refine Later.ofdrewN ?_ | with_reducible refine Later.setCell ?_ ?_ _ | with_reducible refine Later.alloc ?_ _ | with_reducible refine Later.drewN ?_ _ | with_reducible refine Later.drew ?_ | (with_reducible refine Later.trans ?_ (by assumption)) | (simp only [World.size_setCell, World.size_alloc, World.heap_drewN]; omega) | (simp; done) | (simp; omega)))⟩
              case measure => simp [intOf]; omega
          · rw [if_neg (by simp), List.append_nil] at HLV
            go_wp2_with (go_at_call 14; go_must (refine (HRE9.out _ (by repeat (first | with_reducible exact Later.refl _ | with_reducible assumption | with_reducible refine Later.ofdrew ?_ | with_reducible refine Later.ofdrewN ?_ | with_reducible refine Later.setCell ?_ ?_ _ | with_reducible refine Later.alloc ?_ _ | with_reducible refine Later.drewN ?_ _ | with_reducible refine Later.drew ?_ | (with_reducible refine Later.trans ?_ (by assumption)) | (simp only [World.size_setCell, World.size_alloc, World.heap_drewN]; omega) | (simp; done) | (simp; omega)))).mono ?_; rintro e w6 ⟨rfl, hb6⟩; obtain ⟨⟨z6, d6, f6⟩, -⟩ := HO9.out.later hb6))
            go_roundw
            case rel => exact ⟨j + 1, by omega, by go_num, k, by omega, by rw [HLV.out]; exact HM9.out _ (by repeat (first | with_reducible exact Later.refl _ | with_reducible assumption | with_reducible refine Later.ofdrew ?_ | with_reducible refine Later.ofdrewN ?_ | with_reducible refine Later.setCell ?_ ?_ _ | with_reducible refine Later.alloc ?_ _ | with_reducible refine Later.drewN ?_ _ | with_reducible refine Later.drew ?_ | (with_reducible refine Later.trans ?_ (by assumption)) | (simp only [World.size_setCell, World.size_alloc, World.heap_drewN]; omega) | (simp; done) | (simp; omega)))⟩
            case measure => simp [intOf]; omega
        · have hje : j = E := by omega
          subst hje
          obtain ⟨hi1, hi2⟩ := hM.ints
          rw [List.length_map] at hi2
          subst hi2
          obtain ⟨p6, c6, rfl⟩ := hM.form
          have HI1 := Lib.hid (fun W (hl : Later wr W) => hi1.later hl)
          clear HENT HREV HLEN hM hi1
          go_wp2_with (go_at_call 10; go_must (refine (HLENr.out _ (by repeat (first | with_reducible exact Later.refl _ | with_reducible assumption | with_reducible refine Later.ofdrew ?_ | with_reducible refine Later.ofdrewN ?_ | with_reducible refine Later.setCell ?_ ?_ _ | with_reducible refine Later.alloc ?_ _ | with_reducible refine Later.drewN ?_ _ | with_reducible refine Later.drew ?_ | (with_reducible refine Later.trans ?_ (by assumption)) | (simp only [World.size_setCell, World.size_alloc, World.heap_drewN]; omega) | (simp; done) | (simp; omega)))).mono ?_; rintro e w4 ⟨rfl, hb4⟩))
          go_meet
          exact ⟨⟨_, _, rfl⟩, HI1.out _ (by repeat (first | with_reducible exact Later.refl _ | with_reducible assumption | with_reducible refine Later.ofdrew ?_ | with_reducible refine Later.ofdrewN ?_ | with_reducible refine Later.setCell ?_ ?_ _ | with_reducible refine Later.alloc ?_ _ | with_reducible refine Later.drewN ?_ _ | with_reducible refine Later.drew ?_ | (with_reducible refine Later.trans ?_ (by assumption)) | (simp only [World.size_setCell, World.size_alloc, World.heap_drewN]; omega) | (simp; done) | (simp; omega))), by repeat (first | with_reducible exact Later.refl _ | with_reducible assumption | with_reducible refine Later.ofdrew ?_ | with_reducible refine Later.ofdrewN ?_ | with_reducible refine Later.setCell ?_ ?_ _ | with_reducible refine Later.alloc ?_ _ | with_reducible refine Later.drewN ?_ _ | with_reducible refine Later.drew ?_ | (with_reducible refine Later.trans ?_ (by assumption)) | (simp only [World.size_setCell, World.size_alloc, World.heap_drewN]; omega) | (simp; done) | (simp; omega))⟩
    case rest =>
    obtain ⟨⟨p6, c6, rfl⟩, hI6, hl1⟩ := hcut
    clear HENT HREV
    have hwc := hw8.trans hl1
    have HLc := Lib.hid (HL8.out.later hl1)
    have HAWc := Lib.hid (fun W (hl : Later wc W) => HAW.out W (hwc.trans hl))
    clear HL8 hl1 hw8 HAW
    have hlen6 := live_len es E
    obtain ⟨M, hM⟩ : ∃ M, (liveL es E).length = M := ⟨_, rfl⟩
    have HM := Lib.hid hM
    rw [hM] at hI6 hlen6 ⊢
    by_cases hM0 : M = 0
    · subst hM0
      clear hM HM hI6
      go_wp2_with (go_at_call 7; go_must (refine (HAWc.out _ (by repeat (first | with_reducible exact Later.refl _ | with_reducible assumption | with_reducible refine Later.ofdrew ?_ | with_reducible refine Later.ofdrewN ?_ | with_reducible refine Later.setCell ?_ ?_ _ | with_reducible refine Later.alloc ?_ _ | with_reducible refine Later.drewN ?_ _ | with_reducible refine Later.drew ?_ | (with_reducible refine Later.trans ?_ (by assumption)) | (simp only [World.size_setCell, World.size_alloc, World.heap_drewN]; omega) | (simp; done) | (simp; omega)))).mono ?_; rintro e wa ⟨rfl, hba⟩))
      go_ret
      exact ⟨rfl, hwc.trans (by repeat (first | with_reducible exact Later.refl _ | with_reducible assumption | with_reducible refine Later.ofdrew ?_ | with_reducible refine Later.ofdrewN ?_ | with_reducible refine Later.setCell ?_ ?_ _ | with_reducible refine Later.alloc ?_ _ | with_reducible refine Later.drewN ?_ _ | with_reducible refine Later.drew ?_ | (with_reducible refine Later.trans ?_ (by assumption)) | (simp only [World.size_setCell, World.size_alloc, World.heap_drewN]; omega) | (simp; done) | (simp; omega)))⟩
    · obtain ⟨kk, hkM, x, hx1, hx2, hx3⟩ := which_k which M (by omega) (by omega)
      have hMz : ((M : Int) == 0) = false := by rw [beq_eq_false_iff_ne]; omega
      have hkl : kk < ((liveL es E).map (fun (n : Nat) => (n : Int))).length := by rw [List.length_map, hM]; exact hkM
      obtain ⟨b, o, cap, hv, hb, hcell⟩ := hI6.full hkl
      rw [List.length_map, hM] at hv
      cases hv
      rw [List.getElem_map] at hcell
      have hlk : (liveL es E)[kk]'(by rw [hM]; exact hkM) ∈ liveL es E := List.getElem_mem _
      generalize (liveL es E)[kk]'(by rw [hM]; exact hkM) = K at hcell hlk
      rw [← HE.out] at hlk
      obtain ⟨hKl, hK1, hK2⟩ := live_of hlk
      have hIr := rev_right HI.out hKl (by omega) hK1 hK2
      have hckA : checkG (groups (rowsL (es ++ [revE es K es[K]]))) = 0 := rows_right hIr
      have hckB := rev_twice HI.out hKl (by omega) hK1 hK2
      have hoA : ∀ r ∈ rowsL (es ++ [revE es K es[K]]), r.ok := rows_ok hIr.word (by rw [List.length_append]; simp; omega)
      have hoB : ∀ r ∈ rowsL (es ++ [revE es K es[K]] ++ [revE es K es[K]]), r.ok := rows_ok (fun y hy => by
        rcases List.mem_append.1 hy with hy | hy
        · exact hIr.word y hy
        · simp only [List.mem_singleton] at hy; subst hy; exact (rev_entry HI.out hKl (by omega)).2.1) (by rw [List.length_append, List.length_append]; simp; omega)
      rw [← back_twice HI.out hKl] at hckB hoB
      rw [← back_more HI.out hKl] at hckA hoA
      obtain ⟨N, hNN⟩ : ∃ N, (rowsL es).length = N := ⟨_, rfl⟩
      rw [hNN] at hRN
      simp only [hNN, HE.out] at hckA hckB hoA hoB
      have hT0 : ∀ r, turnR es E K r = ({ r with no := E, seq := lastSeq es, ref := K, amt := IntKind.i64.wrap (0 - r.amt) } : Rw) := fun _ => rfl
      have hT1 : ∀ r, turnR es (E + 1) K r = ({ r with no := ((E + 1 : Nat) : Int), seq := lastSeq es, ref := K, amt := IntKind.i64.wrap (0 - r.amt) } : Rw) := fun _ => rfl
      have hT0 := Lib.hid hT0
      have hT1 := Lib.hid hT1
      have hKE : K < E := by rw [← HE.out]; exact hKl
      have hfl := fun i => filJ_len (rowsL es) K i
      have HFS := Lib.hid (fun i (hi : i < (rowsL es).length) => filJ_succ (k := K) hi)
      have HROWS := Lib.hid (fun W (hl : Later wc W) => HROWS.out q W (HLc.out.later hl))
      have HLEN := Lib.hid (fun W (hl : Later wc W) => HLEN.out q W (HLc.out.later hl))
      have HSEQ := Lib.hid (fun W (hl : Later wc W) => HSEQ.out q W (HLc.out.later hl))
      have hlA : (rowsL es ++ (filJ (rowsL es) K N).map (turnR es E K)).length ≤ 10000 := by
        rw [List.length_append, List.length_map, hNN]; have := hfl N; omega
      have hlB : (rowsL es ++ (filJ (rowsL es) K N).map (turnR es E K) ++ (filJ (rowsL es) K N).map (turnR es (E + 1) K)).length ≤ 10000 := by
        rw [List.length_append, List.length_append, List.length_map, List.length_map, hNN]; have := hfl N; omega
      have HC1 := Lib.hid (fun v W hN => HCK.out _ hlA hoA v W hN)
      rw [hckA] at HC1
      have HC2 := Lib.hid (fun v W hN => HCK.out _ hlB hoB v W hN)
      rw [hckB] at HC2
      have hfl := Lib.hid hfl
      clear hckA hckB hoA hoB hIr hK1 hK2 hlk HCK hM0 HI hkl hlA hlB hKl
      generalize turnR es E K = T0 at *
      generalize turnR es (E + 1) K = T1 at *
      generalize lastSeq es = LS at *
      go_upto_region 19 with (go_at_call 9; go_must (refine (HROWS.out _ (by repeat (first | with_reducible exact Later.refl _ | with_reducible assumption | with_reducible refine Later.ofdrew ?_ | with_reducible refine Later.ofdrewN ?_ | with_reducible refine Later.setCell ?_ ?_ _ | with_reducible refine Later.alloc ?_ _ | with_reducible refine Later.drewN ?_ _ | with_reducible refine Later.drew ?_ | (with_reducible refine Later.trans ?_ (by assumption)) | (simp only [World.size_setCell, World.size_alloc, World.heap_drewN]; omega) | (simp; done) | (simp; omega)))).mono ?_; rintro e w3 ⟨v3, rfl, hR3, hb3⟩))
      refine wp_opaque (fun W20 hb20 => ?_)
      have hN20 := hR3.1.later hb20
      have hw20 : Later wc W20 := Later.trans (by repeat (first | with_reducible exact Later.refl _ | with_reducible assumption | with_reducible refine Later.ofdrew ?_ | with_reducible refine Later.ofdrewN ?_ | with_reducible refine Later.setCell ?_ ?_ _ | with_reducible refine Later.alloc ?_ _ | with_reducible refine Later.drewN ?_ _ | with_reducible refine Later.drew ?_ | (with_reducible refine Later.trans ?_ (by assumption)) | (simp only [World.size_setCell, World.size_alloc, World.heap_drewN]; omega) | (simp; done) | (simp; omega))) hb20
      obtain ⟨p3, c3, rfl⟩ := hN20.form
      clear hR3 hb20 hb3 HROWS hx1 hx2 hx3 hcell hb
      generalize rowsL es = R at *
      rw [hNN] at hN20 ⊢
      have HNN := Lib.hid hNN
      have HN20 := Lib.hid (fun W (hl : Later W20 W) => hN20.later hl)
      have HLEN20 := Lib.hid (fun W (hl : Later W20 W) => HLEN.out W (hw20.trans hl))
      have HSEQ20 := Lib.hid (fun W (hl : Later W20 W) => HSEQ.out W (hw20.trans hl))
      have HAW20 := Lib.hid (fun W (hl : Later W20 W) => HAWc.out W (hw20.trans hl))
      have hwW := hwc.trans hw20
      clear hN20 hNN HLEN HSEQ HAWc hwc hw20 HLc
      go_upto_block 2 with (at_builtin; go_must (refine wpList_rows (L := ([] : List Rw)) (Mine.nil (w0 := W20) (by repeat (first | with_reducible exact Later.refl _ | with_reducible assumption | with_reducible refine Later.ofdrew ?_ | with_reducible refine Later.ofdrewN ?_ | with_reducible refine Later.setCell ?_ ?_ _ | with_reducible refine Later.alloc ?_ _ | with_reducible refine Later.drewN ?_ _ | with_reducible refine Later.drew ?_ | (with_reducible refine Later.trans ?_ (by assumption)) | (simp only [World.size_setCell, World.size_alloc, World.heap_drewN]; omega) | (simp; done) | (simp; omega)))) (HN20.out _ (by repeat (first | with_reducible exact Later.refl _ | with_reducible assumption | with_reducible refine Later.ofdrew ?_ | with_reducible refine Later.ofdrewN ?_ | with_reducible refine Later.setCell ?_ ?_ _ | with_reducible refine Later.alloc ?_ _ | with_reducible refine Later.drewN ?_ _ | with_reducible refine Later.drew ?_ | (with_reducible refine Later.trans ?_ (by assumption)) | (simp only [World.size_setCell, World.size_alloc, World.heap_drewN]; omega) | (simp; done) | (simp; omega)))) rfl _ _ rfl rfl rfl (by rw [HNN.out]; simp; omega) ?_; intro v9 w9 hM9 hg9 hf9; obtain ⟨n9, hn9⟩ : ∃ n, (([] : List Rw) ++ R).length = n := ⟨_, rfl⟩; rw [hn9] at hM9; replace hn9 := Lib.hid hn9; obtain ⟨p9, c9, rfl⟩ := hM9.form))
      refine wp_opaque (fun W21 hb21 => ?_)
      have hM21 := hM9.later hb21
      rw [List.nil_append] at hM21
      have hn9' : N = n9 := by rw [← hn9.out, List.nil_append]; exact HNN.out.symm
      subst hn9'
      have HM21 := Lib.hid hM21
      clear hM9 hg9 hf9 hb21 hM21
      go_cut [15, 16] (fun s15 s16 wx => ∃ a1 a2, (∃ p c, s15 = .slice p a1 c) ∧ (∃ p c, s16 = .slice p a2 c) ∧ Hid (Mine W20 39 9 wx s15 a1 ((R ++ (filJ R K N).map T0).flatMap rwCs) ∧ Mine W20 39 9 wx s16 a2 (((filJ R K N).map T1).flatMap rwCs)))
      case first =>
        go_wp2_with fail
        go_loopw [15, 16, 17] (fun s15 s16 s17 wr => ∃ i : Nat, i ≤ N ∧ s17 = .int .i64 i ∧ ∃ a2, a2 ≤ i ∧ (∃ p c, s15 = .slice p (N + a2) c) ∧ (∃ p c, s16 = .slice p a2 c) ∧ Hid (Mine W20 39 9 wr s15 (N + a2) ((R ++ (filJ R K i).map T0).flatMap rwCs) ∧ Mine W20 39 9 wr s16 a2 (((filJ R K i).map T1).flatMap rwCs) ∧ Apart s15 s16)) (fun _ _ s17 _ => N - (intOf s17).toNat)
        case atStart => exact ⟨0, Nat.zero_le _, rfl, 0, Nat.le_refl _, ⟨_, _, rfl⟩, ⟨_, _, rfl⟩, Lib.hid ⟨by simpa [filJ] using HM21.out, by simpa [filJ] using Mine.nil HM21.out.lat, fun k _ e => by cases e⟩⟩
        case round =>
          clear HM21 HC1 HC2 HAW20
          obtain ⟨i, hi, rfl, a2, ha2, ⟨p1, q1, rfl⟩, ⟨p2, q2, rfl⟩, HH⟩ := hrel
          have hlat := HH.out.1.lat
          by_cases hlt : i < N
          · have hil : i < R.length := by rw [HNN.out]; exact hlt
            obtain ⟨b3, o3, cp3, hv, hb3', g⟩ := (HN20.out _ hlat).full (i := i) hil
            rw [HNN.out] at hv
            cases hv
            have g0 := g 0 (by omega)
            have g1 := g 1 (by omega)
            have g2 := g 2 (by omega)
            have g3 := g 3 (by omega)
            have g4 := g 4 (by omega)
            have g5 := g 5 (by omega)
            have g6 := g 6 (by omega)
            have g7 := g 7 (by omega)
            have g8 := g 8 (by omega)
            simp only [rwF, Rw.nums, List.getD_cons_zero, List.getD_cons_succ, Nat.add_zero] at g0 g1 g2 g3 g4 g5 g6 g7 g8
            have HF := Lib.hid (HFS.out i hil)
            have hT0 : Hid (T0 R[i] = { R[i] with no := E, seq := LS, ref := K, amt := IntKind.i64.wrap (0 - (R[i]).amt) }) := Lib.hid (hT0.out _)
            have hT1 : Hid (T1 R[i] = { R[i] with no := ((E + 1 : Nat) : Int), seq := LS, ref := K, amt := IntKind.i64.wrap (0 - (R[i]).amt) }) := Lib.hid (hT1.out _)
            clear g
            generalize R[i] = r at *
            obtain ⟨r0, r1, r2, r3, r4, r5, r6, r7, r8⟩ := r
            simp only at g0 g1 g2 g3 g4 g5 g6 g7 g8
            by_cases hno : r0 = (K : Int)
            · subst hno
              rw [if_pos (by unfold atNo; simp)] at HF
              obtain ⟨am, ham⟩ : ∃ am, wrap64 (-r8) = am := ⟨_, rfl⟩
              have ham0 : IntKind.i64.wrap (0 - r8) = am := by rw [Int.zero_sub, i64_wrap]; exact ham
              simp only [ham0] at hT0 hT1
              clear ham0
              have HLr := Lib.hid (fun W (hl : Later wr W) => HLEN20.out W (hlat.trans hl))
              have HSr := Lib.hid (fun W (hl : Later wr W) => HSEQ20.out W (hlat.trans hl))
              clear HN20 HSEQ20 hfl HFS
              go_upto_region 27 with (fail)
              refine wp_opaque (fun W23 hb23 => ?_)
              have HO23 := Lib.hid (Own.one hb23)
              have hw23 := hb23.un1
              obtain ⟨BB, hBB⟩ : ∃ B, wr.heap.size = B := ⟨_, rfl⟩
              rw [hBB] at HO23 ⊢
              clear hb23 g0 g1 g2 g3 g4 g5 g6 g7 g8
              go_upto_region 28 with (go_at_call 10; go_must (refine (HLr.out _ (hw23.trans (by repeat (first | with_reducible exact Later.refl _ | with_reducible assumption | with_reducible refine Later.ofdrew ?_ | with_reducible refine Later.ofdrewN ?_ | with_reducible refine Later.setCell ?_ ?_ _ | with_reducible refine Later.alloc ?_ _ | with_reducible refine Later.drewN ?_ _ | with_reducible refine Later.drew ?_ | (with_reducible refine Later.trans ?_ (by assumption)) | (simp only [World.size_setCell, World.size_alloc, World.heap_drewN]; omega) | (simp; done) | (simp; omega))))).mono ?_; rintro e w4 ⟨rfl, hb4⟩; obtain ⟨⟨z4, d4, f4⟩, -⟩ := HO23.out.later hb4))
              refine wp_opaque (fun W24 hb24 => ?_)
              have HO24 := Lib.hid ((own_put (HO23.out.later hb4) (k := 0) (by simp) (.int .i64 (E : Int))).later hb24)
              have hw24 : Later wr W24 := (Later.putCell (hw23.trans hb4) (k := BB) (i := 0) (by omega) (.int .i64 (E : Int))).trans hb24
              clear hb24 hb4 z4 d4 f4 HO23 hw23
              go_upto_region 29 with (go_at_call 15; go_must (refine (HSr.out _ (hw24.trans (by repeat (first | with_reducible exact Later.refl _ | with_reducible assumption | with_reducible refine Later.ofdrew ?_ | with_reducible refine Later.ofdrewN ?_ | with_reducible refine Later.setCell ?_ ?_ _ | with_reducible refine Later.alloc ?_ _ | with_reducible refine Later.drewN ?_ _ | with_reducible refine Later.drew ?_ | (with_reducible refine Later.trans ?_ (by assumption)) | (simp only [World.size_setCell, World.size_alloc, World.heap_drewN]; omega) | (simp; done) | (simp; omega))))).mono ?_; rintro e w5 ⟨rfl, hb5⟩; obtain ⟨⟨z5, d5, f5⟩, -⟩ := HO24.out.later hb5))
              refine wp_opaque (fun W25 hb25 => ?_)
              have HO25 := Lib.hid ((own_put (HO24.out.later hb5) (k := 1) (by simp) (.int .i64 LS)).later hb25)
              have hw25 : Later wr W25 := (Later.putCell (hw24.trans hb5) (k := BB) (i := 1) (by omega) (.int .i64 LS)).trans hb25
              clear hb25 hb5 z5 d5 f5 HO24 hw24
              obtain ⟨⟨z6, d6, f6⟩, -⟩ := HO25.out
              go_upto_region 30 with (fail)
              refine wp_opaque (fun W26 hb26 => ?_)
              have HO26 := Lib.hid ((own_put HO25.out (k := 5) (by simp) (.int .i64 (K : Int))).later hb26)
              have hw26 : Later wr W26 := (Later.putCell hw25 (k := BB) (i := 5) (by omega) (.int .i64 (K : Int))).trans hb26
              clear hb26 z6 d6 f6 HO25 hw25
              obtain ⟨⟨z7, d7, f7⟩, -⟩ := HO26.out
              go_upto_region 31 with (fail)
              refine wp_opaque (fun W27 hb27 => ?_)
              have HO27 := Lib.hid ((own_put HO26.out (k := 8) (by simp) (.int .i64 am)).later hb27)
              have hw27 : Later wr W27 := (Later.putCell hw26 (k := BB) (i := 8) (by omega) (.int .i64 am)).trans hb27
              clear hb27 z7 d7 f7 HO26 hw26
              have HMA := Lib.hid (fun W (hl : Later W27 W) => HH.out.1.later (hw27.trans hl))
              have HMB := Lib.hid (fun W (hl : Later W27 W) => HH.out.2.1.later (hw27.trans hl))
              have hbA : some BB ≠ (Value.slice p1 (N + a2) q1).ownBlock := fun e => by
                have := (HH.out.1.1.lt BB e.symm).2
                omega
              have hbB : some BB ≠ (Value.slice p2 a2 q2).ownBlock := fun e => by
                have := (HH.out.2.1.1.lt BB e.symm).2
                omega
              have hbA := Lib.hid hbA
              have hbB := Lib.hid hbB
              obtain ⟨⟨z8, d8, f8⟩, -⟩ := HO27.out
              go_upto_region 32 with (first | refine wpList_builtS (rw_one _ _ _ _ _ _ _ _ _ _) rfl rfl rfl ?_ | (at_builtin; go_must (refine wpList_pushF sliceRw (HMA.out _ (by repeat (first | with_reducible exact Later.refl _ | with_reducible assumption | with_reducible refine Later.ofdrew ?_ | with_reducible refine Later.ofdrewN ?_ | with_reducible refine Later.setCell ?_ ?_ _ | with_reducible refine Later.alloc ?_ _ | with_reducible refine Later.drewN ?_ _ | with_reducible refine Later.drew ?_ | (with_reducible refine Later.trans ?_ (by assumption)) | (simp only [World.size_setCell, World.size_alloc, World.heap_drewN]; omega) | (simp; done) | (simp; omega)))) rfl _ _ rfl rfl 1 _ rfl (by simp) rfl (by simp [Value.oneCell']) (by omega) (by unfold maxLen; omega) ?_; intro v7 w7 hM7 hg7 hf7; obtain ⟨p7, c7, rfl⟩ := hM7.form; have hKB := Lib.hid (((HMB.out _ (by repeat (first | with_reducible exact Later.refl _ | with_reducible assumption | with_reducible refine Later.ofdrew ?_ | with_reducible refine Later.ofdrewN ?_ | with_reducible refine Later.setCell ?_ ?_ _ | with_reducible refine Later.alloc ?_ _ | with_reducible refine Later.drewN ?_ _ | with_reducible refine Later.drew ?_ | (with_reducible refine Later.trans ?_ (by assumption)) | (simp only [World.size_setCell, World.size_alloc, World.heap_drewN]; omega) | (simp; done) | (simp; omega)))).later ((Later.refl _).alloc _)).beside hg7 HH.out.2.2 (fun k e => ((HMA.out _ (by repeat (first | with_reducible exact Later.refl _ | with_reducible assumption | with_reducible refine Later.ofdrew ?_ | with_reducible refine Later.ofdrewN ?_ | with_reducible refine Later.setCell ?_ ?_ _ | with_reducible refine Later.alloc ?_ _ | with_reducible refine Later.drewN ?_ _ | with_reducible refine Later.drew ?_ | (with_reducible refine Later.trans ?_ (by assumption)) | (simp only [World.size_setCell, World.size_alloc, World.heap_drewN]; omega) | (simp; done) | (simp; omega)))).1.lt k e).1)); have hap2 := Apart.grow HH.out.2.2 (HMB.out _ (by repeat (first | with_reducible exact Later.refl _ | with_reducible assumption | with_reducible refine Later.ofdrew ?_ | with_reducible refine Later.ofdrewN ?_ | with_reducible refine Later.setCell ?_ ?_ _ | with_reducible refine Later.alloc ?_ _ | with_reducible refine Later.drewN ?_ _ | with_reducible refine Later.drew ?_ | (with_reducible refine Later.trans ?_ (by assumption)) | (simp only [World.size_setCell, World.size_alloc, World.heap_drewN]; omega) | (simp; done) | (simp; omega)))).1 hf7; have hO7 := Lib.hid (own_grown ((HO27.out.later (show Later W27 _ by repeat (first | with_reducible exact Later.refl _ | with_reducible assumption | with_reducible refine Later.ofdrew ?_ | with_reducible refine Later.ofdrewN ?_ | with_reducible refine Later.setCell ?_ ?_ _ | with_reducible refine Later.alloc ?_ _ | with_reducible refine Later.drewN ?_ _ | with_reducible refine Later.drew ?_ | (with_reducible refine Later.trans ?_ (by assumption)) | (simp only [World.size_setCell, World.size_alloc, World.heap_drewN]; omega) | (simp; done) | (simp; omega)))).later ((Later.refl _).alloc _)) hg7 hbA.out); have hbA7 := Lib.hid (ne_after hf7 hbA.out (HO27.out.later (show Later W27 _ by repeat (first | with_reducible exact Later.refl _ | with_reducible assumption | with_reducible refine Later.ofdrew ?_ | with_reducible refine Later.ofdrewN ?_ | with_reducible refine Later.setCell ?_ ?_ _ | with_reducible refine Later.alloc ?_ _ | with_reducible refine Later.drewN ?_ _ | with_reducible refine Later.drew ?_ | (with_reducible refine Later.trans ?_ (by assumption)) | (simp only [World.size_setCell, World.size_alloc, World.heap_drewN]; omega) | (simp; done) | (simp; omega)))).1.1))))
              refine wp_opaque (fun W28 hb28 => ?_)
              have HM7 := Lib.hid (fun W (hl : Later W28 W) => hM7.later (hb28.trans hl))
              have HMB2 := Lib.hid (fun W (hl : Later W28 W) => hKB.out.later (hb28.trans hl))
              have HO28 := Lib.hid (hO7.out.later hb28)
              have hap2 := Lib.hid hap2
              have hw28 := hM7.lat.trans hb28
              have hbB2 : BB < W28.heap.size := HO28.out.1.1
              clear hM7 hg7 hf7 hb28 hKB hO7 HMA HMB z8 d8 f8 HO27
              have HL28 := Lib.hid (fun W (hl : Later W28 W) => HLEN20.out W (hw28.trans hl))
              go_upto_region 33 with (go_at_call 10; go_must (refine (HL28.out _ (by repeat (first | with_reducible exact Later.refl _ | with_reducible assumption | with_reducible refine Later.ofdrew ?_ | with_reducible refine Later.ofdrewN ?_ | with_reducible refine Later.setCell ?_ ?_ _ | with_reducible refine Later.alloc ?_ _ | with_reducible refine Later.drewN ?_ _ | with_reducible refine Later.drew ?_ | (with_reducible refine Later.trans ?_ (by assumption)) | (simp only [World.size_setCell, World.size_alloc, World.heap_drewN]; omega) | (simp; done) | (simp; omega)))).mono ?_; rintro e w4 ⟨rfl, hb4⟩; obtain ⟨⟨z4, d4, f4⟩, -⟩ := HO28.out.later hb4))
              refine wp_opaque (fun W29 hb29 => ?_)
              have hB20 : W20.heap.size ≤ BB := by rw [← hBB]; exact Later.size hlat
              have HO29 := Lib.hid ((own_put (HO28.out.later hb4) (k := 0) (by simp) (.int .i64 ((E : Int) + 1))).later hb29)
              have HM7b := Lib.hid (fun W (hl : Later W29 W) => ((HM7.out _ hb4).put_other hB20 hbA7.out 0 (.int .i64 ((E : Int) + 1))).later (hb29.trans hl))
              have HMB3 := Lib.hid (fun W (hl : Later W29 W) => ((HMB2.out _ hb4).put_other hB20 hbB.out 0 (.int .i64 ((E : Int) + 1))).later (hb29.trans hl))
              clear hb29 hb4 z4 d4 f4 HO28 HM7 HMB2 HL28
              obtain ⟨⟨z9, d9, f9⟩, -⟩ := HO29.out
              go_wp2_with (first | refine wpList_builtS (rw_one _ _ _ _ _ _ _ _ _ _) rfl rfl rfl ?_ | (at_builtin; go_must (refine wpList_pushF sliceRw (HMB3.out _ (by repeat (first | with_reducible exact Later.refl _ | with_reducible assumption | with_reducible refine Later.ofdrew ?_ | with_reducible refine Later.ofdrewN ?_ | with_reducible refine Later.setCell ?_ ?_ _ | with_reducible refine Later.alloc ?_ _ | with_reducible refine Later.drewN ?_ _ | with_reducible refine Later.drew ?_ | (with_reducible refine Later.trans ?_ (by assumption)) | (simp only [World.size_setCell, World.size_alloc, World.heap_drewN]; omega) | (simp; done) | (simp; omega)))) rfl _ _ rfl rfl 1 _ rfl (by simp) rfl (by simp [Value.oneCell']) (by omega) (by unfold maxLen; omega) ?_; intro v10 w10 hM10 hg10 hf10; obtain ⟨p10, c10, rfl⟩ := hM10.form; have hKA := Lib.hid (((HM7b.out _ (by repeat (first | with_reducible exact Later.refl _ | with_reducible assumption | with_reducible refine Later.ofdrew ?_ | with_reducible refine Later.ofdrewN ?_ | with_reducible refine Later.setCell ?_ ?_ _ | with_reducible refine Later.alloc ?_ _ | with_reducible refine Later.drewN ?_ _ | with_reducible refine Later.drew ?_ | (with_reducible refine Later.trans ?_ (by assumption)) | (simp only [World.size_setCell, World.size_alloc, World.heap_drewN]; omega) | (simp; done) | (simp; omega)))).later ((Later.refl _).alloc _)).beside hg10 hap2.out.symm (fun k e => ((HMB3.out _ (by repeat (first | with_reducible exact Later.refl _ | with_reducible assumption | with_reducible refine Later.ofdrew ?_ | with_reducible refine Later.ofdrewN ?_ | with_reducible refine Later.setCell ?_ ?_ _ | with_reducible refine Later.alloc ?_ _ | with_reducible refine Later.drewN ?_ _ | with_reducible refine Later.drew ?_ | (with_reducible refine Later.trans ?_ (by assumption)) | (simp only [World.size_setCell, World.size_alloc, World.heap_drewN]; omega) | (simp; done) | (simp; omega)))).1.lt k e).1)); have hap3 := Lib.hid (Apart.grow hap2.out.symm (HM7b.out _ (by repeat (first | with_reducible exact Later.refl _ | with_reducible assumption | with_reducible refine Later.ofdrew ?_ | with_reducible refine Later.ofdrewN ?_ | with_reducible refine Later.setCell ?_ ?_ _ | with_reducible refine Later.alloc ?_ _ | with_reducible refine Later.drewN ?_ _ | with_reducible refine Later.drew ?_ | (with_reducible refine Later.trans ?_ (by assumption)) | (simp only [World.size_setCell, World.size_alloc, World.heap_drewN]; omega) | (simp; done) | (simp; omega)))).1 hf10).symm)))
              go_roundw
              case rel =>
                refine ⟨i + 1, by omega, by go_num, a2 + 1, by omega, ⟨_, _, rfl⟩, ⟨_, _, rfl⟩, Lib.hid ⟨?_, ?_, hap3.out⟩⟩
                · rw [HF.out, List.map_append, List.map_cons, List.map_nil, hT0.out, ← List.append_assoc, List.flatMap_append, List.flatMap_singleton]
                  exact hKA.out
                · rw [HF.out, List.map_append, List.map_cons, List.map_nil, hT1.out, List.flatMap_append, List.flatMap_singleton]
                  exact hM10
              case measure => simp [intOf]; omega
            · have hnb : (r0 == (K : Int)) = false := by simpa using hno
              rw [if_neg (by unfold atNo; simpa using hno), List.append_nil] at HF
              clear HN20 HLEN20 HSEQ20 hfl HFS hT0 hT1
              have hb3z := Nat.lt_of_lt_of_le hb3' (Nat.le_refl _)
              go_wp2
              go_roundw
              case rel => exact ⟨i + 1, by omega, by go_num, a2, by omega, ⟨_, _, rfl⟩, ⟨_, _, rfl⟩, Lib.hid (by rw [HF.out]; exact HH.out)⟩
              case measure => simp [intOf]; omega
          · have hiN : i = N := by omega
            subst hiN
            clear HN20 HLEN20 HSEQ20 hfl HFS hT0 hT1
            go_wp2
            go_meet
            exact ⟨_, a2, ⟨_, _, rfl⟩, ⟨_, _, rfl⟩, Lib.hid ⟨HH.out.1, HH.out.2.1⟩⟩
      case rest =>
      obtain ⟨a1, a2, ⟨p1, q1, rfl⟩, ⟨p2, q2, rfl⟩, HH⟩ := hcut
      obtain ⟨L1, hL1⟩ : ∃ L, R ++ (filJ R K N).map T0 = L := ⟨_, rfl⟩
      obtain ⟨L2, hL2⟩ : ∃ L, (filJ R K N).map T1 = L := ⟨_, rfl⟩
      have hl2N : L2.length ≤ N := by rw [← hL2, List.length_map]; exact hfl.out N
      have hl1N : L1.length ≤ 2 * N := by rw [← hL1, List.length_append, List.length_map, HNN.out]; have := hfl.out N; omega
      simp only [hL1, hL2] at HH HC1 HC2
      have hm1 := HH.out.1
      have hm2 := HH.out.2
      have hr1 := Mine.row_ (sz := 9) (f := rwF) rwCs rwCs_len rwCs_cell (by decide) hm1
      have hr2 := Mine.row_ (sz := 9) (f := rwF) rwCs rwCs_len rwCs_cell (by decide) hm2
      obtain ⟨hr1, rfl⟩ := hr1
      obtain ⟨hr2, rfl⟩ := hr2
      have HR1 := Lib.hid (fun W (hl : Later wc W) => hr1.later hl)
      have HR2 := Lib.hid (fun W (hl : Later wc W) => hr2.later hl)
      have HM1 := Lib.hid (fun W (hl : Later wc W) => hm1.later hl)
      have hlx := hm1.lat
      have tok1 : True := trivial
      have HN20a := HAW20
      clear HM21 HH hm1 hm2 hr1 hr2 hL1 hL2 hT0 hT1 HFS hfl HLEN20 HSEQ20 HN20 HAW20
      go_wp2_with (first | (go_at_call 12; clear tok1; go_must (refine (HC1.out _ _ (HR1.out _ (by repeat (first | with_reducible exact Later.refl _ | with_reducible assumption | with_reducible refine Later.ofdrew ?_ | with_reducible refine Later.ofdrewN ?_ | with_reducible refine Later.setCell ?_ ?_ _ | with_reducible refine Later.alloc ?_ _ | with_reducible refine Later.drewN ?_ _ | with_reducible refine Later.drew ?_ | (with_reducible refine Later.trans ?_ (by assumption)) | (simp only [World.size_setCell, World.size_alloc, World.heap_drewN]; omega) | (simp; done) | (simp; omega))))).mono ?_; rintro e wb ⟨rfl, hbb⟩)) | (at_builtin; go_must (refine wpList_rows (L := L1) (HM1.out _ (by repeat (first | with_reducible exact Later.refl _ | with_reducible assumption | with_reducible refine Later.ofdrew ?_ | with_reducible refine Later.ofdrewN ?_ | with_reducible refine Later.setCell ?_ ?_ _ | with_reducible refine Later.alloc ?_ _ | with_reducible refine Later.drewN ?_ _ | with_reducible refine Later.drew ?_ | (with_reducible refine Later.trans ?_ (by assumption)) | (simp only [World.size_setCell, World.size_alloc, World.heap_drewN]; omega) | (simp; done) | (simp; omega)))) (HR2.out _ (by repeat (first | with_reducible exact Later.refl _ | with_reducible assumption | with_reducible refine Later.ofdrew ?_ | with_reducible refine Later.ofdrewN ?_ | with_reducible refine Later.setCell ?_ ?_ _ | with_reducible refine Later.alloc ?_ _ | with_reducible refine Later.drewN ?_ _ | with_reducible refine Later.drew ?_ | (with_reducible refine Later.trans ?_ (by assumption)) | (simp only [World.size_setCell, World.size_alloc, World.heap_drewN]; omega) | (simp; done) | (simp; omega)))) rfl _ _ rfl rfl rfl (by omega) ?_; intro v9 w9 hM9 hg9 hf9; obtain ⟨n9, hn9⟩ : ∃ n, (L1 ++ L2).length = n := ⟨_, rfl⟩; rw [hn9] at hM9; replace hn9 := Lib.hid hn9; have hR9 := (Mine.row_ (sz := 9) (f := rwF) rwCs rwCs_len rwCs_cell (by decide) hM9).1; have hl9 := hM9.lat; obtain ⟨p9, c9, rfl⟩ := hM9.form)) | (go_at_call 12; go_must (refine (HC2.out _ _ (hR9.later (by repeat (first | with_reducible exact Later.refl _ | with_reducible assumption | with_reducible refine Later.ofdrew ?_ | with_reducible refine Later.ofdrewN ?_ | with_reducible refine Later.setCell ?_ ?_ _ | with_reducible refine Later.alloc ?_ _ | with_reducible refine Later.drewN ?_ _ | with_reducible refine Later.drew ?_ | (with_reducible refine Later.trans ?_ (by assumption)) | (simp only [World.size_setCell, World.size_alloc, World.heap_drewN]; omega) | (simp; done) | (simp; omega))))).mono ?_; rintro e wd ⟨rfl, hbd⟩)) | (go_at_call 7; go_must (refine (HN20a.out _ (hl9.trans (by repeat (first | with_reducible exact Later.refl _ | with_reducible assumption | with_reducible refine Later.ofdrew ?_ | with_reducible refine Later.ofdrewN ?_ | with_reducible refine Later.setCell ?_ ?_ _ | with_reducible refine Later.alloc ?_ _ | with_reducible refine Later.drewN ?_ _ | with_reducible refine Later.drew ?_ | (with_reducible refine Later.trans ?_ (by assumption)) | (simp only [World.size_setCell, World.size_alloc, World.heap_drewN]; omega) | (simp; done) | (simp; omega))))).mono ?_; rintro e wa ⟨rfl, hba⟩)))
      go_ret
      exact ⟨rfl, (hwW.trans hl9).trans (by repeat (first | with_reducible exact Later.refl _ | with_reducible assumption | with_reducible refine Later.ofdrew ?_ | with_reducible refine Later.ofdrewN ?_ | with_reducible refine Later.setCell ?_ ?_ _ | with_reducible refine Later.alloc ?_ _ | with_reducible refine Later.drewN ?_ _ | with_reducible refine Later.drew ?_ | (with_reducible refine Later.trans ?_ (by assumption)) | (simp only [World.size_setCell, World.size_alloc, World.heap_drewN]; omega) | (simp; done) | (simp; omega)))⟩
  · have hff : fewB l = false := by simpa using hf
    rw [hff] at HFEW
    obtain ⟨p, cp, rfl, -⟩ := hN.form
    clear hN hR hT hw hf hff
    generalize l.length = L at *
    go_enter Tryd.func5, Tryd.ntmps5
    go_wp2_with (first | (go_at_call 6; go_must (refine (HFEW.out _ (by repeat (first | with_reducible exact Later.refl _ | with_reducible assumption | with_reducible refine Later.ofdrew ?_ | with_reducible refine Later.ofdrewN ?_ | with_reducible refine Later.setCell ?_ ?_ _ | with_reducible refine Later.alloc ?_ _ | with_reducible refine Later.drewN ?_ _ | with_reducible refine Later.drew ?_ | (with_reducible refine Later.trans ?_ (by assumption)) | (simp only [World.size_setCell, World.size_alloc, World.heap_drewN]; omega) | (simp; done) | (simp; omega)))).mono ?_; rintro e w1 ⟨rfl, hb1⟩)) | (go_at_call 7; go_must (refine (HAW.out _ (by repeat (first | with_reducible exact Later.refl _ | with_reducible assumption | with_reducible refine Later.ofdrew ?_ | with_reducible refine Later.ofdrewN ?_ | with_reducible refine Later.setCell ?_ ?_ _ | with_reducible refine Later.alloc ?_ _ | with_reducible refine Later.drewN ?_ _ | with_reducible refine Later.drew ?_ | (with_reducible refine Later.trans ?_ (by assumption)) | (simp only [World.size_setCell, World.size_alloc, World.heap_drewN]; omega) | (simp; done) | (simp; omega)))).mono ?_; rintro e wa ⟨rfl, hba⟩)))
    go_ret
    exact ⟨rfl, by repeat (first | with_reducible exact Later.refl _ | with_reducible assumption | with_reducible refine Later.ofdrew ?_ | with_reducible refine Later.ofdrewN ?_ | with_reducible refine Later.setCell ?_ ?_ _ | with_reducible refine Later.alloc ?_ _ | with_reducible refine Later.drewN ?_ _ | with_reducible refine Later.drew ?_ | (with_reducible refine Later.trans ?_ (by assumption)) | (simp only [World.size_setCell, World.size_alloc, World.heap_drewN]; omega) | (simp; done) | (simp; omega))⟩
end Go.Proofs.YtpblfheeeifjcaaDoor
