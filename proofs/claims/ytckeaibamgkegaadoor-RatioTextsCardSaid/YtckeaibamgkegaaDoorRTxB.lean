/- ratios as texts: Parse of the program -/
import Derived.Test.YtckeaibamgkegaaDoorRTxA
set_option linter.all false
namespace Go.Proofs.YtckeaibamgkegaaDoor
open Go.RowKit
set_option maxRecDepth 100000

/-- Which ratio a text is, or that it is none. -/
def RP (s : List UInt8) (n d e : Int) : Prop :=
  (e = 0 ∧ chkE n d = 0 ∧ s = textR n d ∧ I64 n ∧ I64 d) ∨ (e = 13 ∧ n = 0 ∧ d = 0 ∧ ∀ n d, I64 n → I64 d → chkE n d = 0 → s ≠ textR n d)
theorem RP_one {s : List UInt8} {n d e n' d' e' : Int} (h : RP s n d e) (g : RP s n' d' e') : n = n' ∧ d = d' ∧ e = e' := by
  rcases h with ⟨h1, h2, h3, h4, h5⟩ | ⟨h1, h2, h3, h4⟩ <;> rcases g with ⟨g1, g2, g3, g4, g5⟩ | ⟨g1, g2, g3, g4⟩
  · obtain ⟨a, b⟩ := textR_inj h4 h5 g4 g5 (h3.symm.trans g3)
    exact ⟨a, b, by rw [h1, g1]⟩
  · exact absurd h3 (g4 n d h4 h5 h2)
  · exact absurd g3 (h4 n' d' g4 g5 g2)
  · exact ⟨by rw [h2, g2], by rw [h3, g3], by rw [h1, g1]⟩
theorem cut_key {s A B : List UInt8} (h : (s = A ++ 47 :: B ∧ 47 ∉ A) ∨ (s = A ∧ (47 : UInt8) ∉ A ∧ B = [49])) {n d : Int} (e : s = textR n d) : (A = Lib.itoa n ∧ B = Lib.itoa d) ∨ (A = Lib.itoa n ∧ d ≠ 1 ∧ False) ∨ (d = 1 ∧ A = Lib.itoa n ∧ B = Lib.itoa d) := by
  have hc := congrArg (fun s => Lib.cut s [47]) e
  unfold textR at hc
  by_cases hd : d = 1
  · rw [if_pos hd, List.append_nil, cut_no (no47 n)] at hc
    rcases h with ⟨rfl, hA⟩ | ⟨rfl, hA, rfl⟩
    · rw [cut_at hA] at hc
      exact absurd (Prod.mk.inj (Prod.mk.inj hc).2).2 (by decide)
    · rw [cut_no hA] at hc
      exact .inl ⟨(Prod.mk.inj hc).1, by rw [hd, itoa_one]⟩
  · rw [if_neg hd, cut_at (no47 n)] at hc
    rcases h with ⟨rfl, hA⟩ | ⟨rfl, hA, rfl⟩
    · rw [cut_at hA] at hc
      exact .inl ⟨(Prod.mk.inj hc).1, (Prod.mk.inj (Prod.mk.inj hc).2).1⟩
    · rw [cut_no hA] at hc
      exact absurd (Prod.mk.inj (Prod.mk.inj hc).2).2 (by decide)
theorem cut_key2 {s A B : List UInt8} (h : (s = A ++ 47 :: B ∧ 47 ∉ A) ∨ (s = A ∧ (47 : UInt8) ∉ A ∧ B = [49])) {n d : Int} (e : s = textR n d) : A = Lib.itoa n ∧ B = Lib.itoa d := by
  rcases cut_key h e with h | ⟨_, _, h⟩ | ⟨_, h⟩
  · exact h
  · exact h.elim
  · exact h
theorem RP_bad {s A B : List UInt8} (h : (s = A ++ 47 :: B ∧ 47 ∉ A) ∨ (s = A ∧ (47 : UInt8) ∉ A ∧ B = [49]))
    (hb : (∀ v, Lib.atoiAll A ≠ .ok v) ∨ (∀ v, Lib.atoiAll B ≠ .ok v) ∨ ∃ v u, Lib.atoiAll A = .ok v ∧ Lib.atoiAll B = .ok u ∧ (chkE v u ≠ 0 ∨ textR v u ≠ s)) : RP s 0 0 13 := by
  refine .inr ⟨rfl, rfl, rfl, fun n d hn hd hc e => ?_⟩
  obtain ⟨hA, hB⟩ := cut_key2 h e
  have ha := atoi_itoa hn
  have hb' := atoi_itoa hd
  rw [← hA] at ha
  rw [← hB] at hb'
  rcases hb with hb | hb | ⟨v, u, h1, h2, h3⟩
  · exact hb n ha
  · exact hb d hb'
  · rw [ha] at h1
    rw [hb'] at h2
    have e1 := Lib.NumEnd.ok.inj h1
    have e2 := Lib.NumEnd.ok.inj h2
    subst e1 e2
    rcases h3 with h3 | h3
    · exact h3 hc
    · exact h3 e.symm

set_option maxHeartbeats 4000000 in
theorem rtparse_any (s : List UInt8) (hs : s.length ≤ 1000) (w : World) (h : LibAt w) :
    Calls Tryd.prog 12 #[.string ⟨s.toArray⟩] w fun e w' => (∃ n d er, e = .returned (.tuple #[.agg #[.int .i64 n, .int .i64 d], .int .i64 er]) ∧ RP s n d er) ∧ Later w w' := by
  have HCU := Lib.hid (fun W (hl : Later w W) => cut_any s [47] (by omega) W (h.later hl))
  have hsplit : ∃ A B is, Hid ((s = A ++ 47 :: B ∧ 47 ∉ A) ∨ (s = A ∧ (47 : UInt8) ∉ A ∧ B = [49])) ∧ A.length ≤ 1000 ∧ B.length ≤ 1000 ∧
      ((is = true ∧ Hid (Lib.cut s [47] = (A, B, true))) ∨ (is = false ∧ B = [49] ∧ Hid (Lib.cut s [47] = (A, [], false)))) := by
    rcases split_first s 47 with hn | ⟨a, b, rfl, hn⟩
    · exact ⟨s, [49], false, Lib.hid (.inr ⟨rfl, hn, rfl⟩), by omega, by simp, .inr ⟨rfl, rfl, Lib.hid (cut_no hn)⟩⟩
    · rw [List.length_append, List.length_cons] at hs
      exact ⟨a, b, true, Lib.hid (.inl ⟨rfl, hn⟩), by omega, by omega, .inl ⟨rfl, Lib.hid (cut_at hn)⟩⟩
  obtain ⟨A, B, is, HAB, hA, hB, hcase⟩ := hsplit
  have HAA := Lib.hid (fun W (hl : Later w W) => atoi_any A (by omega) W (h.later hl))
  have HAT := Lib.hid (fun W (hl : Later w W) => atoi_any B (by omega) W (h.later hl))
  have HPR := Lib.hid (fun n d hn hd W (hl : Later w W) => rtprint_any n d hn hd W (h.later hl))
  clear h hs
  obtain ⟨SA, hSA⟩ : ∃ S, ByteArray.mk A.toArray = S := ⟨_, rfl⟩
  obtain ⟨SB, hSB⟩ : ∃ S, ByteArray.mk B.toArray = S := ⟨_, rfl⟩
  rcases hcase with ⟨rfl, hc⟩ | ⟨rfl, hB1, hc⟩
  · simp only [hc.out] at HCU
    simp only [hSA, hSB] at HCU HAA HAT
    clear hc hA hB hSA hSB
    have tok1 : True := trivial
    go_enter Tryd.func12, Tryd.ntmps12
    go_upto_region 4 with (go_at_call 33; go_must (refine (HCU.out _ (by repeat (first | with_reducible exact Later.refl _ | with_reducible assumption | with_reducible refine Later.ofdrew ?_ | with_reducible refine Later.ofdrewN ?_ | with_reducible refine Later.setCell ?_ ?_ _ | with_reducible refine Later.alloc ?_ _ | with_reducible refine Later.drewN ?_ _ | with_reducible refine Later.drew ?_ | (with_reducible refine Later.trans ?_ (by assumption)) | (simp only [World.size_setCell, World.size_alloc, World.heap_drewN]; omega) | (simp; done) | (simp; omega)))).mono ?_; rintro e w2 ⟨rfl, hb2⟩))
    refine wp_opaque (fun W4 hb4 => ?_)
    have hO4 := Own.one (Later.trans (show Later (w.alloc _) _ by repeat (first | with_reducible exact Later.refl _ | with_reducible assumption | with_reducible refine Later.ofdrew ?_ | with_reducible refine Later.ofdrewN ?_ | with_reducible refine Later.setCell ?_ ?_ _ | with_reducible refine Later.alloc ?_ _ | with_reducible refine Later.drewN ?_ _ | with_reducible refine Later.drew ?_ | (with_reducible refine Later.trans ?_ (by assumption)) | (simp only [World.size_setCell, World.size_alloc, World.heap_drewN]; omega) | (simp; done) | (simp; omega))) hb4)
    have HO4 := Lib.hid hO4
    have hw4 : Later w W4 := Later.trans (by repeat (first | with_reducible exact Later.refl _ | with_reducible assumption | with_reducible refine Later.ofdrew ?_ | with_reducible refine Later.ofdrewN ?_ | with_reducible refine Later.setCell ?_ ?_ _ | with_reducible refine Later.alloc ?_ _ | with_reducible refine Later.drewN ?_ _ | with_reducible refine Later.drew ?_ | (with_reducible refine Later.trans ?_ (by assumption)) | (simp only [World.size_setCell, World.size_alloc, World.heap_drewN]; omega) | (simp; done) | (simp; omega))) hb4
    clear hb4 hO4
    go_upto_region 8 with (first | (go_at_call 34; clear tok1; go_must (refine (HAA.out _ (hw4.trans (by repeat (first | with_reducible exact Later.refl _ | with_reducible assumption | with_reducible refine Later.ofdrew ?_ | with_reducible refine Later.ofdrewN ?_ | with_reducible refine Later.setCell ?_ ?_ _ | with_reducible refine Later.alloc ?_ _ | with_reducible refine Later.drewN ?_ _ | with_reducible refine Later.drew ?_ | (with_reducible refine Later.trans ?_ (by assumption)) | (simp only [World.size_setCell, World.size_alloc, World.heap_drewN]; omega) | (simp; done) | (simp; omega))))).mono ?_; rintro e w5 ⟨v1, ev1, rfl, hv1, hc1, hb5⟩; have HC1 := Lib.hid hc1; clear hc1)) | (go_at_call 34; go_must (refine (HAT.out _ (hw4.trans (by repeat (first | with_reducible exact Later.refl _ | with_reducible assumption | with_reducible refine Later.ofdrew ?_ | with_reducible refine Later.ofdrewN ?_ | with_reducible refine Later.setCell ?_ ?_ _ | with_reducible refine Later.alloc ?_ _ | with_reducible refine Later.drewN ?_ _ | with_reducible refine Later.drew ?_ | (with_reducible refine Later.trans ?_ (by assumption)) | (simp only [World.size_setCell, World.size_alloc, World.heap_drewN]; omega) | (simp; done) | (simp; omega))))).mono ?_; rintro e w6 ⟨v2, ev2, rfl, hv2, hc2, hb6⟩; have HC2 := Lib.hid hc2; clear hc2)) | (go_at_call 10; go_must (refine (HPR.out v1 v2 hv1 hv2 _ (hw4.trans (by repeat (first | with_reducible exact Later.refl _ | with_reducible assumption | with_reducible refine Later.ofdrew ?_ | with_reducible refine Later.ofdrewN ?_ | with_reducible refine Later.setCell ?_ ?_ _ | with_reducible refine Later.alloc ?_ _ | with_reducible refine Later.drewN ?_ _ | with_reducible refine Later.drew ?_ | (with_reducible refine Later.trans ?_ (by assumption)) | (simp only [World.size_setCell, World.size_alloc, World.heap_drewN]; omega) | (simp; done) | (simp; omega))))).mono ?_; rintro e w7 ⟨rfl, hb7⟩)))
    refine wp_opaque (fun W8 hb8 => ?_)
    have hl64 : Later W4 w6 := by repeat (first | with_reducible exact Later.refl _ | with_reducible assumption | with_reducible refine Later.ofdrew ?_ | with_reducible refine Later.ofdrewN ?_ | with_reducible refine Later.setCell ?_ ?_ _ | with_reducible refine Later.alloc ?_ _ | with_reducible refine Later.drewN ?_ _ | with_reducible refine Later.drew ?_ | (with_reducible refine Later.trans ?_ (by assumption)) | (simp only [World.size_setCell, World.size_alloc, World.heap_drewN]; omega) | (simp; done) | (simp; omega))
    have hO8 := Own.one (w := w6) (Later.trans (show Later (w6.alloc _) _ by repeat (first | with_reducible exact Later.refl _ | with_reducible assumption | with_reducible refine Later.ofdrew ?_ | with_reducible refine Later.ofdrewN ?_ | with_reducible refine Later.setCell ?_ ?_ _ | with_reducible refine Later.alloc ?_ _ | with_reducible refine Later.drewN ?_ _ | with_reducible refine Later.drew ?_ | (with_reducible refine Later.trans ?_ (by assumption)) | (simp only [World.size_setCell, World.size_alloc, World.heap_drewN]; omega) | (simp; done) | (simp; omega))) hb8)
    have hlow : Later w6 W8 := Later.un1 (Later.trans (show Later (w6.alloc _) _ by repeat (first | with_reducible exact Later.refl _ | with_reducible assumption | with_reducible refine Later.ofdrew ?_ | with_reducible refine Later.ofdrewN ?_ | with_reducible refine Later.setCell ?_ ?_ _ | with_reducible refine Later.alloc ?_ _ | with_reducible refine Later.drewN ?_ _ | with_reducible refine Later.drew ?_ | (with_reducible refine Later.trans ?_ (by assumption)) | (simp only [World.size_setCell, World.size_alloc, World.heap_drewN]; omega) | (simp; done) | (simp; omega))) hb8)
    have hO9 := HO4.out.later (hl64.trans hlow)
    have hw8 : Later w W8 := hw4.trans (hl64.trans hlow)
    have hne : w.heap.size ≠ w6.heap.size := by have := Later.size hl64; have := HO4.out.1.1; omega
    have hge : w.heap.size ≤ w6.heap.size := by have := Later.size (hw4.trans hl64); omega
    clear hb8 hb5 hb6 hb7 HO4 HAA HAT HPR hlow hl64 hw4
    obtain ⟨⟨z8, d8, f8⟩, -⟩ := hO8
    obtain ⟨⟨z9, d9, f9⟩, -⟩ := hO9
    obtain ⟨SP, hSP⟩ : ∃ S, ByteArray.mk (printR v1 v2).toArray = S := ⟨_, rfl⟩
    obtain ⟨SS, hSS⟩ : ∃ S, ByteArray.mk s.toArray = S := ⟨_, rfl⟩
    rw [hSP, hSS]
    have HSP := Lib.hid hSP
    have HSS := Lib.hid hSS
    clear hSP hSS
    rcases HC1.out with ⟨rfl, ha⟩ | ⟨⟨q1, rfl⟩, ha⟩
    · rcases HC2.out with ⟨rfl, hb⟩ | ⟨⟨q2, rfl⟩, hb⟩
      · by_cases hc : chkE v1 v2 = 0
        · by_cases ht : textR v1 v2 = s
          · have HRP : Hid (RP s v1 v2 0) := Lib.hid (.inl ⟨rfl, hc, ht.symm, hv1, hv2⟩)
            have hPS : SP = SS := by rw [← HSP.out, ← HSS.out]; unfold printR; rw [if_pos hc, ht]
            subst hPS
            rw [hc]
            clear ha hb hc ht HC1 HC2 HSP HSS hv1 hv2 HAB
            go_wp2
            exact bodyPost_ret (v := .tuple #[.agg #[.int .i64 v1, .int .i64 v2], .int .i64 0]) (by simp [results, Tryd.results12, go_sem, *]) rfl ⟨⟨_, _, _, rfl, HRP.out⟩, (hw8.putCell (by omega) _).putCell (by omega) _⟩
          · have HRP : Hid (RP s 0 0 13) := Lib.hid (RP_bad HAB.out (.inr (.inr ⟨v1, v2, ha, hb, .inr ht⟩)))
            have hPS : SP ≠ SS := by
              rw [← HSP.out, ← HSS.out]; unfold printR; rw [if_pos hc]
              intro e
              exact ht (by have := congrArg (fun b : ByteArray => b.data.toList) e; simpa using this)
            have hs1 : (SP.data.toList == SS.data.toList) = false := by rw [beq_eq_false_iff_ne]; exact fun e => hPS (ByteArray.ext (Array.toList_inj.1 e))
            have hs3 : (SP.toList == SS.toList) = false := by
              rw [beq_eq_false_iff_ne]
              exact fun e => hPS (ba_toList_inj e)
            rw [hc]
            clear ha hb hc ht HC1 HC2 HSP HSS hv1 hv2 HAB
            go_wp2
            exact bodyPost_ret (v := .tuple #[.agg #[.int .i64 0, .int .i64 0], .int .i64 13]) (by simp [results, Tryd.results12, go_sem, *]) rfl ⟨⟨_, _, _, rfl, HRP.out⟩, (hw8.putCell (by omega) _).putCell (by omega) _⟩
        · have HRP : Hid (RP s 0 0 13) := Lib.hid (RP_bad HAB.out (.inr (.inr ⟨v1, v2, ha, hb, .inl hc⟩)))
          have hc2 : (chkE v1 v2 != 0) = true := by rw [bne_iff_ne]; exact hc
          have hc3 : (chkE v1 v2 == 0) = false := by rw [beq_eq_false_iff_ne]; exact hc
          clear ha hb hc HC1 HC2 HSP HSS hv1 hv2 HAB
          generalize chkE v1 v2 = c at *
          go_wp2
          exact bodyPost_ret (v := .tuple #[.agg #[.int .i64 0, .int .i64 0], .int .i64 13]) (by simp [results, Tryd.results12, go_sem, *]) rfl ⟨⟨_, _, _, rfl, HRP.out⟩, (hw8.putCell (by omega) _).putCell (by omega) _⟩
      · have HRP : Hid (RP s 0 0 13) := Lib.hid (RP_bad HAB.out (.inr (.inl hb)))
        clear ha hb HC1 HC2 HSP HSS hv1 hv2 HAB
        generalize chkE v1 v2 = c at *
        go_wp2
        exact bodyPost_ret (v := .tuple #[.agg #[.int .i64 0, .int .i64 0], .int .i64 13]) (by simp [results, Tryd.results12, go_sem, *]) rfl ⟨⟨_, _, _, rfl, HRP.out⟩, (hw8.putCell (by omega) _).putCell (by omega) _⟩
    · have HRP : Hid (RP s 0 0 13) := Lib.hid (RP_bad HAB.out (.inl ha))
      clear ha HC1 HC2 HSP HSS hv1 hv2 HAB
      generalize chkE v1 v2 = c at *
      go_wp2
      exact bodyPost_ret (v := .tuple #[.agg #[.int .i64 0, .int .i64 0], .int .i64 13]) (by simp [results, Tryd.results12, go_sem, *]) rfl ⟨⟨_, _, _, rfl, HRP.out⟩, (hw8.putCell (by omega) _).putCell (by omega) _⟩
  · simp only [hc.out] at HCU
    simp only [hSA, hSB] at HCU HAA HAT
    have hSB1 : SB = ⟨#[49]⟩ := by rw [← hSB, hB1]
    rw [hSB1] at HAT
    clear hc hA hB hB1 hSA hSB hSB1
    have tok1 : True := trivial
    go_enter Tryd.func12, Tryd.ntmps12
    go_upto_region 4 with (go_at_call 33; go_must (refine (HCU.out _ (by repeat (first | with_reducible exact Later.refl _ | with_reducible assumption | with_reducible refine Later.ofdrew ?_ | with_reducible refine Later.ofdrewN ?_ | with_reducible refine Later.setCell ?_ ?_ _ | with_reducible refine Later.alloc ?_ _ | with_reducible refine Later.drewN ?_ _ | with_reducible refine Later.drew ?_ | (with_reducible refine Later.trans ?_ (by assumption)) | (simp only [World.size_setCell, World.size_alloc, World.heap_drewN]; omega) | (simp; done) | (simp; omega)))).mono ?_; rintro e w2 ⟨rfl, hb2⟩))
    refine wp_opaque (fun W4 hb4 => ?_)
    have hO4 := Own.one (Later.trans (show Later (w.alloc _) _ by repeat (first | with_reducible exact Later.refl _ | with_reducible assumption | with_reducible refine Later.ofdrew ?_ | with_reducible refine Later.ofdrewN ?_ | with_reducible refine Later.setCell ?_ ?_ _ | with_reducible refine Later.alloc ?_ _ | with_reducible refine Later.drewN ?_ _ | with_reducible refine Later.drew ?_ | (with_reducible refine Later.trans ?_ (by assumption)) | (simp only [World.size_setCell, World.size_alloc, World.heap_drewN]; omega) | (simp; done) | (simp; omega))) hb4)
    have HO4 := Lib.hid hO4
    have hw4 : Later w W4 := Later.trans (by repeat (first | with_reducible exact Later.refl _ | with_reducible assumption | with_reducible refine Later.ofdrew ?_ | with_reducible refine Later.ofdrewN ?_ | with_reducible refine Later.setCell ?_ ?_ _ | with_reducible refine Later.alloc ?_ _ | with_reducible refine Later.drewN ?_ _ | with_reducible refine Later.drew ?_ | (with_reducible refine Later.trans ?_ (by assumption)) | (simp only [World.size_setCell, World.size_alloc, World.heap_drewN]; omega) | (simp; done) | (simp; omega))) hb4
    clear hb4 hO4
    go_upto_region 8 with (first | (go_at_call 34; clear tok1; go_must (refine (HAA.out _ (hw4.trans (by repeat (first | with_reducible exact Later.refl _ | with_reducible assumption | with_reducible refine Later.ofdrew ?_ | with_reducible refine Later.ofdrewN ?_ | with_reducible refine Later.setCell ?_ ?_ _ | with_reducible refine Later.alloc ?_ _ | with_reducible refine Later.drewN ?_ _ | with_reducible refine Later.drew ?_ | (with_reducible refine Later.trans ?_ (by assumption)) | (simp only [World.size_setCell, World.size_alloc, World.heap_drewN]; omega) | (simp; done) | (simp; omega))))).mono ?_; rintro e w5 ⟨v1, ev1, rfl, hv1, hc1, hb5⟩; have HC1 := Lib.hid hc1; clear hc1)) | (go_at_call 34; go_must (refine (HAT.out _ (hw4.trans (by repeat (first | with_reducible exact Later.refl _ | with_reducible assumption | with_reducible refine Later.ofdrew ?_ | with_reducible refine Later.ofdrewN ?_ | with_reducible refine Later.setCell ?_ ?_ _ | with_reducible refine Later.alloc ?_ _ | with_reducible refine Later.drewN ?_ _ | with_reducible refine Later.drew ?_ | (with_reducible refine Later.trans ?_ (by assumption)) | (simp only [World.size_setCell, World.size_alloc, World.heap_drewN]; omega) | (simp; done) | (simp; omega))))).mono ?_; rintro e w6 ⟨v2, ev2, rfl, hv2, hc2, hb6⟩; have HC2 := Lib.hid hc2; clear hc2)) | (go_at_call 10; go_must (refine (HPR.out v1 v2 hv1 hv2 _ (hw4.trans (by repeat (first | with_reducible exact Later.refl _ | with_reducible assumption | with_reducible refine Later.ofdrew ?_ | with_reducible refine Later.ofdrewN ?_ | with_reducible refine Later.setCell ?_ ?_ _ | with_reducible refine Later.alloc ?_ _ | with_reducible refine Later.drewN ?_ _ | with_reducible refine Later.drew ?_ | (with_reducible refine Later.trans ?_ (by assumption)) | (simp only [World.size_setCell, World.size_alloc, World.heap_drewN]; omega) | (simp; done) | (simp; omega))))).mono ?_; rintro e w7 ⟨rfl, hb7⟩)))
    refine wp_opaque (fun W8 hb8 => ?_)
    have hl64 : Later W4 w6 := by repeat (first | with_reducible exact Later.refl _ | with_reducible assumption | with_reducible refine Later.ofdrew ?_ | with_reducible refine Later.ofdrewN ?_ | with_reducible refine Later.setCell ?_ ?_ _ | with_reducible refine Later.alloc ?_ _ | with_reducible refine Later.drewN ?_ _ | with_reducible refine Later.drew ?_ | (with_reducible refine Later.trans ?_ (by assumption)) | (simp only [World.size_setCell, World.size_alloc, World.heap_drewN]; omega) | (simp; done) | (simp; omega))
    have hO8 := Own.one (w := w6) (Later.trans (show Later (w6.alloc _) _ by repeat (first | with_reducible exact Later.refl _ | with_reducible assumption | with_reducible refine Later.ofdrew ?_ | with_reducible refine Later.ofdrewN ?_ | with_reducible refine Later.setCell ?_ ?_ _ | with_reducible refine Later.alloc ?_ _ | with_reducible refine Later.drewN ?_ _ | with_reducible refine Later.drew ?_ | (with_reducible refine Later.trans ?_ (by assumption)) | (simp only [World.size_setCell, World.size_alloc, World.heap_drewN]; omega) | (simp; done) | (simp; omega))) hb8)
    have hlow : Later w6 W8 := Later.un1 (Later.trans (show Later (w6.alloc _) _ by repeat (first | with_reducible exact Later.refl _ | with_reducible assumption | with_reducible refine Later.ofdrew ?_ | with_reducible refine Later.ofdrewN ?_ | with_reducible refine Later.setCell ?_ ?_ _ | with_reducible refine Later.alloc ?_ _ | with_reducible refine Later.drewN ?_ _ | with_reducible refine Later.drew ?_ | (with_reducible refine Later.trans ?_ (by assumption)) | (simp only [World.size_setCell, World.size_alloc, World.heap_drewN]; omega) | (simp; done) | (simp; omega))) hb8)
    have hO9 := HO4.out.later (hl64.trans hlow)
    have hw8 : Later w W8 := hw4.trans (hl64.trans hlow)
    have hne : w.heap.size ≠ w6.heap.size := by have := Later.size hl64; have := HO4.out.1.1; omega
    have hge : w.heap.size ≤ w6.heap.size := by have := Later.size (hw4.trans hl64); omega
    clear hb8 hb5 hb6 hb7 HO4 HAA HAT HPR hlow hl64 hw4
    obtain ⟨⟨z8, d8, f8⟩, -⟩ := hO8
    obtain ⟨⟨z9, d9, f9⟩, -⟩ := hO9
    obtain ⟨SP, hSP⟩ : ∃ S, ByteArray.mk (printR v1 v2).toArray = S := ⟨_, rfl⟩
    obtain ⟨SS, hSS⟩ : ∃ S, ByteArray.mk s.toArray = S := ⟨_, rfl⟩
    rw [hSP, hSS]
    have HSP := Lib.hid hSP
    have HSS := Lib.hid hSS
    clear hSP hSS
    rcases HC1.out with ⟨rfl, ha⟩ | ⟨⟨q1, rfl⟩, ha⟩
    · rcases HC2.out with ⟨rfl, hb⟩ | ⟨⟨q2, rfl⟩, hb⟩
      · by_cases hc : chkE v1 v2 = 0
        · by_cases ht : textR v1 v2 = s
          · have HRP : Hid (RP s v1 v2 0) := Lib.hid (.inl ⟨rfl, hc, ht.symm, hv1, hv2⟩)
            have hPS : SP = SS := by rw [← HSP.out, ← HSS.out]; unfold printR; rw [if_pos hc, ht]
            subst hPS
            rw [hc]
            clear ha hb hc ht HC1 HC2 HSP HSS hv1 hv2 HAB
            go_wp2
            exact bodyPost_ret (v := .tuple #[.agg #[.int .i64 v1, .int .i64 v2], .int .i64 0]) (by simp [results, Tryd.results12, go_sem, *]) rfl ⟨⟨_, _, _, rfl, HRP.out⟩, (hw8.putCell (by omega) _).putCell (by omega) _⟩
          · have HRP : Hid (RP s 0 0 13) := Lib.hid (RP_bad HAB.out (.inr (.inr ⟨v1, v2, ha, hb, .inr ht⟩)))
            have hPS : SP ≠ SS := by
              rw [← HSP.out, ← HSS.out]; unfold printR; rw [if_pos hc]
              intro e
              exact ht (by have := congrArg (fun b : ByteArray => b.data.toList) e; simpa using this)
            have hs1 : (SP.data.toList == SS.data.toList) = false := by rw [beq_eq_false_iff_ne]; exact fun e => hPS (ByteArray.ext (Array.toList_inj.1 e))
            have hs3 : (SP.toList == SS.toList) = false := by
              rw [beq_eq_false_iff_ne]
              exact fun e => hPS (ba_toList_inj e)
            rw [hc]
            clear ha hb hc ht HC1 HC2 HSP HSS hv1 hv2 HAB
            go_wp2
            exact bodyPost_ret (v := .tuple #[.agg #[.int .i64 0, .int .i64 0], .int .i64 13]) (by simp [results, Tryd.results12, go_sem, *]) rfl ⟨⟨_, _, _, rfl, HRP.out⟩, (hw8.putCell (by omega) _).putCell (by omega) _⟩
        · have HRP : Hid (RP s 0 0 13) := Lib.hid (RP_bad HAB.out (.inr (.inr ⟨v1, v2, ha, hb, .inl hc⟩)))
          have hc2 : (chkE v1 v2 != 0) = true := by rw [bne_iff_ne]; exact hc
          have hc3 : (chkE v1 v2 == 0) = false := by rw [beq_eq_false_iff_ne]; exact hc
          clear ha hb hc HC1 HC2 HSP HSS hv1 hv2 HAB
          generalize chkE v1 v2 = c at *
          go_wp2
          exact bodyPost_ret (v := .tuple #[.agg #[.int .i64 0, .int .i64 0], .int .i64 13]) (by simp [results, Tryd.results12, go_sem, *]) rfl ⟨⟨_, _, _, rfl, HRP.out⟩, (hw8.putCell (by omega) _).putCell (by omega) _⟩
      · have HRP : Hid (RP s 0 0 13) := Lib.hid (RP_bad HAB.out (.inr (.inl hb)))
        clear ha hb HC1 HC2 HSP HSS hv1 hv2 HAB
        generalize chkE v1 v2 = c at *
        go_wp2
        exact bodyPost_ret (v := .tuple #[.agg #[.int .i64 0, .int .i64 0], .int .i64 13]) (by simp [results, Tryd.results12, go_sem, *]) rfl ⟨⟨_, _, _, rfl, HRP.out⟩, (hw8.putCell (by omega) _).putCell (by omega) _⟩
    · have HRP : Hid (RP s 0 0 13) := Lib.hid (RP_bad HAB.out (.inl ha))
      clear ha HC1 HC2 HSP HSS hv1 hv2 HAB
      generalize chkE v1 v2 = c at *
      go_wp2
      exact bodyPost_ret (v := .tuple #[.agg #[.int .i64 0, .int .i64 0], .int .i64 13]) (by simp [results, Tryd.results12, go_sem, *]) rfl ⟨⟨_, _, _, rfl, HRP.out⟩, (hw8.putCell (by omega) _).putCell (by omega) _⟩
end Go.Proofs.YtckeaibamgkegaaDoor
