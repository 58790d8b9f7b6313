/- facts made of facts that are told, however many -/
import Derived.Test.YtkjabiabeemfhaaGreatDoorW31
import Derived.Test.YtkjabiabeemfhaaGreatDoorX1
import Derived.Test.YtkjabiabeemfhaaGreatDoorW18
import Derived.Test.YtkjabiabeemfhaaGreatDoorW16
import Derived.Test.YtkjabiabeemfhaaGreatDoorW11
set_option linter.all false
set_option linter.all false
section
namespace Go.Proofs.YtkjabiabeemfhaaGreatDoor
open Go.RowKit Go.Sort
theorem insF_len (l : List Fl) (x : Fl) : (insL ordF l x).length = l.length + 1 := by
  unfold insL
  simp only [List.length_append, List.length_cons, List.length_nil]
  have := congrArg List.length (List.takeWhile_append_dropWhile (p := fun y => !ltOf ordF x y) (l := l))
  simp only [List.length_append] at this
  omega
structure StopI (env : Env) (ts : List Nd) (T : Tm) (day last : Int) (s : RunS) (F : List Fl) : Prop where
  comes : Comes ts env ⟨T, 0, day, 1, 1⟩ F s
  holds : Holds env ⟨T, 0, day, 1, 1⟩ s
  fit : RunFit ts s
  le : s.day = -1 ∨ s.day ≤ last
section
variable {env : Env} {ts : List Nd} {T : Tm} {day last : Int} {s : RunS} {F : List Fl}
theorem StopI.new (hG : Good ts T) (hm : makesI T.root.op = 2) (h0 : 0 ≤ day) (h1 : day ≤ 73048) : StopI env ts T day last (newR T day) [] :=
  ⟨comes_new _ _ _ _, holds_new _ _ _, RunFit.new hG hm h0 h1, .inl rfl⟩
theorem go_cases (env : Env) (s : RunS) (tod : Int) : (tod < s.day ∨ 73048 < tod) ∧ goR env s tod = (18, [], s) ∨ ¬ (tod < s.day ∨ 73048 < tod) ∧ ((runQ env tod (sizesH s.L) s.L).1 = 0 ∧ (goR env s tod).1 = 0 ∨ (runQ env tod (sizesH s.L) s.L).1 ≠ 0 ∧ goR env s tod = ((runQ env tod (sizesH s.L) s.L).1, [], s)) := by
  by_cases h : tod < s.day ∨ 73048 < tod
  · exact .inl ⟨h, goR_early h⟩
  · by_cases h1 : (runQ env tod (sizesH s.L) s.L).1 = 0
    · exact .inr ⟨h, .inl ⟨h1, by rw [goR_done h h1]⟩⟩
    · exact .inr ⟨h, .inr ⟨h1, goR_over h h1⟩⟩
theorem StopI.go (hG : Good ts T) (hok : ∀ x ∈ ts, x.ok) (hE : EnvOk env) (h : StopI env ts T day last s F) {tod : Int} (ht : tod ≤ last) (hc : (goR env s tod).1 ≠ 11) : StopI env ts T day last (goR env s tod).2.2 (F ++ (goR env s tod).2.1) := by
  rcases go_cases env s tod with ⟨h0, e⟩ | ⟨h0, ⟨h1, e⟩ | ⟨h1, e⟩⟩
  · rw [e]; simpa using h
  · obtain ⟨-, -, -, c⟩ := go_comes hG hok hE h.fit.ok h.comes h0 h1
    obtain ⟨d, -⟩ := go_holds hG hok hE h.fit.ok h.holds h0 h1
    refine ⟨c, d, h.fit.go hG hok hE tod, .inr ?_⟩
    rw [goR_done h0 h1]
    exact ht
  · rcases run_code (tod := tod) hG hok hE (sizesH s.L) s.L h.fit.ok.held with h2 | h2
    · exact absurd h2 h1
    · rw [e] at hc; exact absurd h2 hc
theorem over_none (env : Env) (s : RunS) (tod : Int) (h : s.L = []) : (goR env s tod).2.1 = [] := by
  rcases go_cases env s tod with ⟨h0, e⟩ | ⟨h0, ⟨h1, -⟩ | ⟨h1, e⟩⟩
  · rw [e]
  · rw [goR_done h0 h1, h]
    simp [sizesH, runQ, sortL]
  · rw [e]
theorem stop_end (hG : Good ts T) (hm : makesI T.root.op = 2) (hok : ∀ x ∈ ts, x.ok) (hE : EnvOk env) (h0 : 0 ≤ day) (h1 : day ≤ 73048) (h : StopI env ts T day last s F) (hc : (goR env s last).1 ≠ 11) :
    (goR env (newR T day) last).1 = 18 ∨ (goR env (newR T day) last).1 = 0 ∧ (goR env s last).2.2.day = (goR env (newR T day) last).2.2.day ∧ sortL ordF (F ++ (goR env s last).2.1) = (goR env (newR T day) last).2.1 ∧ (goR env s last).2.2.W = (goR env (newR T day) last).2.2.W ∧ decide ((goR env s last).2.2.L = []) = decide ((goR env (newR T day) last).2.2.L = []) := by
  have hn : StopI env ts T day last (newR T day) [] := StopI.new hG hm h0 h1
  rcases go_cases env (newR T day) last with ⟨k0, e⟩ | ⟨k0, hk⟩
  · rw [e]; exact .inl rfl
  · right
    have hday : (newR T day).day = -1 := rfl
    rw [hday] at k0
    have n0 : ¬ (last < s.day ∨ 73048 < last) := by
      rcases h.le with e | e <;> omega
    rcases go_cases env s last with ⟨c0, -⟩ | ⟨-, ⟨c1, -⟩ | ⟨c1, e⟩⟩
    · exact absurd c0 n0
    · obtain ⟨d1, d2, d3, -⟩ := go_comes hG hok hE h.fit.ok h.comes n0 c1
      obtain ⟨-, d4⟩ := go_holds hG hok hE h.fit.ok h.holds n0 c1
      have k1 : (runQ env last (sizesH (newR T day).L) (newR T day).L).1 = 0 := by
        have hr := run_den env last (sizesH (newR T day).L) (newR T day).L (Nat.le_refl _)
        refine hr.1.2 (combL_fst.2 (fun r hr' => ?_))
        have : r = den env last ⟨T, 0, day, 1, 1⟩ := by simpa [newR] using hr'
        rw [this]; exact d1
      have k0' : ¬ (last < (newR T day).day ∨ 73048 < last) := by rw [hday]; exact k0
      obtain ⟨-, f2, f3, -⟩ := go_comes hG hok hE hn.fit.ok hn.comes k0' k1
      obtain ⟨-, f4⟩ := go_holds hG hok hE hn.fit.ok hn.holds k0' k1
      refine ⟨by rw [goR_done k0' k1], by rw [goR_done k0' k1, goR_done n0 c1], ?_, by rw [← d3, ← f3], ?_⟩
      · rw [← d2, f2, List.nil_append]
        rw [goR_done k0' k1]
        exact sort_same swoF totF (sortL_perm _ _)
      · have hl := (d4.trans f4.symm).length_eq
        rw [Bool.eq_iff_iff, decide_eq_true_iff, decide_eq_true_iff, ← List.length_eq_zero_iff, ← List.length_eq_zero_iff, hl]
    · rcases run_code (tod := last) hG hok hE (sizesH s.L) s.L h.fit.ok.held with h2 | h2
      · exact absurd h2 c1
      · rw [e] at hc; exact absurd h2 hc
end
end Go.Proofs.YtkjabiabeemfhaaGreatDoor
end
section
namespace Go.Proofs.YtkjabiabeemfhaaGreatDoor
open Go.RowKit
set_option maxRecDepth 100000
theorem row_len {α : Type} {sz : Nat} {f : α → Nat → Value} {w : World} {v : Value} {xs : List α} (h : IsRow sz f w v xs) : xs.length ≤ 9223372036854775807 := by
  rcases h with ⟨_, rfl⟩ | ⟨b, o, cap, h1, h2, h3, h4, h5⟩
  · exact Nat.zero_le _
  · unfold maxLen at h4; omega
set_option maxHeartbeats 1600000 in
theorem made_big (l : List Td) (hlen : l.length ≤ 9223372036854775807) (hok : ∀ x ∈ l, x.ok) (v : Value) (w : World) (hN : IsTolds w v l) :
    Calls Tryz.prog 15 #[v] w fun e w' => ∃ p m1 m2, e = .returned (.pointer (some ⟨p, 0, none⟩)) ∧ FactsAt w' p m1 m2 (madeFx l) (madeCh l) ∧ w.heap.size ≤ m1 ∧ w.heap.size ≤ m2 ∧ Later w w' := by
  obtain ⟨p0, cp, rfl⟩ := hN.form
  have HN := Lib.hid hN
  have HNEW := Lib.hid (fnew_any w)
  have HTL := Lib.hid (fun (j : Nat) (h : j < l.length) p m1 m2 fx ch W hF => tell_any p m1 m2 fx ch l[j] W hF (hok _ (List.getElem_mem _)))
  clear hok hN
  obtain ⟨L, hL⟩ : ∃ L, l.length = L := ⟨_, rfl⟩
  rw [hL] at HN hlen ⊢
  have HL := Lib.hid hL
  clear hL
  go_enter Tryz.func15, Tryz.ntmps15
  go_wp2_with (go_at_call 36; go_must (refine HNEW.out.mono ?_; rintro e w1 ⟨p, m1, m2, rfl, hF1, h1, h2, hb1⟩))
  have HF1 := Lib.hid hF1
  clear hF1 HNEW
  go_loopw [4] (fun s4 wr => ∃ j : Nat, j ≤ L ∧ s4 = .int .i64 j ∧ Hid (FactsAt wr p m1 m2 ((l.take j).foldl tellFx []) ((l.take j).foldl tellCh [])) ∧ Later w wr) (fun s4 _ => L - (intOf s4).toNat)
  case atStart => exact ⟨0, Nat.zero_le _, rfl, HF1, hb1⟩
  case round =>
    obtain ⟨j, hj, rfl, hF, hlat⟩ := hrel
    by_cases hlt : j < L
    · have hjl : j < l.length := by rw [HL.out]; exact hlt
      obtain ⟨b, o, cp2, hv, hb, gg⟩ := HN.out.full (i := j) hjl
      rw [HL.out] at hv
      cases hv
      have g0 := ((bcell hlat).1 _ _ hb).trans (gg 0 (by omega))
      have g1 := ((bcell hlat).1 _ _ hb).trans (gg 1 (by omega))
      have g2 := ((bcell hlat).1 _ _ hb).trans (gg 2 (by omega))
      have g3 := ((bcell hlat).1 _ _ hb).trans (gg 3 (by omega))
      have g4 := ((bcell hlat).1 _ _ hb).trans (gg 4 (by omega))
      have g5 := ((bcell hlat).1 _ _ hb).trans (gg 5 (by omega))
      have HC := Lib.hid (HTL.out j hjl p m1 m2 _ _ wr hF.out)
      have ht : l.take (j + 1) = l.take j ++ [l[j]] := List.take_succ_eq_append_getElem hjl
      have HT1 := Lib.hid (show (l.take (j + 1)).foldl tellFx [] = tellFx ((l.take j).foldl tellFx []) l[j] by rw [ht, List.foldl_append]; rfl)
      have HT2 := Lib.hid (show (l.take (j + 1)).foldl tellCh [] = tellCh ((l.take j).foldl tellCh []) l[j] by rw [ht, List.foldl_append]; rfl)
      unfold Td.val at HC
      simp only [Td.cell, Nat.add_zero] at g0 g1 g2 g3 g4 g5
      generalize (l[j]).c = x0 at g0 HC
      generalize (l[j]).k = x1 at g1 HC
      generalize (l[j]).d = x2 at g2 HC
      generalize (l[j]).n = x3 at g3 HC
      generalize (l[j]).m = x4 at g4 HC
      generalize (l[j]).p = x5 at g5 HC
      clear gg ht hF HTL
      go_wp2_with (go_at_call 26; go_must (refine HC.out.mono ?_; rintro e w3 ⟨rfl, hF3, mm, hmm, hg3⟩))
      go_roundw
      case rel => exact ⟨j + 1, by omega, by go_num, Lib.hid (by rw [HT1.out, HT2.out]; exact hF3), Later.grown hlat hg3 (fun k e => by cases e; rcases hmm with rfl | rfl <;> assumption)⟩
      case measure => simp [intOf]; omega
    · have hfin : l.take j = l := List.take_of_length_le (by rw [HL.out]; omega)
      have hFF := hF.out
      rw [hfin] at hFF
      have HFF := Lib.hid hFF
      clear hF hFF hfin
      go_wp2
      go_ret
      exact ⟨p, m1, m2, rfl, HFF.out, h1, h2, hlat⟩
end Go.Proofs.YtkjabiabeemfhaaGreatDoor
end
