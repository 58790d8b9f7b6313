/- walks: chattelref02: common -/
import Derived.Test.YtckeaibamgkegaaDoorRefM
set_option linter.all false
namespace Go.Proofs.YtckeaibamgkegaaDoor
open Go.RowKit
set_option maxRecDepth 100000

set_option maxHeartbeats 1600000 in
theorem qcommon_any (x y : Value) (s t : Bool) (a b : Nat) (w : World) (h : IsBig w x s a) (g : IsBig w y t b) (hL : nlen a ≤ 30000) (hM : nlen b ≤ 30000) :
    Calls Tryd.prog 54 #[x, y] w fun e w' => ∃ r, e = .returned r ∧ IsBig w' r false (Nat.gcd a b) ∧ Later w w' := by
  obtain ⟨p, cp, rfl, hv⟩ := h.open
  obtain ⟨q, cq, rfl, hu⟩ := g.open
  clear h g
  go_enter Tryd.func54, Tryd.ntmps54
  go_wp2
  refine wp_opaque (fun w0 hb0 => ?_)
  have hO := Own.three hb0
  have hw0 : Later w w0 := hb0.un1.un1.un1
  replace hv := hv.later hw0
  replace hu := hu.later hw0
  clear hb0
  go_loopg [5, 6] b (fun k s5 s6 wr => ∃ va vb a', Own wr [(w.heap.size, #[.bool false, va])] ∧ Own wr [(w.heap.size + 1, #[.bool false, vb])] ∧ Own wr [(w.heap.size + 1 + 1, #[.bool false, .slice none 0 0])] ∧
    Num wr va a' ∧ Num wr vb k ∧ Nat.gcd a' k = Nat.gcd a b ∧ nlen a' ≤ 30000 ∧ nlen k ≤ 30000 ∧ Later w wr)
  case atStart => exact ⟨_, _, a, ⟨hO.1, trivial⟩, ⟨hO.2.1, trivial⟩, ⟨hO.2.2.1, trivial⟩, hv, hu, rfl, hL, hM, hw0⟩
  case round =>
    obtain ⟨va, vb, a', O0, O1, O2, hva, hvb, hgcd, hLa, hLk, hlat⟩ := hrel
    obtain ⟨pa, ka, rfl⟩ := Row.form hva
    obtain ⟨pb, kb, rfl⟩ := Row.form hvb
    obtain ⟨z0, c0, f0⟩ := own_get O0
    obtain ⟨z1, c1, f1⟩ := own_get O1
    have HG := Lib.hid hgcd
    clear hgcd hv hu hO hw0
    by_cases hk : gk = 0
    · subst hk
      have hz : nlen 0 = 0 := rfl
      rw [hz] at c1
      have hga : a' = Nat.gcd a b := by rw [← HG.out, Nat.gcd_zero_right]
      subst hga
      obtain ⟨z2, c2, f2⟩ := own_get O2
      clear hz O0 O1 O2 hvb
      have HVA := Lib.hid hva
      clear hva
      go_wp2
      obtain ⟨e0, e1, hI⟩ := big_end (s := false) c2 HVA.out
      exact bodyPost_ret (v := .agg #[.bool false, .slice pa (nlen (Nat.gcd a b)) ka]) (by simp [results, Tryd.results54, go_sem, e0, e1]) rfl ⟨_, rfl, hI, (hlat.putCell (by omega) _).putCell (by omega) _⟩
    · have hp : 0 < nlen gk := nlen_pos.2 (by omega)
      have hmod : a' % gk < gk := Nat.mod_lt _ (by omega)
      have hml := nlen_mono (Nat.le_of_lt hmod)
      go_upto_region 5 with (go_at_call 55; go_must (refine (rparts_any _ _ false false a' gk _ ⟨_, rfl, hva⟩ ⟨_, rfl, hvb⟩ (by omega) (by omega) (by omega)).mono ?_; rintro e w1 ⟨qv, rv, rfl, hq, hr, hb1⟩; obtain ⟨pq, kq, eq1, hq1⟩ := hq.open; obtain ⟨pr, kr, er1, hr1⟩ := hr.open; subst eq1; subst er1))
      refine wp_opaque (fun w2 hb2 => ?_)
      have hO2 := Own.two hb2
      have hb3 : Later wr w2 := hb1.trans hb2.un1.un1
      replace hr1 := hr1.later hb2.un1.un1
      replace hvb := hvb.later hb3
      have hsz := Later.size hb1
      obtain ⟨-, ⟨z6, c6, -⟩, -⟩ := id hO2
      have hsz0 := Later.size hlat
      replace O0 := O0.later hb3
      replace O1 := O1.later hb3
      replace O2 := O2.later hb3
      clear c0 c1 f0 f1 z0 z1 hb2 hO2 hq hr hva hq1
      obtain ⟨z0, c0, f0⟩ := own_get O0
      obtain ⟨z1, c1, f1⟩ := own_get O1
      have hrel3 : ∀ (x0 x1 : Value), Own ((((w2.setCell ⟨w.heap.size, 0, none⟩ (.bool false)).setCell ⟨w.heap.size, 1, none⟩ x0).setCell ⟨w.heap.size + 1, 0, none⟩ (.bool false)).setCell ⟨w.heap.size + 1, 1, none⟩ x1) [(w.heap.size, #[.bool false, x0])] ∧
          Own ((((w2.setCell ⟨w.heap.size, 0, none⟩ (.bool false)).setCell ⟨w.heap.size, 1, none⟩ x0).setCell ⟨w.heap.size + 1, 0, none⟩ (.bool false)).setCell ⟨w.heap.size + 1, 1, none⟩ x1) [(w.heap.size + 1, #[.bool false, x1])] ∧
          Own ((((w2.setCell ⟨w.heap.size, 0, none⟩ (.bool false)).setCell ⟨w.heap.size, 1, none⟩ x0).setCell ⟨w.heap.size + 1, 0, none⟩ (.bool false)).setCell ⟨w.heap.size + 1, 1, none⟩ x1) [(w.heap.size + 1 + 1, #[.bool false, .slice none 0 0])] := by
        intro x0 x1
        refine ⟨((own_set2 O0).set_far ?_).set_far ?_, own_set2 ((O1.set_far ?_).set_far ?_), (((O2.set_far ?_).set_far ?_).set_far ?_).set_far ?_⟩ <;> (intro z hz; simp only [List.mem_cons, List.not_mem_nil, or_false] at hz; subst hz; first | (simp; done) | (simp; omega))
      have H3 := Lib.hid hrel3
      clear hrel3 O0 O1 O2
      have HR1 := Lib.hid hr1
      have HVB := Lib.hid hvb
      clear hr1 hvb
      go_wp2
      go_roundg (a' % gk)
      case measure => exact hmod
      case rel =>
        obtain ⟨n0, n1, n2⟩ := H3.out (.slice pb (nlen gk) kb) (.slice pr (nlen (a' % gk)) kr)
        have hc1 : ∀ i, ((w2.setCell ⟨w.heap.size, 0, none⟩ (.bool false)).setCell ⟨w.heap.size, 1, none⟩ (.slice pb (nlen gk) kb)).cell? ⟨w.heap.size + 1, i, none⟩ = #[Value.bool false, .slice pb (nlen gk) kb][i]? := set_far (set_far c1 _ (by omega)) _ (by omega)
        refine ⟨_, _, gk, n0, n1, n2, (HVB.out.set2 c0).set2 hc1, (HR1.out.set2 c0).set2 hc1, ?_, hLk, by omega, ?_⟩
        · rw [← HG.out, Nat.gcd_comm a' gk, Nat.gcd_rec gk a', Nat.gcd_comm]
        · exact ((((hlat.trans hb3).putCell (by omega) _).putCell (by omega) _).putCell (by omega) _).putCell (by omega) _
end Go.Proofs.YtckeaibamgkegaaDoor
