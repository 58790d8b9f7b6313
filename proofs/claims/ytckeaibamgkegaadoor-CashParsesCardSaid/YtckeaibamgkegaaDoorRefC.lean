/- walks: chattelref01: minus -/
import Derived.Test.YtckeaibamgkegaaDoorRefB
set_option linter.all false
namespace Go.Proofs.YtckeaibamgkegaaDoor
open Go.RowKit
set_option maxRecDepth 100000

set_option maxHeartbeats 1600000 in
theorem minus_own (v u : Value) (a b L M : Nat) (w : World) (h : Row w v a L) (g : Row w u b M) (hL : L ≤ 90000) (hM : M ≤ 90000) (hab : b ≤ a) :
    Calls Tryd.prog 88 #[v, u] w fun e w' => ∃ r, e = .returned r ∧ Num w' r (a - b) ∧ Later w w' ∧ ∀ k, r.ownBlock = some k → w.heap.size ≤ k := by
  obtain ⟨i0, hi, hz0, hz1, hz2⟩ := info_parts intInfo
  obtain ⟨p, cp, rfl⟩ := h.form
  obtain ⟨q, cq, rfl⟩ := g.form
  go_enter Tryd.func88, Tryd.ntmps88
  go_wp2
  go_loopw [5, 6, 7] (fun s5 s6 s7 wr => ∃ k : Nat, k ≤ L ∧ s7 = .int .i64 k ∧ s6 = .int .i64 (bow a b k) ∧ wr.ownsRow w.heap.size 3 1 s5 k (bitsV (a - b) k) ∧ Later w wr)
    (fun _ _ s7 _ => L - (intOf s7).toNat)
  case atStart => exact ⟨0, by omega, rfl, by rw [bow_zero], World.ownsRow_nil _ _ _ _, Later.refl _⟩
  case round =>
    obtain ⟨k, hk, rfl, rfl, hown, hlat⟩ := hrel
    have H1 := h.later hlat
    have H2 := g.later hlat
    have hsz := Later.size hlat
    have hcs := bow_cases a b k
    by_cases hkL : k < L
    · obtain ⟨bb, cc, hv, hb, hcap, hcells⟩ := H1.full (by omega)
      cases hv
      have hcell := hcells k hkL
      have hcn := bow_next hab k
      have hcs' := bow_cases a b (k + 1)
      have hb1 := bit_cases a k
      have hb2 := bit_cases b k
      have hbs := bit_cases (a - b) k
      obtain ⟨x, hx⟩ : ∃ x, bit a k = x := ⟨_, rfl⟩
      obtain ⟨y, hy⟩ : ∃ y, bit b k = y := ⟨_, rfl⟩
      obtain ⟨c, hc⟩ : ∃ c, bow a b k = c := ⟨_, rfl⟩
      rw [hx] at hcn hb1 hcell; rw [hy] at hcn hb2
      rw [hc] at hcn hcs ⊢
      have HY := Lib.hid hy
      clear hx hy hc hcells H1 h g hab
      have x0 : 0 ≤ x := by omega
      have x1 : x ≤ 1 := by omega
      have y0 : 0 ≤ y := by omega
      have y1 : y ≤ 1 := by omega
      have c0 : 0 ≤ c := by omega
      have c1 : c ≤ 1 := by omega
      clear hcs hb1 hb2
      by_cases hneg : x - y - c < 0
      · have HT : Hid (x - y - c + 2 = bit (a - b) k ∧ (1 : Int) = bow a b (k + 1)) := Lib.hid (by generalize bit (a - b) k = d at *; generalize bow a b (k + 1) = c' at *; omega)
        clear hcn hcs' hbs
        go_wp2
        refine wp_region_plan 11 (.one [0, 1, 2, 3, 4, 5, 8] 6 (.done [7, 9, 10])) (by kernel_rfl) (by kernel_rfl) (fun _ _ d _ _ h => by cases d <;> exact h) ?_
        repeat' (first
          | (refine plan_done (fun K hK => ?_); (first | (simp only [pick_cons, pick_nil, toList_some_append, List.getElem?_toArray, List.getElem?_cons_zero, List.getElem?_cons_succ]; repeat (go_big_quiet_step (fail))) | simp only [pick_nil]); refine wpQuiet_nil (hK _ ?_); clear hK K)
          | (refine plan_one (by rfl) (fun K hK => ?_); (first | (simp only [pick_cons, pick_nil, toList_some_append, List.getElem?_toArray, List.getElem?_cons_zero, List.getElem?_cons_succ]; repeat (go_big_quiet_step (fail))) | simp only [pick_nil]); refine wpQuiet_nil (hK _ ?_); clear hK K)
          | ((with_reducible refine at_list ?_); go_wp2_with (go_at_call 112; refine (at_any _ _ _ _ _ (H2.later ((Later.refl _).drew)) (by omega) (by omega)).mono ?_; rw [HY.out]; rintro e w' ⟨rfl, rfl⟩); first | refine behind_store (t := 11) (by decide) ?_ | refine behind (by repeat (first | with_reducible exact Later.refl _ | with_reducible assumption | with_reducible refine Later.ofdrew ?_ | with_reducible refine Later.ofdrewN ?_ | with_reducible refine Later.alloc ?_ _ | with_reducible refine Later.drewN ?_ _ | with_reducible refine Later.drew ?_ | (with_reducible refine Later.trans ?_ (by assumption)))) ?_))
        go_wp2_with (at_builtin; refine wpList_append_own _ rfl _ _ 58 rfl w.heap.size 3 i0 (.int .i64 0) 1 8 Tryd.underlying58 hi hz0 hz1 hz2 rfl (by decide) _ _ _ rfl (hown.drew.alloc _) ⟨wr.heap.size, 0, none⟩ 1 1 [.int .i64 (x - y - c + 2)] rfl rfl ?a1 ?b1 ?c1 ?d1 ?e1 ?_)
        case a1 =>
          intro j u hj
          match j, hj with
          | 0, hj => simp at hj; subst hj; simp [Addr.add]
        case b1 => intro u hu; simp at hu; subst hu; rfl
        case c1 => unfold maxLen; omega
        case d1 => omega
        case e1 => simp; omega
        intro v' w1 hown' hgrow _
        have hlat' : Later w w1 := Later.grown ((hlat.alloc _).drew) hgrow (fun k hk => (hown.lt k hk).1)
        have R := own_next hown' HT.out.1 rfl
        have R1 := Lib.hid R
        have R2 := Lib.hid hlat'
        clear hown' hgrow hown hlat hlat' R H2 hsz
        go_wp2
        go_roundw
        case rel => exact ⟨k + 1, by omega, by go_num, by rw [← HT.out.2], R1.out, R2.out⟩
        case measure => simp [intOf]; omega
      · have HT : Hid (x - y - c = bit (a - b) k ∧ (0 : Int) = bow a b (k + 1)) := Lib.hid (by generalize bit (a - b) k = d at *; generalize bow a b (k + 1) = c' at *; omega)
        clear hcn hcs' hbs
        go_wp2
        refine wp_region_plan 11 (.one [0, 1, 2, 3, 4, 5, 8] 6 (.done [7, 9, 10])) (by kernel_rfl) (by kernel_rfl) (fun _ _ d _ _ h => by cases d <;> exact h) ?_
        repeat' (first
          | (refine plan_done (fun K hK => ?_); (first | (simp only [pick_cons, pick_nil, toList_some_append, List.getElem?_toArray, List.getElem?_cons_zero, List.getElem?_cons_succ]; repeat (go_big_quiet_step (fail))) | simp only [pick_nil]); refine wpQuiet_nil (hK _ ?_); clear hK K)
          | (refine plan_one (by rfl) (fun K hK => ?_); (first | (simp only [pick_cons, pick_nil, toList_some_append, List.getElem?_toArray, List.getElem?_cons_zero, List.getElem?_cons_succ]; repeat (go_big_quiet_step (fail))) | simp only [pick_nil]); refine wpQuiet_nil (hK _ ?_); clear hK K)
          | ((with_reducible refine at_list ?_); go_wp2_with (go_at_call 112; refine (at_any _ _ _ _ _ (H2.later ((Later.refl _).drew)) (by omega) (by omega)).mono ?_; rw [HY.out]; rintro e w' ⟨rfl, rfl⟩); first | refine behind_store (t := 11) (by decide) ?_ | refine behind (by repeat (first | with_reducible exact Later.refl _ | with_reducible assumption | with_reducible refine Later.ofdrew ?_ | with_reducible refine Later.ofdrewN ?_ | with_reducible refine Later.alloc ?_ _ | with_reducible refine Later.drewN ?_ _ | with_reducible refine Later.drew ?_ | (with_reducible refine Later.trans ?_ (by assumption)))) ?_))
        go_wp2_with (at_builtin; refine wpList_append_own _ rfl _ _ 58 rfl w.heap.size 3 i0 (.int .i64 0) 1 8 Tryd.underlying58 hi hz0 hz1 hz2 rfl (by decide) _ _ _ rfl (hown.drew.alloc _) ⟨wr.heap.size, 0, none⟩ 1 1 [.int .i64 (x - y - c)] rfl rfl ?a2 ?b2 ?c2 ?d2 ?e2 ?_)
        case a2 =>
          intro j u hj
          match j, hj with
          | 0, hj => simp at hj; subst hj; simp [Addr.add]
        case b2 => intro u hu; simp at hu; subst hu; rfl
        case c2 => unfold maxLen; omega
        case d2 => omega
        case e2 => simp; omega
        intro v' w1 hown' hgrow _
        have hlat' : Later w w1 := Later.grown ((hlat.alloc _).drew) hgrow (fun k hk => (hown.lt k hk).1)
        have R := own_next hown' HT.out.1 rfl
        have R1 := Lib.hid R
        have R2 := Lib.hid hlat'
        clear hown' hgrow hown hlat hlat' R H2 hsz
        go_wp2
        go_roundw
        case rel => exact ⟨k + 1, by omega, by go_num, by rw [← HT.out.2], R1.out, R2.out⟩
        case measure => simp [intOf]; omega
    · have hkk : k = L := by omega
      subst hkk
      have hlt : a - b < 2 ^ k := by have := h.1; omega
      have R := Row.of_own hown hlt
      have hlt := hown.lt
      clear h g H1 H2 hown hcs hab hk
      generalize bow a b k = c at *
      go_wp2_with (go_at_call 86; refine (trim_own _ _ _ _ R (by omega)).mono ?_; rintro e w' ⟨u, rfl, hnum, rfl, hob⟩)
      go_ret
      exact ⟨_, rfl, hnum, hlat, fun k hk => (hlt k (by rw [← hob]; exact hk)).1⟩
theorem minus_any (v u : Value) (a b L M : Nat) (w : World) (h : Row w v a L) (g : Row w u b M) (hL : L ≤ 90000) (hM : M ≤ 90000) (hab : b ≤ a) :
    Calls Tryd.prog 88 #[v, u] w fun e w' => ∃ r, e = .returned r ∧ Num w' r (a - b) ∧ Later w w' :=
  (minus_own v u a b L M w h g hL hM hab).mono fun _ _ ⟨r, h1, h2, h3, _⟩ => ⟨r, h1, h2, h3⟩
end Go.Proofs.YtckeaibamgkegaaDoor
