/- walks: chattelref01: plus, minus -/
import Derived.Test.YtckeaibamgkegaaDoorRefA
import Derived.Test.YtckeaibamgkegaaDoorRowS
set_option linter.all false
namespace Go.Proofs.YtckeaibamgkegaaDoor
open Go.RowKit
set_option maxRecDepth 100000


theorem own_next {w w1 : World} {base e n k : Nat} {v : Value} {x : Int} (h : w.ownsRow base e 1 v (k + 1) (bitsV n k ++ [.int .i64 x])) (hx : x = bit n k) (hg : w1 = w) :
    w1.ownsRow base e 1 v (k + 1) (bitsV n (k + 1)) := by
  subst hx; subst hg; rw [bitsV_succ]; exact h

set_option maxHeartbeats 1600000 in
theorem rplus_any (v u : Value) (a b L M : Nat) (w : World) (h : Row w v a L) (g : Row w u b M) (hL : L ≤ 90000) (hM : M ≤ 90000) :
    Calls Tryd.prog 104 #[v, u] w fun e w' => ∃ r K, e = .returned r ∧ Row w' r (a + b) K ∧ K ≤ max L M + 1 ∧ (K = max L M ∨ 2 ^ (K - 1) ≤ a + b) ∧ Later w w' := by
  obtain ⟨i0, hi, hz0, hz1, hz2⟩ := info_parts intInfo
  obtain ⟨p, cp, rfl⟩ := h.form
  obtain ⟨q, cq, rfl⟩ := g.form
  go_enter Tryd.func104, Tryd.ntmps104
  go_wp2
  go_loopw [5, 6, 7] (fun s5 s6 s7 wr => ∃ k : Nat, k ≤ max L M + 1 ∧ s7 = .int .i64 k ∧ s6 = .int .i64 (car a b k) ∧ wr.ownsRow w.heap.size 3 1 s5 k (bitsV (a + b) k) ∧ Later w wr ∧ (k ≤ max L M ∨ 2 ^ (k - 1) ≤ a + b))
    (fun _ _ s7 _ => max L M + 1 - (intOf s7).toNat)
  case atStart => exact ⟨0, by omega, rfl, by rw [car_zero], World.ownsRow_nil _ _ _ _, Later.refl _, .inl (by omega)⟩
  case round =>
    obtain ⟨k, hk, rfl, rfl, hown, hlat, hend⟩ := hrel
    have H1 := h.later hlat
    have H2 := g.later hlat
    have hsz := Later.size hlat
    have hcs := car_cases a b k
    have hcn := car_next a b k
    have hcs' := car_cases a b (k + 1)
    have hb1 := bit_cases a k
    have hb2 := bit_cases b k
    have hbs := bit_cases (a + b) k
    have hce := fun x y => car_end (a := a) (b := b) (i := k) x y
    by_cases hgo : k < L ∨ k < M ∨ car a b k = 1
    · have hnext : k + 1 ≤ max L M + 1 ∧ (k + 1 ≤ max L M ∨ 2 ^ (k + 1 - 1) ≤ a + b) := by
        by_cases hkm : k < max L M
        · omega
        · have hLk : a < 2 ^ k := Nat.lt_of_lt_of_le h.1 (Nat.pow_le_pow_right (by omega) (by omega))
          have hMk : b < 2 ^ k := Nat.lt_of_lt_of_le g.1 (Nat.pow_le_pow_right (by omega) (by omega))
          have hc1 : car a b k = 1 := by omega
          have := (hce hLk hMk).2 (by omega)
          refine ⟨?_, .inr this⟩
          by_cases hk2 : k = max L M + 1
          · exfalso
            have hL1 : a < 2 ^ (k - 1) := Nat.lt_of_lt_of_le h.1 (Nat.pow_le_pow_right (by omega) (by omega))
            have hM1 : b < 2 ^ (k - 1) := Nat.lt_of_lt_of_le g.1 (Nat.pow_le_pow_right (by omega) (by omega))
            have hp : 2 ^ k = 2 * 2 ^ (k - 1) := by rw [← Nat.pow_succ']; congr 1; omega
            omega
          · omega
      have hG : (k < L) ∨ (¬ k < L ∧ k < M) ∨ (¬ k < L ∧ ¬ k < M ∧ car a b k = 1) := by omega
      have HN := Lib.hid hnext
      have hkb : k ≤ 90001 := by omega
      clear hnext hgo hce hend hk
      obtain ⟨c, hc⟩ : ∃ c, car a b k = c := ⟨_, rfl⟩
      rw [hc] at hcn hcs hG ⊢; clear hc
      obtain ⟨x, hx⟩ : ∃ x, bit a k = x := ⟨_, rfl⟩
      obtain ⟨y, hy⟩ : ∃ y, bit b k = y := ⟨_, rfl⟩
      rw [hx] at hcn hb1; rw [hy] at hcn hb2
      have HX := Lib.hid hx
      have HY := Lib.hid hy
      clear hx hy
      have HA := Lib.hid (And.intro hcn (And.intro hcs' hbs))
      have x0 : 0 ≤ x := by omega
      have x1 : x ≤ 1 := by omega
      have y0 : 0 ≤ y := by omega
      have y1 : y ≤ 1 := by omega
      have c0 : 0 ≤ c := by omega
      have c1 : c ≤ 1 := by omega
      clear hcn hcs' hcs hbs hb1 hb2
      rcases hG with hG | ⟨hG1, hG2⟩ | ⟨hG1, hG2, rfl⟩
      all_goals clear h g
      · go_wp2_with (first
          | (go_at_call 112; refine (at_any _ _ _ _ _ (by first | exact H1 | exact H2) (by omega) (by omega)).mono ?_; (first | rw [HX.out] | rw [HY.out]); rintro e w' ⟨rfl, rfl⟩)
          | (at_builtin; refine wpList_append_own _ rfl _ _ 58 rfl w.heap.size 3 i0 (.int .i64 0) 1 8 Tryd.underlying58 hi hz0 hz1 hz2 rfl (by decide) _ _ _ rfl (hown.alloc _) ⟨wr.heap.size, 0, none⟩ 1 1 [.int .i64 ((x + y + c) % 2)] rfl rfl ?a1 ?b1 ?c1 ?d1 ?e1 ?_))
        case a1 =>
          intro j u hj
          match j, hj with
          | 0, hj => simp at hj; subst hj; simp [Addr.add]
        case b1 => intro u hu; simp at hu; subst hu; rfl
        case c1 => unfold maxLen; omega
        case d1 => omega
        case e1 => simp; omega
        intro v' w1 hown' hgrow _
        have hlat' := Later.grown (hlat.alloc _) hgrow (fun k hk => (hown.lt k hk).1)
        have R := own_next hown' (by have := HA.out; generalize bit (a + b) k = d at *; generalize car a b (k + 1) = c' at *; omega) rfl
        have R1 := Lib.hid R
        have R2 := Lib.hid hlat'
        clear hown' hgrow hown hlat hlat' R H1 H2 hsz
        go_wp2
        go_roundw
        case rel => exact ⟨k + 1, HN.out.1, by go_num, by have := HA.out; generalize bit (a + b) k = d at *; generalize car a b (k + 1) = c' at *; go_num, R1.out, R2.out, HN.out.2⟩
        case measure => have := HN.out; simp [intOf]; omega
      · go_wp2_with (first
          | (go_at_call 112; refine (at_any _ _ _ _ _ (by first | exact H1 | exact H2) (by omega) (by omega)).mono ?_; (first | rw [HX.out] | rw [HY.out]); rintro e w' ⟨rfl, rfl⟩)
          | (at_builtin; refine wpList_append_own _ rfl _ _ 58 rfl w.heap.size 3 i0 (.int .i64 0) 1 8 Tryd.underlying58 hi hz0 hz1 hz2 rfl (by decide) _ _ _ rfl (hown.alloc _) ⟨wr.heap.size, 0, none⟩ 1 1 [.int .i64 ((x + y + c) % 2)] rfl rfl ?a2 ?b2 ?c2 ?d2 ?e2 ?_))
        case a2 =>
          intro j u hj
          match j, hj with
          | 0, hj => simp at hj; subst hj; simp [Addr.add]
        case b2 => intro u hu; simp at hu; subst hu; rfl
        case c2 => unfold maxLen; omega
        case d2 => omega
        case e2 => simp; omega
        intro v' w1 hown' hgrow _
        have hlat' := Later.grown (hlat.alloc _) hgrow (fun k hk => (hown.lt k hk).1)
        have R := own_next hown' (by have := HA.out; generalize bit (a + b) k = d at *; generalize car a b (k + 1) = c' at *; omega) rfl
        have R1 := Lib.hid R
        have R2 := Lib.hid hlat'
        clear hown' hgrow hown hlat hlat' R H1 H2 hsz
        go_wp2
        go_roundw
        case rel => exact ⟨k + 1, HN.out.1, by go_num, by have := HA.out; generalize bit (a + b) k = d at *; generalize car a b (k + 1) = c' at *; go_num, R1.out, R2.out, HN.out.2⟩
        case measure => have := HN.out; simp [intOf]; omega
      · go_wp2_with (first
          | (go_at_call 112; refine (at_any _ _ _ _ _ (by first | exact H1 | exact H2) (by omega) (by omega)).mono ?_; (first | rw [HX.out] | rw [HY.out]); rintro e w' ⟨rfl, rfl⟩)
          | (at_builtin; refine wpList_append_own _ rfl _ _ 58 rfl w.heap.size 3 i0 (.int .i64 0) 1 8 Tryd.underlying58 hi hz0 hz1 hz2 rfl (by decide) _ _ _ rfl (hown.alloc _) ⟨wr.heap.size, 0, none⟩ 1 1 [.int .i64 ((x + y + 1) % 2)] rfl rfl ?a3 ?b3 ?c3 ?d3 ?e3 ?_))
        case a3 =>
          intro j u hj
          match j, hj with
          | 0, hj => simp at hj; subst hj; simp [Addr.add]
        case b3 => intro u hu; simp at hu; subst hu; rfl
        case c3 => unfold maxLen; omega
        case d3 => omega
        case e3 => simp; omega
        intro v' w1 hown' hgrow _
        have hlat' := Later.grown (hlat.alloc _) hgrow (fun k hk => (hown.lt k hk).1)
        have R := own_next hown' (by have := HA.out; generalize bit (a + b) k = d at *; generalize car a b (k + 1) = c' at *; omega) rfl
        have R1 := Lib.hid R
        have R2 := Lib.hid hlat'
        clear hown' hgrow hown hlat hlat' R H1 H2 hsz
        go_wp2
        go_roundw
        case rel => exact ⟨k + 1, HN.out.1, by go_num, by have := HA.out; generalize bit (a + b) k = d at *; generalize car a b (k + 1) = c' at *; go_num, R1.out, R2.out, HN.out.2⟩
        case measure => have := HN.out; simp [intOf]; omega
    · have hk1 : ¬ k < L := by omega
      have hk2 : ¬ k < M := by omega
      have hc0 : car a b k = 0 := by omega
      have hlt : a + b < 2 ^ k := by
        have hLk : a < 2 ^ k := Nat.lt_of_lt_of_le h.1 (Nat.pow_le_pow_right (by omega) (by omega))
        have hMk : b < 2 ^ k := Nat.lt_of_lt_of_le g.1 (Nat.pow_le_pow_right (by omega) (by omega))
        exact (hce hLk hMk).1 hc0
      have R := Lib.hid (Row.of_own hown hlt)
      have R2 := Lib.hid hlat
      have R3 : Hid (k ≤ max L M + 1 ∧ (k = max L M ∨ 2 ^ (k - 1) ≤ a + b)) := Lib.hid (by
        refine ⟨hk, ?_⟩
        rcases hend with he | he
        · exact .inl (by omega)
        · exact .inr he)
      rw [hc0]
      clear hcs hcn hcs' hb1 hb2 hbs hce hgo hend hown hlat h g hlt hc0 hk H1 H2
      go_wp2
      go_ret
      exact ⟨_, k, rfl, R.out, R3.out.1, R3.out.2, R2.out⟩
end Go.Proofs.YtckeaibamgkegaaDoor
