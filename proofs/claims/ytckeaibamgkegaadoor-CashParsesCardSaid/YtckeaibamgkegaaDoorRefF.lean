/- walks: chattelref01: Of as a number, Neg, Add -/
import Derived.Test.YtckeaibamgkegaaDoorRefE
set_option linter.all false
namespace Go.Proofs.YtckeaibamgkegaaDoor
open Go.RowKit
set_option maxRecDepth 100000

theorem rof_any (z : Int) (w : World) (h1 : -9223372036854775808 ≤ z) (h2 : z ≤ 9223372036854775807) :
    Calls Tryd.prog 56 #[.int .i64 z] w fun e w' => ∃ r, e = .returned r ∧ IsZ w' r z ∧ Later w w' := by
  by_cases hz : z < 0
  · obtain ⟨m, hm⟩ : ∃ m : Nat, z = -(m : Int) := ⟨z.natAbs, by omega⟩
    subst hm
    refine (rof_neg m w (by omega) (by omega)).mono ?_
    rintro e w' ⟨r, rfl, hr, hb⟩
    refine ⟨r, rfl, ?_, hb⟩
    unfold IsZ
    rw [show decide (-(m : Int) < 0) = true by simp; omega, show (-(m : Int)).natAbs = m by omega]
    exact hr
  · obtain ⟨m, rfl⟩ := Int.eq_ofNat_of_zero_le (show 0 ≤ z by omega)
    refine (rof_pos m w (by omega)).mono ?_
    rintro e w' ⟨r, rfl, hr, hb⟩
    refine ⟨r, rfl, ?_, hb⟩
    unfold IsZ
    rw [show decide ((m : Int) < 0) = false by simp, show ((m : Int)).natAbs = m by omega]
    exact hr

theorem plus_num (v u : Value) (a b : Nat) (w : World) (h : Num w v a) (g : Num w u b) (hL : nlen a ≤ 90000) (hM : nlen b ≤ 90000) :
    Calls Tryd.prog 104 #[v, u] w fun e w' => ∃ r, e = .returned r ∧ Num w' r (a + b) ∧ Later w w' := by
  refine (rplus_any v u a b _ _ w h g hL hM).mono ?_
  rintro e w' ⟨r, K, rfl, hr, hK, hK2, hb⟩
  refine ⟨r, rfl, ?_, hb⟩
  have h1 := nlen_mono (show a ≤ a + b by omega)
  have h2 := nlen_mono (show b ≤ a + b by omega)
  have h3 := nlen_le hr.1
  have hKe : K = nlen (a + b) := by
    rcases hK2 with hK2 | hK2
    · omega
    · have := le_nlen hK2
      omega
  unfold Num
  rw [← hKe]
  exact hr

theorem Row.set {w : World} {v x : Value} {n L k i : Nat} {t : Bool} (h : Row w v n L) (hk : w.cell? ⟨k, 0, none⟩ = some (.bool t)) : Row (w.setCell ⟨k, i, none⟩ x) v n L := by
  refine ⟨h.1, ?_⟩
  rcases h.2 with h2 | ⟨b, cap, h2, h3, h4, h5⟩
  · exact .inl h2
  · refine .inr ⟨b, cap, h2, by simpa using h3, h4, fun j hj => ?_⟩
    have hne : k ≠ b := by
      rintro rfl
      have := h5 0 (by omega)
      rw [hk] at this; cases this
    rw [World.cell?_setCell_other _ _ _ _ (fun e => hne (by cases e; rfl))]
    exact h5 j hj

theorem Row.set2 {w : World} {v y y0 : Value} {n L k : Nat} {t s : Bool} (h : Row w v n L) (hk : ∀ i, w.cell? ⟨k, i, none⟩ = #[Value.bool t, y0][i]?) :
    Row ((w.setCell ⟨k, 0, none⟩ (.bool s)).setCell ⟨k, 1, none⟩ y) v n L := by
  refine (h.set (t := t) (by rw [hk]; rfl)).set (t := s) ?_
  rw [set_own hk _ (by simp)]; rfl

/-- The two stores of a number into the call's own block. -/
theorem big_end {w : World} {v y0 : Value} {n k : Nat} {t s : Bool} (hk : ∀ i, w.cell? ⟨k, i, none⟩ = #[Value.bool t, y0][i]?) (h : Num w v n) :
    ((w.setCell ⟨k, 0, none⟩ (.bool s)).setCell ⟨k, 1, none⟩ v).cell? ⟨k, 0, none⟩ = some (.bool s) ∧
    ((w.setCell ⟨k, 0, none⟩ (.bool s)).setCell ⟨k, 1, none⟩ v).cell? ⟨k, 1, none⟩ = some v ∧
    IsBig ((w.setCell ⟨k, 0, none⟩ (.bool s)).setCell ⟨k, 1, none⟩ v) (.agg #[.bool s, v]) s n := by
  have e := set_own (k := 1) (set_own (k := 0) hk (.bool s) (by simp)) v (by simp)
  exact ⟨by rw [e]; rfl, by rw [e]; rfl, v, rfl, h.set2 hk⟩

set_option maxHeartbeats 1600000 in
theorem radd_same (x y : Value) (s : Bool) (a b : Nat) (w : World) (h : IsBig w x s a) (g : IsBig w y s b) (hL : nlen a ≤ 90000) (hM : nlen b ≤ 90000) :
    Calls Tryd.prog 74 #[x, y] w fun e w' => ∃ r, e = .returned r ∧ IsBig w' r s (a + b) ∧ Later w w' := by
  obtain ⟨v, rfl, hv⟩ := h
  obtain ⟨u, rfl, hu⟩ := g
  obtain ⟨p, cp, rfl⟩ := Row.form hv
  obtain ⟨q, cq, rfl⟩ := Row.form hu
  go_enter Tryd.func74, Tryd.ntmps74
  go_upto_region 2 with fail
  refine wp_opaque (fun w0 hb0 => ?_)
  obtain ⟨c0, f0, c1, f1, c2, f2, z0⟩ := own3 hb0
  have hv2 : Num w0 _ a := hv.later (Later.trans (by repeat (first | with_reducible exact Later.refl _ | with_reducible assumption | with_reducible refine Later.ofdrew ?_ | with_reducible refine Later.ofdrewN ?_ | with_reducible refine Later.setCell ?_ ?_ _ | with_reducible refine Later.alloc ?_ _ | with_reducible refine Later.drewN ?_ _ | with_reducible refine Later.drew ?_ | (with_reducible refine Later.trans ?_ (by assumption)) | (simp only [World.size_setCell, World.size_alloc, World.heap_drewN]; omega) | (simp; done) | (simp; omega))) hb0)
  have hu2 : Num w0 _ b := hu.later (Later.trans (by repeat (first | with_reducible exact Later.refl _ | with_reducible assumption | with_reducible refine Later.ofdrew ?_ | with_reducible refine Later.ofdrewN ?_ | with_reducible refine Later.setCell ?_ ?_ _ | with_reducible refine Later.alloc ?_ _ | with_reducible refine Later.drewN ?_ _ | with_reducible refine Later.drew ?_ | (with_reducible refine Later.trans ?_ (by assumption)) | (simp only [World.size_setCell, World.size_alloc, World.heap_drewN]; omega) | (simp; done) | (simp; omega))) hb0)
  refine wp_region_plan 8 (.one [0, 1, 2, 3, 4, 5] 6 (.one [7] 8 (.done []))) (by kernel_rfl) (by kernel_rfl) (fun _ _ d _ _ h => by cases d <;> exact h) ?_
  repeat' (first
    | (refine plan_done (fun K hK => ?_); (first | (simp only [pick_cons, pick_nil, toList_some_append, List.getElem?_toArray, List.getElem?_cons_zero, List.getElem?_cons_succ]; repeat (go_big_quiet_step (fail))) | simp only [pick_nil]); refine wpQuiet_nil (hK _ ?_); clear hK K)
    | (refine plan_one (by rfl) (fun K hK => ?_); (first | (simp only [pick_cons, pick_nil, toList_some_append, List.getElem?_toArray, List.getElem?_cons_zero, List.getElem?_cons_succ]; repeat (go_big_quiet_step (fail))) | simp only [pick_nil]); refine wpQuiet_nil (hK _ ?_); clear hK K)
    | ((with_reducible refine at_list ?_); go_wp2_with (go_at_call 104; refine (plus_num _ _ _ _ _ (hv2.later (by repeat (first | with_reducible exact Later.refl _ | with_reducible assumption | with_reducible refine Later.ofdrew ?_ | with_reducible refine Later.ofdrewN ?_ | with_reducible refine Later.setCell ?_ ?_ _ | with_reducible refine Later.alloc ?_ _ | with_reducible refine Later.drewN ?_ _ | with_reducible refine Later.drew ?_ | (with_reducible refine Later.trans ?_ (by assumption)) | (simp only [World.size_setCell, World.size_alloc, World.heap_drewN]; omega) | (simp; done) | (simp; omega)))) (hu2.later (by repeat (first | with_reducible exact Later.refl _ | with_reducible assumption | with_reducible refine Later.ofdrew ?_ | with_reducible refine Later.ofdrewN ?_ | with_reducible refine Later.setCell ?_ ?_ _ | with_reducible refine Later.alloc ?_ _ | with_reducible refine Later.drewN ?_ _ | with_reducible refine Later.drew ?_ | (with_reducible refine Later.trans ?_ (by assumption)) | (simp only [World.size_setCell, World.size_alloc, World.heap_drewN]; omega) | (simp; done) | (simp; omega)))) hL hM).mono ?_; rintro e w1 ⟨r, rfl, hr, hb1⟩; obtain ⟨pr, cr, rfl⟩ := Row.form hr; obtain ⟨hc, hf⟩ := bcell hb1; have hz := Later.size hb1; (try simp only [World.size_alloc, World.size_drew, World.heap_drewN, World.size_setCell] at hz); (repeat (first | (with_reducible refine use_of (Later.undrew hb1) ?_; intro hb1) | (with_reducible refine use_of (Later.undrewN hb1) ?_; intro hb1) | (with_reducible refine use_of (Later.unalloc hb1) ?_; intro hb1))); obtain ⟨hc, hf⟩ := bcell hb1; (try (refine use_of (fun i => (hc _ i (by omega)).trans (c2 i)) ?_; clear c2; intro c2)); (try (refine use_of (fun i hi => (hf _ i (by omega)).trans (f2 i hi)) ?_; clear f2; intro f2))); first | refine behind_store (t := 8) (by decide) ?_ | refine behind (by repeat (first | with_reducible exact Later.refl _ | with_reducible assumption | with_reducible refine Later.ofdrew ?_ | with_reducible refine Later.ofdrewN ?_ | with_reducible refine Later.alloc ?_ _ | with_reducible refine Later.drewN ?_ _ | with_reducible refine Later.drew ?_ | (with_reducible refine Later.trans ?_ (by assumption)))) ?_))
  go_wp2
  obtain ⟨e0, e1, hI⟩ := big_end (s := s) c2 hr
  exact bodyPost_ret (v := .agg #[.bool s, .slice pr (nlen (a + b)) cr]) (by simp [results, Tryd.results74, go_sem, e0, e1]) rfl ⟨_, rfl, hI, by repeat (first | with_reducible exact Later.refl _ | with_reducible assumption | with_reducible refine Later.ofdrew ?_ | with_reducible refine Later.ofdrewN ?_ | with_reducible refine Later.setCell ?_ ?_ _ | with_reducible refine Later.alloc ?_ _ | with_reducible refine Later.drewN ?_ _ | with_reducible refine Later.drew ?_ | (with_reducible refine Later.trans ?_ (by assumption)) | (simp only [World.size_setCell, World.size_alloc, World.heap_drewN]; omega) | (simp; done) | (simp; omega))⟩
end Go.Proofs.YtckeaibamgkegaaDoor
