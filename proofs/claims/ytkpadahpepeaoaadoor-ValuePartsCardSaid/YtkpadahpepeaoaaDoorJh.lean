/- walks: chattelref01: Add of two signs -/
import Derived.Test.YtkpadahpepeaoaaDoorJg
import Derived.Test.YtkpadahpepeaoaaDoorJa
import Derived.Deep.DeepCutAuto
set_option linter.all false
namespace Go.Proofs.YtkpadahpepeaoaaDoor
open Go.RowKit
set_option maxRecDepth 100000

theorem cmpN_lt {a b : Nat} (h : a < b) : cmpN a b = -1 := by simp [cmpN, h]
theorem cmpN_ge {a b : Nat} (h : b ≤ a) : 0 ≤ cmpN a b := by unfold cmpN; rw [if_neg (by omega)]; split <;> omega

set_option maxHeartbeats 1600000 in
theorem radd_less (x y : Value) (s : Bool) (a b : Nat) (w : World) (h : IsBig w x s a) (g : IsBig w y (!s) b) (hL : nlen a ≤ 90000) (hM : nlen b ≤ 90000) (hab : a < b) :
    Calls Tryd.prog 51 #[x, y] w fun e w' => ∃ r, e = .returned r ∧ IsBig w' r (!s) (b - a) ∧ Later w w' := by
  obtain ⟨v, rfl, hv⟩ := h
  obtain ⟨u, rfl, hu⟩ := g
  obtain ⟨p, cp, rfl⟩ := Row.form hv
  obtain ⟨q, cq, rfl⟩ := Row.form hu
  have hcm := Lib.hid (cmpN_lt hab)
  have hle := Lib.hid (Nat.le_of_lt hab)
  clear hab
  have ht : (s == !s) = false := by cases s <;> rfl
  go_enter Tryd.func51, Tryd.ntmps51
  go_upto_region 3 with fail
  refine wp_opaque (fun w0 hb0 => ?_)
  obtain ⟨c0, f0, c1, f1, c2, f2, z0⟩ := own3 hb0
  have hv2 : Num w0 _ a := hv.later (Later.trans (by repeat (first | with_reducible exact Later.refl _ | with_reducible assumption | with_reducible refine Later.ofdrew ?_ | with_reducible refine Later.ofdrewN ?_ | with_reducible refine Later.setCell ?_ ?_ _ | with_reducible refine Later.alloc ?_ _ | with_reducible refine Later.drewN ?_ _ | with_reducible refine Later.drew ?_ | (with_reducible refine Later.trans ?_ (by assumption)) | (simp only [World.size_setCell, World.size_alloc, World.heap_drewN]; omega) | (simp; done) | (simp; omega))) hb0)
  have hu2 : Num w0 _ b := hu.later (Later.trans (by repeat (first | with_reducible exact Later.refl _ | with_reducible assumption | with_reducible refine Later.ofdrew ?_ | with_reducible refine Later.ofdrewN ?_ | with_reducible refine Later.setCell ?_ ?_ _ | with_reducible refine Later.alloc ?_ _ | with_reducible refine Later.drewN ?_ _ | with_reducible refine Later.drew ?_ | (with_reducible refine Later.trans ?_ (by assumption)) | (simp only [World.size_setCell, World.size_alloc, World.heap_drewN]; omega) | (simp; done) | (simp; omega))) hb0)
  go_upto_region 4 with (go_at_call 75; refine (order_any _ _ _ _ _ hv2 hu2 (by omega) (by omega)).mono ?_; rw [hcm.out]; rintro e w1 ⟨rfl, hb1⟩; obtain ⟨hc, hf⟩ := bcell hb1; have hz := Later.size hb1; (try simp only [World.size_alloc, World.size_drew, World.heap_drewN, World.size_setCell] at hz); (repeat (first | (with_reducible refine use_of (Later.undrew hb1) ?_; intro hb1) | (with_reducible refine use_of (Later.undrewN hb1) ?_; intro hb1) | (with_reducible refine use_of (Later.unalloc hb1) ?_; intro hb1))); obtain ⟨hc, hf⟩ := bcell hb1; (try (refine use_of (fun i => (hc _ i (by omega)).trans (c0 i)) ?_; clear c0; intro c0)); (try (refine use_of (fun i => (hc _ i (by omega)).trans (c1 i)) ?_; clear c1; intro c1)); (try (refine use_of (fun i => (hc _ i (by omega)).trans (c2 i)) ?_; clear c2; intro c2)); (try (refine use_of (fun i hi => (hf _ i (by omega)).trans (f0 i hi)) ?_; clear f0; intro f0)); (try (refine use_of (fun i hi => (hf _ i (by omega)).trans (f1 i hi)) ?_; clear f1; intro f1)); (try (refine use_of (fun i hi => (hf _ i (by omega)).trans (f2 i hi)) ?_; clear f2; intro f2)))
  have hv3 := hv2.later hb1
  have hu3 := hu2.later hb1
  refine wp_region_plan 8 (.one [0, 1, 2, 3, 4, 5] 6 (.one [7] 8 (.done []))) (by kernel_rfl) (by kernel_rfl) (fun _ _ d _ _ h => by cases d <;> exact h) ?_
  repeat' (first
    | (refine plan_done (fun K hK => ?_); (first | (simp only [pick_cons, pick_nil, toList_some_append, List.getElem?_toArray, List.getElem?_cons_zero, List.getElem?_cons_succ]; repeat (go_big_quiet_step (fail))) | simp only [pick_nil]); refine wpQuiet_nil (hK _ ?_); clear hK K)
    | (refine plan_one (by rfl) (fun K hK => ?_); (first | (simp only [pick_cons, pick_nil, toList_some_append, List.getElem?_toArray, List.getElem?_cons_zero, List.getElem?_cons_succ]; repeat (go_big_quiet_step (fail))) | simp only [pick_nil]); refine wpQuiet_nil (hK _ ?_); clear hK K)
    | ((with_reducible refine at_list ?_); go_wp2_with (go_at_call 76; refine (minus_any _ _ _ _ _ _ _ (hu3.later (by repeat (first | with_reducible exact Later.refl _ | with_reducible assumption | with_reducible refine Later.ofdrew ?_ | with_reducible refine Later.ofdrewN ?_ | with_reducible refine Later.setCell ?_ ?_ _ | with_reducible refine Later.alloc ?_ _ | with_reducible refine Later.drewN ?_ _ | with_reducible refine Later.drew ?_ | (with_reducible refine Later.trans ?_ (by assumption)) | (simp only [World.size_setCell, World.size_alloc, World.heap_drewN]; omega) | (simp; done) | (simp; omega)))) (hv3.later (by repeat (first | with_reducible exact Later.refl _ | with_reducible assumption | with_reducible refine Later.ofdrew ?_ | with_reducible refine Later.ofdrewN ?_ | with_reducible refine Later.setCell ?_ ?_ _ | with_reducible refine Later.alloc ?_ _ | with_reducible refine Later.drewN ?_ _ | with_reducible refine Later.drew ?_ | (with_reducible refine Later.trans ?_ (by assumption)) | (simp only [World.size_setCell, World.size_alloc, World.heap_drewN]; omega) | (simp; done) | (simp; omega)))) hM hL hle.out).mono ?_; rintro e w2 ⟨r, rfl, hr, hb2⟩; obtain ⟨pr, cr, rfl⟩ := Row.form hr; obtain ⟨hc, hf⟩ := bcell hb2; have hz := Later.size hb2; (try simp only [World.size_alloc, World.size_drew, World.heap_drewN, World.size_setCell] at hz); (repeat (first | (with_reducible refine use_of (Later.undrew hb2) ?_; intro hb2) | (with_reducible refine use_of (Later.undrewN hb2) ?_; intro hb2) | (with_reducible refine use_of (Later.unalloc hb2) ?_; intro hb2))); obtain ⟨hc, hf⟩ := bcell hb2; (try (refine use_of (fun i => (hc _ i (by omega)).trans (c2 i)) ?_; clear c2; intro c2)); (try (refine use_of (fun i hi => (hf _ i (by omega)).trans (f2 i hi)) ?_; clear f2; intro f2))); first | refine behind_store (t := 8) (by decide) ?_ | refine behind (by repeat (first | with_reducible exact Later.refl _ | with_reducible assumption | with_reducible refine Later.ofdrew ?_ | with_reducible refine Later.ofdrewN ?_ | with_reducible refine Later.alloc ?_ _ | with_reducible refine Later.drewN ?_ _ | with_reducible refine Later.drew ?_ | (with_reducible refine Later.trans ?_ (by assumption)))) ?_))
  go_wp2
  obtain ⟨e0, e1, hI⟩ := big_end (s := !s) c2 hr
  exact bodyPost_ret (v := .agg #[.bool !s, .slice pr (nlen (b - a)) cr]) (by simp [results, Tryd.results51, go_sem, e0, e1]) rfl ⟨_, rfl, hI, by repeat (first | with_reducible exact Later.refl _ | with_reducible assumption | with_reducible refine Later.ofdrew ?_ | with_reducible refine Later.ofdrewN ?_ | with_reducible refine Later.setCell ?_ ?_ _ | with_reducible refine Later.alloc ?_ _ | with_reducible refine Later.drewN ?_ _ | with_reducible refine Later.drew ?_ | (with_reducible refine Later.trans ?_ (by assumption)) | (simp only [World.size_setCell, World.size_alloc, World.heap_drewN]; omega) | (simp; done) | (simp; omega))⟩

set_option maxHeartbeats 1600000 in
theorem radd_pos (x y : Value) (a b : Nat) (w : World) (h : IsBig w x false a) (g : IsBig w y true b) (hL : nlen a ≤ 90000) (hM : nlen b ≤ 90000) (hab : b ≤ a) :
    Calls Tryd.prog 51 #[x, y] w fun e w' => ∃ r, e = .returned r ∧ IsBig w' r false (a - b) ∧ Later w w' := by
  obtain ⟨v, rfl, hv⟩ := h
  obtain ⟨u, rfl, hu⟩ := g
  obtain ⟨p, cp, rfl⟩ := Row.form hv
  obtain ⟨q, cq, rfl⟩ := Row.form hu
  have hcm := cmpN_ge hab
  obtain ⟨cm, hcm2⟩ : ∃ cm, cmpN a b = cm := ⟨_, rfl⟩
  rw [hcm2] at hcm
  have hcm3 := Lib.hid hcm2
  have hle := Lib.hid hab
  clear hab hcm2
  have hcm4 : decide (cm < 0) = false := by simp; omega
  clear hcm
  go_enter Tryd.func51, Tryd.ntmps51
  go_upto_region 3 with fail
  refine wp_opaque (fun w0 hb0 => ?_)
  obtain ⟨c0, f0, c1, f1, c2, f2, z0⟩ := own3 hb0
  have hv2 : Num w0 _ a := hv.later (Later.trans (by repeat (first | with_reducible exact Later.refl _ | with_reducible assumption | with_reducible refine Later.ofdrew ?_ | with_reducible refine Later.ofdrewN ?_ | with_reducible refine Later.setCell ?_ ?_ _ | with_reducible refine Later.alloc ?_ _ | with_reducible refine Later.drewN ?_ _ | with_reducible refine Later.drew ?_ | (with_reducible refine Later.trans ?_ (by assumption)) | (simp only [World.size_setCell, World.size_alloc, World.heap_drewN]; omega) | (simp; done) | (simp; omega))) hb0)
  have hu2 : Num w0 _ b := hu.later (Later.trans (by repeat (first | with_reducible exact Later.refl _ | with_reducible assumption | with_reducible refine Later.ofdrew ?_ | with_reducible refine Later.ofdrewN ?_ | with_reducible refine Later.setCell ?_ ?_ _ | with_reducible refine Later.alloc ?_ _ | with_reducible refine Later.drewN ?_ _ | with_reducible refine Later.drew ?_ | (with_reducible refine Later.trans ?_ (by assumption)) | (simp only [World.size_setCell, World.size_alloc, World.heap_drewN]; omega) | (simp; done) | (simp; omega))) hb0)
  go_wp2_with (first
    | (go_at_call 75; refine (order_any _ _ _ _ _ hv2 hu2 (by omega) (by omega)).mono ?_; rw [hcm3.out]; rintro e w1 ⟨rfl, hb1⟩; obtain ⟨hc, hf⟩ := bcell hb1; have hz := Later.size hb1; (try simp only [World.size_alloc, World.size_drew, World.heap_drewN, World.size_setCell] at hz); (repeat (first | (with_reducible refine use_of (Later.undrew hb1) ?_; intro hb1) | (with_reducible refine use_of (Later.undrewN hb1) ?_; intro hb1) | (with_reducible refine use_of (Later.unalloc hb1) ?_; intro hb1))); obtain ⟨hc, hf⟩ := bcell hb1; (try (refine use_of (fun i => (hc _ i (by omega)).trans (c0 i)) ?_; clear c0; intro c0)); (try (refine use_of (fun i => (hc _ i (by omega)).trans (c1 i)) ?_; clear c1; intro c1)); (try (refine use_of (fun i => (hc _ i (by omega)).trans (c2 i)) ?_; clear c2; intro c2)); (try (refine use_of (fun i hi => (hf _ i (by omega)).trans (f0 i hi)) ?_; clear f0; intro f0)); (try (refine use_of (fun i hi => (hf _ i (by omega)).trans (f1 i hi)) ?_; clear f1; intro f1)); (try (refine use_of (fun i hi => (hf _ i (by omega)).trans (f2 i hi)) ?_; clear f2; intro f2)); have hv3 := hv2.later hb1; have hu3 := hu2.later hb1)
    | (go_at_call 76; refine (minus_any _ _ _ _ _ _ _ (hv3.later (by repeat (first | with_reducible exact Later.refl _ | with_reducible assumption | with_reducible refine Later.ofdrew ?_ | with_reducible refine Later.ofdrewN ?_ | with_reducible refine Later.setCell ?_ ?_ _ | with_reducible refine Later.alloc ?_ _ | with_reducible refine Later.drewN ?_ _ | with_reducible refine Later.drew ?_ | (with_reducible refine Later.trans ?_ (by assumption)) | (simp only [World.size_setCell, World.size_alloc, World.heap_drewN]; omega) | (simp; done) | (simp; omega)))) (hu3.later (by repeat (first | with_reducible exact Later.refl _ | with_reducible assumption | with_reducible refine Later.ofdrew ?_ | with_reducible refine Later.ofdrewN ?_ | with_reducible refine Later.setCell ?_ ?_ _ | with_reducible refine Later.alloc ?_ _ | with_reducible refine Later.drewN ?_ _ | with_reducible refine Later.drew ?_ | (with_reducible refine Later.trans ?_ (by assumption)) | (simp only [World.size_setCell, World.size_alloc, World.heap_drewN]; omega) | (simp; done) | (simp; omega)))) hL hM hle.out).mono ?_; rintro e w2 ⟨r, rfl, hr, hb2⟩; obtain ⟨pr, cr, rfl⟩ := Row.form hr; obtain ⟨hc, hf⟩ := bcell hb2; have hz := Later.size hb2; (try simp only [World.size_alloc, World.size_drew, World.heap_drewN, World.size_setCell] at hz); (repeat (first | (with_reducible refine use_of (Later.undrew hb2) ?_; intro hb2) | (with_reducible refine use_of (Later.undrewN hb2) ?_; intro hb2) | (with_reducible refine use_of (Later.unalloc hb2) ?_; intro hb2))); obtain ⟨hc, hf⟩ := bcell hb2; (try (refine use_of (fun i => (hc _ i (by omega)).trans (c0 i)) ?_; clear c0; intro c0)); (try (refine use_of (fun i => (hc _ i (by omega)).trans (c1 i)) ?_; clear c1; intro c1)); (try (refine use_of (fun i => (hc _ i (by omega)).trans (c2 i)) ?_; clear c2; intro c2)); (try (refine use_of (fun i hi => (hf _ i (by omega)).trans (f0 i hi)) ?_; clear f0; intro f0)); (try (refine use_of (fun i hi => (hf _ i (by omega)).trans (f1 i hi)) ?_; clear f1; intro f1)); (try (refine use_of (fun i hi => (hf _ i (by omega)).trans (f2 i hi)) ?_; clear f2; intro f2))))
  all_goals
    obtain ⟨e0, e1, hI⟩ := big_end (s := false) c2 hr
    exact bodyPost_ret (v := .agg #[.bool false, .slice pr (nlen (a - b)) cr]) (by simp [results, Tryd.results51, go_sem, e0, e1]) rfl ⟨_, rfl, hI, by repeat (first | with_reducible exact Later.refl _ | with_reducible assumption | with_reducible refine Later.ofdrew ?_ | with_reducible refine Later.ofdrewN ?_ | with_reducible refine Later.setCell ?_ ?_ _ | with_reducible refine Later.alloc ?_ _ | with_reducible refine Later.drewN ?_ _ | with_reducible refine Later.drew ?_ | (with_reducible refine Later.trans ?_ (by assumption)) | (simp only [World.size_setCell, World.size_alloc, World.heap_drewN]; omega) | (simp; done) | (simp; omega))⟩

set_option maxHeartbeats 1600000 in
theorem radd_neg (x y : Value) (a b : Nat) (w : World) (h : IsBig w x true a) (g : IsBig w y false b) (hL : nlen a ≤ 90000) (hM : nlen b ≤ 90000) (hab : b ≤ a) (hd : 0 < a - b) :
    Calls Tryd.prog 51 #[x, y] w fun e w' => ∃ r, e = .returned r ∧ IsBig w' r true (a - b) ∧ Later w w' := by
  obtain ⟨v, rfl, hv⟩ := h
  obtain ⟨u, rfl, hu⟩ := g
  obtain ⟨p, cp, rfl⟩ := Row.form hv
  obtain ⟨q, cq, rfl⟩ := Row.form hu
  have hcm := cmpN_ge hab
  obtain ⟨cm, hcm2⟩ : ∃ cm, cmpN a b = cm := ⟨_, rfl⟩
  rw [hcm2] at hcm
  have hcm3 := Lib.hid hcm2
  have hle := Lib.hid hab
  clear hab hcm2
  have hcm4 : decide (cm < 0) = false := by simp; omega
  clear hcm
  have hpos := nlen_pos.2 hd
  go_enter Tryd.func51, Tryd.ntmps51
  go_upto_region 3 with fail
  refine wp_opaque (fun w0 hb0 => ?_)
  obtain ⟨c0, f0, c1, f1, c2, f2, z0⟩ := own3 hb0
  have hv2 : Num w0 _ a := hv.later (Later.trans (by repeat (first | with_reducible exact Later.refl _ | with_reducible assumption | with_reducible refine Later.ofdrew ?_ | with_reducible refine Later.ofdrewN ?_ | with_reducible refine Later.setCell ?_ ?_ _ | with_reducible refine Later.alloc ?_ _ | with_reducible refine Later.drewN ?_ _ | with_reducible refine Later.drew ?_ | (with_reducible refine Later.trans ?_ (by assumption)) | (simp only [World.size_setCell, World.size_alloc, World.heap_drewN]; omega) | (simp; done) | (simp; omega))) hb0)
  have hu2 : Num w0 _ b := hu.later (Later.trans (by repeat (first | with_reducible exact Later.refl _ | with_reducible assumption | with_reducible refine Later.ofdrew ?_ | with_reducible refine Later.ofdrewN ?_ | with_reducible refine Later.setCell ?_ ?_ _ | with_reducible refine Later.alloc ?_ _ | with_reducible refine Later.drewN ?_ _ | with_reducible refine Later.drew ?_ | (with_reducible refine Later.trans ?_ (by assumption)) | (simp only [World.size_setCell, World.size_alloc, World.heap_drewN]; omega) | (simp; done) | (simp; omega))) hb0)
  go_wp2_with (first
    | (go_at_call 75; refine (order_any _ _ _ _ _ hv2 hu2 (by omega) (by omega)).mono ?_; rw [hcm3.out]; rintro e w1 ⟨rfl, hb1⟩; obtain ⟨hc, hf⟩ := bcell hb1; have hz := Later.size hb1; (try simp only [World.size_alloc, World.size_drew, World.heap_drewN, World.size_setCell] at hz); (repeat (first | (with_reducible refine use_of (Later.undrew hb1) ?_; intro hb1) | (with_reducible refine use_of (Later.undrewN hb1) ?_; intro hb1) | (with_reducible refine use_of (Later.unalloc hb1) ?_; intro hb1))); obtain ⟨hc, hf⟩ := bcell hb1; (try (refine use_of (fun i => (hc _ i (by omega)).trans (c0 i)) ?_; clear c0; intro c0)); (try (refine use_of (fun i => (hc _ i (by omega)).trans (c1 i)) ?_; clear c1; intro c1)); (try (refine use_of (fun i => (hc _ i (by omega)).trans (c2 i)) ?_; clear c2; intro c2)); (try (refine use_of (fun i hi => (hf _ i (by omega)).trans (f0 i hi)) ?_; clear f0; intro f0)); (try (refine use_of (fun i hi => (hf _ i (by omega)).trans (f1 i hi)) ?_; clear f1; intro f1)); (try (refine use_of (fun i hi => (hf _ i (by omega)).trans (f2 i hi)) ?_; clear f2; intro f2)); have hv3 := hv2.later hb1; have hu3 := hu2.later hb1)
    | (go_at_call 76; refine (minus_any _ _ _ _ _ _ _ (hv3.later (by repeat (first | with_reducible exact Later.refl _ | with_reducible assumption | with_reducible refine Later.ofdrew ?_ | with_reducible refine Later.ofdrewN ?_ | with_reducible refine Later.setCell ?_ ?_ _ | with_reducible refine Later.alloc ?_ _ | with_reducible refine Later.drewN ?_ _ | with_reducible refine Later.drew ?_ | (with_reducible refine Later.trans ?_ (by assumption)) | (simp only [World.size_setCell, World.size_alloc, World.heap_drewN]; omega) | (simp; done) | (simp; omega)))) (hu3.later (by repeat (first | with_reducible exact Later.refl _ | with_reducible assumption | with_reducible refine Later.ofdrew ?_ | with_reducible refine Later.ofdrewN ?_ | with_reducible refine Later.setCell ?_ ?_ _ | with_reducible refine Later.alloc ?_ _ | with_reducible refine Later.drewN ?_ _ | with_reducible refine Later.drew ?_ | (with_reducible refine Later.trans ?_ (by assumption)) | (simp only [World.size_setCell, World.size_alloc, World.heap_drewN]; omega) | (simp; done) | (simp; omega)))) hL hM hle.out).mono ?_; rintro e w2 ⟨r, rfl, hr, hb2⟩; obtain ⟨pr, cr, rfl⟩ := Row.form hr; obtain ⟨hc, hf⟩ := bcell hb2; have hz := Later.size hb2; (try simp only [World.size_alloc, World.size_drew, World.heap_drewN, World.size_setCell] at hz); (repeat (first | (with_reducible refine use_of (Later.undrew hb2) ?_; intro hb2) | (with_reducible refine use_of (Later.undrewN hb2) ?_; intro hb2) | (with_reducible refine use_of (Later.unalloc hb2) ?_; intro hb2))); obtain ⟨hc, hf⟩ := bcell hb2; (try (refine use_of (fun i => (hc _ i (by omega)).trans (c0 i)) ?_; clear c0; intro c0)); (try (refine use_of (fun i => (hc _ i (by omega)).trans (c1 i)) ?_; clear c1; intro c1)); (try (refine use_of (fun i => (hc _ i (by omega)).trans (c2 i)) ?_; clear c2; intro c2)); (try (refine use_of (fun i hi => (hf _ i (by omega)).trans (f0 i hi)) ?_; clear f0; intro f0)); (try (refine use_of (fun i hi => (hf _ i (by omega)).trans (f1 i hi)) ?_; clear f1; intro f1)); (try (refine use_of (fun i hi => (hf _ i (by omega)).trans (f2 i hi)) ?_; clear f2; intro f2))))
  all_goals
    obtain ⟨e0, e1, hI⟩ := big_end (s := true) c2 hr
    exact bodyPost_ret (v := .agg #[.bool true, .slice pr (nlen (a - b)) cr]) (by simp [results, Tryd.results51, go_sem, e0, e1]) rfl ⟨_, rfl, hI, by repeat (first | with_reducible exact Later.refl _ | with_reducible assumption | with_reducible refine Later.ofdrew ?_ | with_reducible refine Later.ofdrewN ?_ | with_reducible refine Later.setCell ?_ ?_ _ | with_reducible refine Later.alloc ?_ _ | with_reducible refine Later.drewN ?_ _ | with_reducible refine Later.drew ?_ | (with_reducible refine Later.trans ?_ (by assumption)) | (simp only [World.size_setCell, World.size_alloc, World.heap_drewN]; omega) | (simp; done) | (simp; omega))⟩

set_option maxHeartbeats 1600000 in
theorem radd_nought (x y : Value) (a b : Nat) (w : World) (h : IsBig w x true a) (g : IsBig w y false b) (hL : nlen a ≤ 90000) (hM : nlen b ≤ 90000) (hab : b ≤ a) (hd : a - b = 0) :
    Calls Tryd.prog 51 #[x, y] w fun e w' => ∃ r, e = .returned r ∧ IsBig w' r false (a - b) ∧ Later w w' := by
  obtain ⟨v, rfl, hv⟩ := h
  obtain ⟨u, rfl, hu⟩ := g
  obtain ⟨p, cp, rfl⟩ := Row.form hv
  obtain ⟨q, cq, rfl⟩ := Row.form hu
  have hcm := cmpN_ge hab
  obtain ⟨cm, hcm2⟩ : ∃ cm, cmpN a b = cm := ⟨_, rfl⟩
  rw [hcm2] at hcm
  have hcm3 := Lib.hid hcm2
  have hle := Lib.hid hab
  clear hab hcm2
  have hcm4 : decide (cm < 0) = false := by simp; omega
  clear hcm
  have hpos : ¬ 0 < nlen (a - b) := by rw [hd]; decide
  clear hd
  go_enter Tryd.func51, Tryd.ntmps51
  go_upto_region 3 with fail
  refine wp_opaque (fun w0 hb0 => ?_)
  obtain ⟨c0, f0, c1, f1, c2, f2, z0⟩ := own3 hb0
  have hv2 : Num w0 _ a := hv.later (Later.trans (by repeat (first | with_reducible exact Later.refl _ | with_reducible assumption | with_reducible refine Later.ofdrew ?_ | with_reducible refine Later.ofdrewN ?_ | with_reducible refine Later.setCell ?_ ?_ _ | with_reducible refine Later.alloc ?_ _ | with_reducible refine Later.drewN ?_ _ | with_reducible refine Later.drew ?_ | (with_reducible refine Later.trans ?_ (by assumption)) | (simp only [World.size_setCell, World.size_alloc, World.heap_drewN]; omega) | (simp; done) | (simp; omega))) hb0)
  have hu2 : Num w0 _ b := hu.later (Later.trans (by repeat (first | with_reducible exact Later.refl _ | with_reducible assumption | with_reducible refine Later.ofdrew ?_ | with_reducible refine Later.ofdrewN ?_ | with_reducible refine Later.setCell ?_ ?_ _ | with_reducible refine Later.alloc ?_ _ | with_reducible refine Later.drewN ?_ _ | with_reducible refine Later.drew ?_ | (with_reducible refine Later.trans ?_ (by assumption)) | (simp only [World.size_setCell, World.size_alloc, World.heap_drewN]; omega) | (simp; done) | (simp; omega))) hb0)
  go_wp2_with (first
    | (go_at_call 75; refine (order_any _ _ _ _ _ hv2 hu2 (by omega) (by omega)).mono ?_; rw [hcm3.out]; rintro e w1 ⟨rfl, hb1⟩; obtain ⟨hc, hf⟩ := bcell hb1; have hz := Later.size hb1; (try simp only [World.size_alloc, World.size_drew, World.heap_drewN, World.size_setCell] at hz); (repeat (first | (with_reducible refine use_of (Later.undrew hb1) ?_; intro hb1) | (with_reducible refine use_of (Later.undrewN hb1) ?_; intro hb1) | (with_reducible refine use_of (Later.unalloc hb1) ?_; intro hb1))); obtain ⟨hc, hf⟩ := bcell hb1; (try (refine use_of (fun i => (hc _ i (by omega)).trans (c0 i)) ?_; clear c0; intro c0)); (try (refine use_of (fun i => (hc _ i (by omega)).trans (c1 i)) ?_; clear c1; intro c1)); (try (refine use_of (fun i => (hc _ i (by omega)).trans (c2 i)) ?_; clear c2; intro c2)); (try (refine use_of (fun i hi => (hf _ i (by omega)).trans (f0 i hi)) ?_; clear f0; intro f0)); (try (refine use_of (fun i hi => (hf _ i (by omega)).trans (f1 i hi)) ?_; clear f1; intro f1)); (try (refine use_of (fun i hi => (hf _ i (by omega)).trans (f2 i hi)) ?_; clear f2; intro f2)); have hv3 := hv2.later hb1; have hu3 := hu2.later hb1)
    | (go_at_call 76; refine (minus_any _ _ _ _ _ _ _ (hv3.later (by repeat (first | with_reducible exact Later.refl _ | with_reducible assumption | with_reducible refine Later.ofdrew ?_ | with_reducible refine Later.ofdrewN ?_ | with_reducible refine Later.setCell ?_ ?_ _ | with_reducible refine Later.alloc ?_ _ | with_reducible refine Later.drewN ?_ _ | with_reducible refine Later.drew ?_ | (with_reducible refine Later.trans ?_ (by assumption)) | (simp only [World.size_setCell, World.size_alloc, World.heap_drewN]; omega) | (simp; done) | (simp; omega)))) (hu3.later (by repeat (first | with_reducible exact Later.refl _ | with_reducible assumption | with_reducible refine Later.ofdrew ?_ | with_reducible refine Later.ofdrewN ?_ | with_reducible refine Later.setCell ?_ ?_ _ | with_reducible refine Later.alloc ?_ _ | with_reducible refine Later.drewN ?_ _ | with_reducible refine Later.drew ?_ | (with_reducible refine Later.trans ?_ (by assumption)) | (simp only [World.size_setCell, World.size_alloc, World.heap_drewN]; omega) | (simp; done) | (simp; omega)))) hL hM hle.out).mono ?_; rintro e w2 ⟨r, rfl, hr, hb2⟩; obtain ⟨pr, cr, rfl⟩ := Row.form hr; obtain ⟨hc, hf⟩ := bcell hb2; have hz := Later.size hb2; (try simp only [World.size_alloc, World.size_drew, World.heap_drewN, World.size_setCell] at hz); (repeat (first | (with_reducible refine use_of (Later.undrew hb2) ?_; intro hb2) | (with_reducible refine use_of (Later.undrewN hb2) ?_; intro hb2) | (with_reducible refine use_of (Later.unalloc hb2) ?_; intro hb2))); obtain ⟨hc, hf⟩ := bcell hb2; (try (refine use_of (fun i => (hc _ i (by omega)).trans (c0 i)) ?_; clear c0; intro c0)); (try (refine use_of (fun i => (hc _ i (by omega)).trans (c1 i)) ?_; clear c1; intro c1)); (try (refine use_of (fun i => (hc _ i (by omega)).trans (c2 i)) ?_; clear c2; intro c2)); (try (refine use_of (fun i hi => (hf _ i (by omega)).trans (f0 i hi)) ?_; clear f0; intro f0)); (try (refine use_of (fun i hi => (hf _ i (by omega)).trans (f1 i hi)) ?_; clear f1; intro f1)); (try (refine use_of (fun i hi => (hf _ i (by omega)).trans (f2 i hi)) ?_; clear f2; intro f2))))
  all_goals
    obtain ⟨e0, e1, hI⟩ := big_end (s := false) c2 hr
    exact bodyPost_ret (v := .agg #[.bool false, .slice pr (nlen (a - b)) cr]) (by simp [results, Tryd.results51, go_sem, e0, e1]) rfl ⟨_, rfl, hI, by repeat (first | with_reducible exact Later.refl _ | with_reducible assumption | with_reducible refine Later.ofdrew ?_ | with_reducible refine Later.ofdrewN ?_ | with_reducible refine Later.setCell ?_ ?_ _ | with_reducible refine Later.alloc ?_ _ | with_reducible refine Later.drewN ?_ _ | with_reducible refine Later.drew ?_ | (with_reducible refine Later.trans ?_ (by assumption)) | (simp only [World.size_setCell, World.size_alloc, World.heap_drewN]; omega) | (simp; done) | (simp; omega))⟩


theorem radd_any (x y : Value) (i j : Int) (w : World) (h : IsZ w x i) (g : IsZ w y j) (hL : nlen i.natAbs ≤ 90000) (hM : nlen j.natAbs ≤ 90000) :
    Calls Tryd.prog 51 #[x, y] w fun e w' => ∃ r, e = .returned r ∧ IsZ w' r (i + j) ∧ Later w w' := by
  have fin : ∀ {s : Bool} {n : Nat}, s = decide (i + j < 0) → n = (i + j).natAbs →
      Calls Tryd.prog 51 #[x, y] w (fun e w' => ∃ r, e = .returned r ∧ IsBig w' r s n ∧ Later w w') →
      Calls Tryd.prog 51 #[x, y] w (fun e w' => ∃ r, e = .returned r ∧ IsZ w' r (i + j) ∧ Later w w') := by
    rintro s n rfl rfl h; exact h
  unfold IsZ at h g
  by_cases hi : i < 0 <;> by_cases hj : j < 0
  · rw [show decide (i < 0) = true by simp [hi]] at h
    rw [show decide (j < 0) = true by simp [hj]] at g
    exact fin (by simp; omega) (by omega) (radd_same x y true _ _ w h g hL hM)
  · rw [show decide (i < 0) = true by simp [hi]] at h
    rw [show decide (j < 0) = false by simp [hj]] at g
    rcases Nat.lt_trichotomy i.natAbs j.natAbs with hc | hc | hc
    · exact fin (by simp; omega) (by omega) (radd_less x y true _ _ w h g hL hM hc)
    · exact fin (by simp; omega) (by omega) (radd_nought x y _ _ w h g hL hM (by omega) (by omega))
    · exact fin (by simp; omega) (by omega) (radd_neg x y _ _ w h g hL hM (by omega) (by omega))
  · rw [show decide (i < 0) = false by simp [hi]] at h
    rw [show decide (j < 0) = true by simp [hj]] at g
    rcases Nat.lt_or_ge i.natAbs j.natAbs with hc | hc
    · exact fin (by simp; omega) (by omega) (radd_less x y false _ _ w h g hL hM hc)
    · exact fin (by simp; omega) (by omega) (radd_pos x y _ _ w h g hL hM hc)
  · rw [show decide (i < 0) = false by simp [hi]] at h
    rw [show decide (j < 0) = false by simp [hj]] at g
    exact fin (by simp; omega) (by omega) (radd_same x y false _ _ w h g hL hM)
end Go.Proofs.YtkpadahpepeaoaaDoor

/- walks: chattelref01: Mul -/
namespace Go.Proofs.YtkpadahpepeaoaaDoor
open Go.RowKit
set_option maxRecDepth 100000

theorem bit_shift (a k i : Nat) : bit (a * 2 ^ k) i = if i < k then 0 else bit a (i - k) := by
  unfold bit
  have hp : 0 < 2 ^ k := Nat.pow_pos (by omega)
  split
  · rename_i h
    obtain ⟨d, rfl⟩ : ∃ d, k = i + (d + 1) := ⟨k - i - 1, by omega⟩
    rw [Nat.pow_add, Nat.mul_left_comm, Nat.mul_div_cancel_left _ (Nat.pow_pos (by omega)), Nat.pow_succ, ← Nat.mul_assoc, Nat.mul_mod_left]
    rfl
  · rename_i h
    obtain ⟨d, rfl⟩ : ∃ d, i = k + d := ⟨i - k, by omega⟩
    rw [Nat.pow_add, ← Nat.div_div_eq_div_mul, Nat.mul_div_cancel _ hp]
    simp
theorem bitsV_shift (a k L : Nat) : bitsV (a * 2 ^ k) (k + L) = List.replicate k (.int .i64 0) ++ bitsV a L := by
  apply List.ext_getElem?
  intro i
  by_cases h : i < k + L
  · rw [bitsV_get h, bit_shift]
    by_cases h2 : i < k
    · rw [if_pos h2, List.getElem?_append_left (by simpa using h2)]; simp [h2]
    · rw [if_neg h2, List.getElem?_append_right (by simp; omega), List.length_replicate, bitsV_get (by omega)]
  · rw [List.getElem?_eq_none (by rw [bitsV_len]; omega), List.getElem?_eq_none (by simp [bitsV_len]; omega)]
theorem mul_bit (a b k : Nat) : a * (b % 2 ^ (k + 1)) = a * (b % 2 ^ k) + a * 2 ^ k * (b / 2 ^ k % 2) := by
  rw [mod_step, Nat.mul_add, Nat.mul_assoc]


theorem made_zero (k : Nat) : (madeCells #[.int .i64 0] k).toList = List.replicate k (.int .i64 0) := by
  apply List.ext_getElem?
  intro i
  by_cases h : i < k
  · simp [madeCells, h, Nat.mod_one]
  · simp [madeCells, h]

theorem slInt : SliceOf Tryd.prog 58 3 1 8 := sliceOf_mk (z := .int .i64 0) Tryd.underlying58 intInfo rfl (by decide)
theorem zeroInt {z : Value} (h : ∃ i, Tryd.prog.info? 3 = some i ∧ i.zero = some z) : z = .int .i64 0 := by
  obtain ⟨i, h1, h2⟩ := h
  obtain ⟨i0, hi, hz0, _⟩ := info_parts intInfo
  rw [hi] at h1; cases h1; rw [hz0] at h2; cases h2; rfl
theorem cells_bits {w : World} {b L n : Nat} (hc : ∀ i, i < L → w.cell? ⟨b, i, none⟩ = some (.int .i64 (bit n i))) : CellsAt w b 0 (bitsV n L) := by
  intro j hj
  rw [bitsV_len] at hj
  rw [Nat.zero_add, hc j hj, bitsV_get hj]
theorem bits_one {n L : Nat} : ∀ u ∈ bitsV n L, u.oneCell' = true := by
  intro u hu
  simp only [bitsV, List.mem_map] at hu
  obtain ⟨i, _, rfl⟩ := hu; rfl
theorem Mine.zeros {w0 w : World} {v : Value} {k : Nat} (h : Mine w0 3 1 w v k (madeCells (Value.int .i64 0).cells (k * 1)).toList) : Mine w0 3 1 w v k (List.replicate k (.int .i64 0)) := by
  rw [Nat.mul_one] at h
  rw [← made_zero]; exact h
theorem Mine.row {w0 w : World} {v : Value} {n L : Nat} (h : Mine w0 3 1 w v L (bitsV n L)) (hn : n < 2 ^ L) : Row w v n L := Row.of_own h.1 hn
theorem Mine.shift {w0 w : World} {v : Value} {a k L : Nat} (h : Mine w0 3 1 w v (k + L) (List.replicate k (.int .i64 0) ++ bitsV a L)) (hn : a < 2 ^ L) : Row w v (a * 2 ^ k) (k + L) := by
  rw [← bitsV_shift] at h
  refine h.row ?_
  rw [Nat.pow_add, Nat.mul_comm]
  exact Nat.mul_lt_mul_of_pos_left hn (Nat.pow_pos (by omega))

set_option maxHeartbeats 1600000 in
theorem rmul_big (x y : Value) (s t : Bool) (a b : Nat) (w : World) (h : IsBig w x s a) (g : IsBig w y t b) (hL : nlen a ≤ 40000) (hM : nlen b ≤ 40000) :
    Calls Tryd.prog 50 #[x, y] w fun e w' => ∃ r, e = .returned r ∧ IsBig w' r (xor s t && decide (0 < a * b)) (a * b) ∧ Later w w' := by
  obtain ⟨v, rfl, hv⟩ := h
  obtain ⟨u, rfl, hu⟩ := g
  have hla := lt_nlen a
  unfold Num at hv
  obtain ⟨la, hl⟩ : ∃ la, nlen a = la := ⟨_, rfl⟩
  rw [hl] at hv hla hL
  clear hl
  obtain ⟨p, cp, rfl⟩ := Row.form hv
  obtain ⟨q, cq, rfl⟩ := Row.form hu
  go_enter Tryd.func50, Tryd.ntmps50
  go_wp2
  refine wp_opaque (fun w0 hb0 => ?_)
  have hO := Own.three hb0
  have hw0 : Later w w0 := hb0.un1.un1.un1
  have hv2 : Row w0 _ a la := hv.later hw0
  have hu2 : Num w0 _ b := hu.later hw0
  clear hb0 hv hu
  go_loopw [5, 6] (fun s5 s6 wr => ∃ k K : Nat, k ≤ nlen b ∧ s6 = .int .i64 k ∧ Row wr s5 (a * (b % 2 ^ k)) K ∧ K ≤ la + k ∧ Later w0 wr) (fun _ s6 _ => nlen b - (intOf s6).toNat)
  case atStart => exact ⟨0, 0, by omega, rfl, ⟨by simp [Nat.mod_one], .inl ⟨rfl, rfl⟩⟩, by omega, Later.refl _⟩
  case round =>
    obtain ⟨k, K, hk, rfl, hrow, hK, hlat⟩ := hrel
    obtain ⟨po, co, rfl⟩ := Row.form hrow
    obtain ⟨⟨z0, c0, -⟩, ⟨z1, c1, -⟩, ⟨z2, c2, f2⟩, -⟩ := hO.later hlat
    have hv3 := hv2.later hlat
    have hu3 := hu2.later hlat
    by_cases hkM : k < nlen b
    · obtain ⟨bb, cc, hvv, hb, hcap, hcells⟩ := Row.full hu3 (by omega)
      cases hvv
      have hcell := hcells k hkM
      clear hcells
      have hmb := mul_bit a b k
      have hbd : bit b k = ((b / 2 ^ k % 2 : Nat) : Int) := rfl
      rcases bit_cases b k with hb0' | hb0'
      · rw [hb0'] at hcell
        have hnx : a * (b % 2 ^ (k + 1)) = a * (b % 2 ^ k) := by rw [hmb, show b / 2 ^ k % 2 = 0 by omega]; simp
        have R := Lib.hid hrow
        have HN := Lib.hid hnx
        clear hmb hbd hb0' hrow hnx
        go_wp2
        go_roundw
        case rel => exact ⟨k + 1, K, by omega, by go_num, by rw [HN.out]; exact R.out, by omega, hlat⟩
        case measure => simp [intOf]; omega
      · rw [hb0'] at hcell
        have hnx : a * (b % 2 ^ (k + 1)) = a * (b % 2 ^ k) + a * 2 ^ k := by rw [hmb, show b / 2 ^ k % 2 = 1 by omega]; simp
        have R := Lib.hid hrow
        have HN := Lib.hid hnx
        have HLA := Lib.hid hla
        clear hmb hbd hb0' hrow hnx
        rcases hv3.2 with ⟨hn, rfl⟩ | ⟨ba, capa, hn, hba, _, hca⟩
        · cases hn
          clear hv3 hu3
          go_wp2_with (first
            | (at_make; go_must (refine wpList_mk slInt hlat rfl _ _ rfl k rfl rfl (by omega) (by unfold maxLen; omega) ?_; intro w1 z hz hm hl1; cases zeroInt hz; clear c0 c1 c2 f2 z0 z1 z2 hz hcell; replace hm := Mine.zeros hm; obtain ⟨⟨z0, c0, -⟩, ⟨z1, c1, -⟩, ⟨z2, c2, f2⟩, -⟩ := hO.later hm.lat; replace R := Lib.hid (R.out.later hl1)))
            | (at_builtin; go_must (refine wpList_app_none slInt hm rfl _ _ rfl rfl rfl ?_; have hF := Mine.shift (L := 0) (by rw [bitsV_zero, List.append_nil]; exact hm) HLA.out; simp only [Nat.add_zero] at hF))
            | (go_at_call 73; go_must (refine (rplus_any _ _ _ _ _ _ _ R.out hF (by omega) (by omega)).mono ?_; rintro e w3 ⟨r, K', rfl, hr, hK1, -, hb3⟩; obtain ⟨pr, cr, rfl⟩ := Row.form hr; clear c0 c1 c2 f2 z0 z1 z2)))
          have hr2 := Lib.hid hr
          have hl3 := hm.lat.trans hb3
          clear hr hm
          go_roundw
          case rel => exact ⟨k + 1, _, by omega, by go_num, by rw [HN.out]; exact hr2.out, by omega, hl3⟩
          case measure => simp [intOf]; omega
        · cases hn
          have hca' := Lib.hid (cells_bits hca)
          clear hca hv3 hu3
          go_wp2_with (first
            | (at_make; go_must (refine wpList_mk slInt hlat rfl _ _ rfl k rfl rfl (by omega) (by unfold maxLen; omega) ?_; intro w1 z hz hm hl1; cases zeroInt hz; clear c0 c1 c2 f2 z0 z1 z2 hz hcell; replace hm := Mine.zeros hm; obtain ⟨⟨z0, c0, -⟩, ⟨z1, c1, -⟩, ⟨z2, c2, f2⟩, -⟩ := hO.later hm.lat; replace hca' := Lib.hid (hca'.out.later hl1 hba)))
            | (at_builtin; go_must (refine wpList_app slInt hm rfl _ _ rfl rfl ba 0 la cp (bitsV a la) rfl (by simp [bitsV_len]) hca'.out bits_one (by omega) (by unfold maxLen; omega) ?_; intro v2 w2 hm2 hg2; have hF := Mine.shift hm2 HLA.out; replace R := Lib.hid (R.out.later (Later.grown hl1 hg2 (by intro k hk; cases hk; exact Nat.le_refl _)))))
            | (go_at_call 73; go_must (refine (rplus_any _ _ _ _ _ _ _ R.out hF (by omega) (by omega)).mono ?_; rintro e w3 ⟨r, K', rfl, hr, hK1, -, hb3⟩; obtain ⟨pr, cr, rfl⟩ := Row.form hr; clear c0 c1 c2 f2 z0 z1 z2)))
          have hr2 := Lib.hid hr
          have hl3 := hm2.lat.trans hb3
          clear hr hm hm2 hF hg2
          go_roundw
          case rel => exact ⟨k + 1, _, by omega, by go_num, by rw [HN.out]; exact hr2.out, by omega, hl3⟩
          case measure => simp [intOf]; omega
    · obtain rfl : k = nlen b := by omega
      rw [Nat.mod_eq_of_lt (lt_nlen b)] at hrow
      have hpos : 0 < nlen (a * b) ↔ 0 < a * b := nlen_pos
      have key : ∀ r : Bool, r = (xor s t && decide (0 < nlen (a * b))) → r = (xor s t && decide (0 < a * b)) := by intro r hr; rw [hr]; simp only [hpos]
      have HK := Lib.hid key
      have hlw := hw0.trans hlat
      clear key hpos hkM hk hla
      by_cases hpos : 0 < nlen (a * b)
      all_goals
        cases s <;> cases t
        all_goals
          go_wp2_with (go_at_call 74; go_must (refine (trim_any _ _ _ _ hrow (by omega)).mono ?_; rintro e w3 ⟨u, rfl, hu4, rfl⟩; obtain ⟨pu, cu, rfl⟩ := Row.form hu4))
          first
            | (obtain ⟨e0, e1, hI⟩ := big_end (s := false) c2 hu4
               exact bodyPost_ret (v := .agg #[.bool false, .slice pu (nlen (a * b)) cu]) (by simp [results, Tryd.results50, go_sem, e0, e1]) rfl ⟨_, rfl, by rw [← HK.out false (by simp [hpos])]; exact hI, by repeat (first | with_reducible exact Later.refl _ | with_reducible assumption | with_reducible refine Later.ofdrew ?_ | with_reducible refine Later.ofdrewN ?_ | with_reducible refine Later.setCell ?_ ?_ _ | with_reducible refine Later.alloc ?_ _ | with_reducible refine Later.drewN ?_ _ | with_reducible refine Later.drew ?_ | (with_reducible refine Later.trans ?_ (by assumption)) | (simp only [World.size_setCell, World.size_alloc, World.heap_drewN]; omega) | (simp; done) | (simp; omega))⟩)
            | (obtain ⟨e0, e1, hI⟩ := big_end (s := true) c2 hu4
               exact bodyPost_ret (v := .agg #[.bool true, .slice pu (nlen (a * b)) cu]) (by simp [results, Tryd.results50, go_sem, e0, e1]) rfl ⟨_, rfl, by rw [← HK.out true (by simp [hpos])]; exact hI, by repeat (first | with_reducible exact Later.refl _ | with_reducible assumption | with_reducible refine Later.ofdrew ?_ | with_reducible refine Later.ofdrewN ?_ | with_reducible refine Later.setCell ?_ ?_ _ | with_reducible refine Later.alloc ?_ _ | with_reducible refine Later.drewN ?_ _ | with_reducible refine Later.drew ?_ | (with_reducible refine Later.trans ?_ (by assumption)) | (simp only [World.size_setCell, World.size_alloc, World.heap_drewN]; omega) | (simp; done) | (simp; omega))⟩)
theorem rmul_any (x y : Value) (i j : Int) (w : World) (h : IsZ w x i) (g : IsZ w y j) (hL : nlen i.natAbs ≤ 40000) (hM : nlen j.natAbs ≤ 40000) :
    Calls Tryd.prog 50 #[x, y] w fun e w' => ∃ r, e = .returned r ∧ IsZ w' r (i * j) ∧ Later w w' := by
  refine (rmul_big x y _ _ _ _ w h g hL hM).mono fun e w' ⟨r, h1, h2, h3⟩ => ⟨r, h1, ?_, h3⟩
  unfold IsZ
  rw [Int.natAbs_mul]
  have : decide (i * j < 0) = (xor (decide (i < 0)) (decide (j < 0)) && decide (0 < i.natAbs * j.natAbs)) := by
    rcases Int.lt_trichotomy i 0 with hi | rfl | hi <;> rcases Int.lt_trichotomy j 0 with hj | rfl | hj
    all_goals first
      | (simp; done)
      | (have h1 : 0 < i.natAbs * j.natAbs := Nat.mul_pos (by omega) (by omega)
         have h2 : i * j < 0 ↔ ((i < 0) ≠ (j < 0)) := by
           first
             | (have := Int.mul_pos_of_neg_of_neg hi hj; simp [hi, hj]; omega)
             | (have := Int.mul_neg_of_neg_of_pos hi hj; simp [hi]; omega)
             | (have := Int.mul_neg_of_pos_of_neg hi hj; simp [hj]; omega)
             | (have := Int.mul_pos hi hj; simp; omega)
         have e1 : decide (i < 0) = decide (i < 0) := rfl
         simp only [h1, decide_true, Bool.and_true, h2]
         by_cases a : i < 0 <;> by_cases b : j < 0 <;> simp [a, b])
  rw [this]; exact h2
end Go.Proofs.YtkpadahpepeaoaaDoor

/- walks: chattelref01: Order -/
namespace Go.Proofs.YtkpadahpepeaoaaDoor
open Go.RowKit
set_option maxRecDepth 100000

theorem rneg_z (x : Value) (i : Int) (w : World) (h : IsZ w x i) (hL : nlen i.natAbs ≤ 90000) :
    Calls Tryd.prog 52 #[x] w fun e w' => ∃ r, e = .returned r ∧ IsZ w' r (-i) ∧ Later w w' := by
  refine (rneg_any x _ _ w h hL).mono fun e w' ⟨r, h1, h2, h3⟩ => ⟨r, h1, ?_, h3⟩
  unfold IsZ
  rw [Int.natAbs_neg, show decide (-i < 0) = (!decide (i < 0) && decide (0 < i.natAbs)) by
    rw [Bool.eq_iff_iff]; simp; omega]
  exact h2

/-- -1, 0 or 1: by the order of numbers. -/
def cmpZ (x y : Int) : Int := if x < y then -1 else if x = y then 0 else 1

theorem nlen_add (a b : Nat) : nlen (a + b) ≤ max (nlen a) (nlen b) + 1 := by
  refine nlen_le ?_
  have h1 := lt_nlen a
  have h2 := lt_nlen b
  have e1 : 2 ^ nlen a ≤ 2 ^ max (nlen a) (nlen b) := Nat.pow_le_pow_right (by omega) (by omega)
  have e2 : 2 ^ nlen b ≤ 2 ^ max (nlen a) (nlen b) := Nat.pow_le_pow_right (by omega) (by omega)
  rw [Nat.pow_succ]; omega
theorem nlen_mul (a b : Nat) : nlen (a * b) ≤ nlen a + nlen b := by
  refine nlen_le ?_
  rw [Nat.pow_add]
  have h1 := lt_nlen a
  have h2 := lt_nlen b
  exact Nat.lt_of_le_of_lt (Nat.mul_le_mul_left a (Nat.le_of_lt h2)) (Nat.mul_lt_mul_of_pos_right h1 (Nat.pow_pos (by omega)))
theorem nlen_i64 {z : Int} (h1 : -9223372036854775808 ≤ z) (h2 : z ≤ 9223372036854775807) : nlen z.natAbs ≤ 64 := nlen_le (by omega)

set_option maxHeartbeats 1600000 in
theorem rorder_any (x y : Value) (i j : Int) (w : World) (h : IsZ w x i) (g : IsZ w y j) (hL : nlen i.natAbs ≤ 90000) (hM : nlen j.natAbs ≤ 90000) :
    Calls Tryd.prog 49 #[x, y] w fun e w' => e = .returned (.int .i64 (cmpZ i j)) ∧ Later w w' := by
  obtain ⟨v, rfl, hv⟩ := h
  obtain ⟨u, rfl, hu⟩ := g
  obtain ⟨p, cp, rfl⟩ := Row.form hv
  obtain ⟨q, cq, rfl⟩ := Row.form hu
  have hx : IsZ w _ i := ⟨_, rfl, hv⟩
  have hy : IsZ w _ j := ⟨_, rfl, hu⟩
  clear hv hu
  generalize decide (i < 0) = s at *
  generalize decide (j < 0) = t at *
  go_enter Tryd.func49, Tryd.ntmps49
  go_upto_region 1 with fail
  refine wp_opaque (fun w0 hb0 => ?_)
  obtain ⟨⟨z0, c0, f0⟩, ⟨z1, c1, f1⟩, -⟩ := Own.two hb0
  have hw0 : Later w w0 := hb0.un1.un1
  have hs0 := Later.size hw0
  replace hx := hx.later hw0
  replace hy := hy.later hw0
  go_cut [5] (fun s5 wx => ∃ b v, s5 = .pointer (some ⟨b, 0, none⟩) ∧ Own wx [(b, #[.bool (decide (i + -j < 0)), v])] ∧ Num wx v (i + -j).natAbs ∧ Later w wx)
  case first =>
    clear hb0
    refine wp_region_plan 5 (.two [0, 1] 2 (.two [] 3 (.one [] 4 (.one [] 5 (.done []))) 4 (.one [] 3 (.one [] 5 (.done [])))) 4 (.one [] 2 (.one [] 3 (.one [] 5 (.done []))))) (by kernel_rfl) (by kernel_rfl) (fun _ _ d _ _ h => by cases d <;> exact h) ?_
    repeat' (first
      | (refine plan_done (fun K hK => ?_); (first | (simp only [pick_cons, pick_nil, toList_some_append, List.getElem?_toArray, List.getElem?_cons_zero, List.getElem?_cons_succ]; repeat (go_big_quiet_step (fail))) | simp only [pick_nil]); refine wpQuiet_nil (hK _ ?_); clear hK K)
      | (refine plan_one (by rfl) (fun K hK => ?_); (first | (simp only [pick_cons, pick_nil, toList_some_append, List.getElem?_toArray, List.getElem?_cons_zero, List.getElem?_cons_succ]; repeat (go_big_quiet_step (fail))) | simp only [pick_nil]); refine wpQuiet_nil (hK _ ?_); clear hK K)
      | (refine plan_two (by rfl) (by rfl) (fun K hK => ?_); (first | (simp only [pick_cons, pick_nil, toList_some_append, List.getElem?_toArray, List.getElem?_cons_zero, List.getElem?_cons_succ]; repeat (go_big_quiet_step (fail))) | simp only [pick_nil]); refine wpQuiet_nil (hK _ ?_); clear hK K; refine ⟨?_, ?_⟩)
      | ((with_reducible refine at_list ?_); go_wp2_with (first | (go_at_call 52; go_must (refine (rneg_z _ j _ (hy.later (by repeat (first | with_reducible exact Later.refl _ | with_reducible assumption | with_reducible refine Later.ofdrew ?_ | with_reducible refine Later.ofdrewN ?_ | with_reducible refine Later.setCell ?_ ?_ _ | with_reducible refine Later.alloc ?_ _ | with_reducible refine Later.drewN ?_ _ | with_reducible refine Later.drew ?_ | (with_reducible refine Later.trans ?_ (by assumption)) | (simp only [World.size_setCell, World.size_alloc, World.heap_drewN]; omega) | (simp; done) | (simp; omega)))) (by omega)).mono ?_; rintro e w1 ⟨r, rfl, hr, hb1⟩; (first | have hO5 := Own.one hb1 | have hO5 := own_one_d hb1 | skip); have hs1 := Later.size hb1; (try simp only [World.size_alloc, World.size_drew] at hs1))) | (go_at_call 51; go_must (refine (radd_any _ _ i (-j) _ (hx.later (by repeat (first | with_reducible exact Later.refl _ | with_reducible assumption | with_reducible refine Later.ofdrew ?_ | with_reducible refine Later.ofdrewN ?_ | with_reducible refine Later.setCell ?_ ?_ _ | with_reducible refine Later.alloc ?_ _ | with_reducible refine Later.drewN ?_ _ | with_reducible refine Later.drew ?_ | (with_reducible refine Later.trans ?_ (by assumption)) | (simp only [World.size_setCell, World.size_alloc, World.heap_drewN]; omega) | (simp; done) | (simp; omega)))) (hr.later (by repeat (first | with_reducible exact Later.refl _ | with_reducible assumption | with_reducible refine Later.ofdrew ?_ | with_reducible refine Later.ofdrewN ?_ | with_reducible refine Later.setCell ?_ ?_ _ | with_reducible refine Later.alloc ?_ _ | with_reducible refine Later.drewN ?_ _ | with_reducible refine Later.drew ?_ | (with_reducible refine Later.trans ?_ (by assumption)) | (simp only [World.size_setCell, World.size_alloc, World.heap_drewN]; omega) | (simp; done) | (simp; omega)))) (by omega) (by rw [Int.natAbs_neg]; omega)).mono ?_; rintro e w2 ⟨r2, rfl, hz2, hb2⟩; obtain ⟨p2, k2, e2, hr2⟩ := hz2.open; subst e2; (first | have hO5 := hO5.later hb2 | have hO5 := Own.one hb2 | have hO5 := own_one_d hb2 | skip); (first | have hx5 := own_get hO5 | skip); (first | have c5 := hx5.2.1 | skip); (first | have f5 := hx5.2.2 | skip); have hs2 := Later.size hb2; (try simp only [World.size_alloc, World.size_drew] at hs2)))); first | refine behind_store (t := 5) (by decide) ?_ | refine behind (by repeat (first | with_reducible exact Later.refl _ | with_reducible assumption | with_reducible refine Later.ofdrew ?_ | with_reducible refine Later.ofdrewN ?_ | with_reducible refine Later.alloc ?_ _ | with_reducible refine Later.drewN ?_ _ | with_reducible refine Later.drew ?_ | (with_reducible refine Later.trans ?_ (by assumption)))) ?_))
    all_goals
      go_wp2_with fail
      go_meet
      first
        | exact ⟨_, _, rfl, own_alloc _ _ _, hr2.later (by repeat (first | with_reducible exact Later.refl _ | with_reducible assumption | with_reducible refine Later.ofdrew ?_ | with_reducible refine Later.ofdrewN ?_ | with_reducible refine Later.setCell ?_ ?_ _ | with_reducible refine Later.alloc ?_ _ | with_reducible refine Later.drewN ?_ _ | with_reducible refine Later.drew ?_ | (with_reducible refine Later.trans ?_ (by assumption)) | (simp only [World.size_setCell, World.size_alloc, World.heap_drewN]; omega) | (simp; done) | (simp; omega))), by repeat (first | with_reducible exact Later.refl _ | with_reducible assumption | with_reducible refine Later.ofdrew ?_ | with_reducible refine Later.ofdrewN ?_ | with_reducible refine Later.setCell ?_ ?_ _ | with_reducible refine Later.alloc ?_ _ | with_reducible refine Later.drewN ?_ _ | with_reducible refine Later.drew ?_ | (with_reducible refine Later.trans ?_ (by assumption)) | (simp only [World.size_setCell, World.size_alloc, World.heap_drewN]; omega) | (simp; done) | (simp; omega))⟩
        | exact ⟨_, _, rfl, own_set2 hO5, hr2.set2 c5, by repeat (first | with_reducible exact Later.refl _ | with_reducible assumption | with_reducible refine Later.ofdrew ?_ | with_reducible refine Later.ofdrewN ?_ | with_reducible refine Later.setCell ?_ ?_ _ | with_reducible refine Later.alloc ?_ _ | with_reducible refine Later.drewN ?_ _ | with_reducible refine Later.drew ?_ | (with_reducible refine Later.trans ?_ (by assumption)) | (simp only [World.size_setCell, World.size_alloc, World.heap_drewN]; omega) | (simp; done) | (simp; omega))⟩
  case rest =>
    obtain ⟨b, v, rfl, hO, hN, hlat⟩ := hcut
    obtain ⟨p5, k5, rfl⟩ := Row.form hN
    obtain ⟨z5, c5, -⟩ := own_get hO
    have hp := nlen_pos (n := (i + -j).natAbs)
    clear hx hy hb0 hO hN c0 c1 f0 f1
    rcases Int.lt_trichotomy i j with hc | hc | hc
    · have h1 : decide (i + -j < 0) = true := by simp; omega
      have h2 : 0 < nlen (i + -j).natAbs := hp.2 (by omega)
      have h3 : cmpZ i j = -1 := by simp [cmpZ, hc]
      rw [h1] at c5; have H3 := Lib.hid h3
      generalize nlen (i + -j).natAbs = L at *
      clear h1 h3 hc hp hL hM
      go_wp2
      go_ret
      exact ⟨ret_int H3.out.symm, hlat⟩
    · have h1 : decide (i + -j < 0) = false := by simp; omega
      have h2 : nlen (i + -j).natAbs = 0 := by rw [show (i + -j).natAbs = 0 by omega]; rfl
      have h3 : cmpZ i j = 0 := by simp [cmpZ, hc]
      rw [h1, h2] at c5; have H3 := Lib.hid h3
      clear h1 h3 hc hp h2 hL hM
      go_wp2
      go_ret
      exact ⟨ret_int H3.out.symm, hlat⟩
    · have h1 : decide (i + -j < 0) = false := by simp; omega
      have h2 : 0 < nlen (i + -j).natAbs := hp.2 (by omega)
      have h3 : cmpZ i j = 1 := by unfold cmpZ; rw [if_neg (by omega), if_neg (by omega)]
      rw [h1] at c5; have H3 := Lib.hid h3
      generalize nlen (i + -j).natAbs = L at *
      clear h1 h3 hc hp hL hM
      go_wp2
      go_ret
      exact ⟨ret_int H3.out.symm, hlat⟩
end Go.Proofs.YtkpadahpepeaoaaDoor
