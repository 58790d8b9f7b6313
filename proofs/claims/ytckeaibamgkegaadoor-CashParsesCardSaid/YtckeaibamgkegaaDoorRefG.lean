/- walks: chattelref01: Add of two signs -/
import Derived.Test.YtckeaibamgkegaaDoorRefF
set_option linter.all false
namespace Go.Proofs.YtckeaibamgkegaaDoor
open Go.RowKit
set_option maxRecDepth 100000

theorem cmpN_lt {a b : Nat} (h : a < b) : cmpN a b = -1 := by simp [cmpN, h]
theorem cmpN_ge {a b : Nat} (h : b ≤ a) : 0 ≤ cmpN a b := by unfold cmpN; rw [if_neg (by omega)]; split <;> omega

set_option maxHeartbeats 1600000 in
theorem radd_less (x y : Value) (s : Bool) (a b : Nat) (w : World) (h : IsBig w x s a) (g : IsBig w y (!s) b) (hL : nlen a ≤ 90000) (hM : nlen b ≤ 90000) (hab : a < b) :
    Calls Tryd.prog 74 #[x, y] w fun e w' => ∃ r, e = .returned r ∧ IsBig w' r (!s) (b - a) ∧ Later w w' := by
  obtain ⟨v, rfl, hv⟩ := h
  obtain ⟨u, rfl, hu⟩ := g
  obtain ⟨p, cp, rfl⟩ := Row.form hv
  obtain ⟨q, cq, rfl⟩ := Row.form hu
  have hcm := Lib.hid (cmpN_lt hab)
  have hle := Lib.hid (Nat.le_of_lt hab)
  clear hab
  have ht : (s == !s) = false := by cases s <;> rfl
  go_enter Tryd.func74, Tryd.ntmps74
  go_upto_region 3 with fail
  refine wp_opaque (fun w0 hb0 => ?_)
  obtain ⟨c0, f0, c1, f1, c2, f2, z0⟩ := own3 hb0
  have hv2 : Num w0 _ a := hv.later (Later.trans (by repeat (first | with_reducible exact Later.refl _ | with_reducible assumption | with_reducible refine Later.ofdrew ?_ | with_reducible refine Later.ofdrewN ?_ | with_reducible refine Later.setCell ?_ ?_ _ | with_reducible refine Later.alloc ?_ _ | with_reducible refine Later.drewN ?_ _ | with_reducible refine Later.drew ?_ | (with_reducible refine Later.trans ?_ (by assumption)) | (simp only [World.size_setCell, World.size_alloc, World.heap_drewN]; omega) | (simp; done) | (simp; omega))) hb0)
  have hu2 : Num w0 _ b := hu.later (Later.trans (by repeat (first | with_reducible exact Later.refl _ | with_reducible assumption | with_reducible refine Later.ofdrew ?_ | with_reducible refine Later.ofdrewN ?_ | with_reducible refine Later.setCell ?_ ?_ _ | with_reducible refine Later.alloc ?_ _ | with_reducible refine Later.drewN ?_ _ | with_reducible refine Later.drew ?_ | (with_reducible refine Later.trans ?_ (by assumption)) | (simp only [World.size_setCell, World.size_alloc, World.heap_drewN]; omega) | (simp; done) | (simp; omega))) hb0)
  go_upto_region 4 with (go_at_call 87; refine (order_any _ _ _ _ _ hv2 hu2 (by omega) (by omega)).mono ?_; rw [hcm.out]; rintro e w1 ⟨rfl, hb1⟩; obtain ⟨hc, hf⟩ := bcell hb1; have hz := Later.size hb1; (try simp only [World.size_alloc, World.size_drew, World.heap_drewN, World.size_setCell] at hz); (repeat (first | (with_reducible refine use_of (Later.undrew hb1) ?_; intro hb1) | (with_reducible refine use_of (Later.undrewN hb1) ?_; intro hb1) | (with_reducible refine use_of (Later.unalloc hb1) ?_; intro hb1))); obtain ⟨hc, hf⟩ := bcell hb1; (try (refine use_of (fun i => (hc _ i (by omega)).trans (c0 i)) ?_; clear c0; intro c0)); (try (refine use_of (fun i => (hc _ i (by omega)).trans (c1 i)) ?_; clear c1; intro c1)); (try (refine use_of (fun i => (hc _ i (by omega)).trans (c2 i)) ?_; clear c2; intro c2)); (try (refine use_of (fun i hi => (hf _ i (by omega)).trans (f0 i hi)) ?_; clear f0; intro f0)); (try (refine use_of (fun i hi => (hf _ i (by omega)).trans (f1 i hi)) ?_; clear f1; intro f1)); (try (refine use_of (fun i hi => (hf _ i (by omega)).trans (f2 i hi)) ?_; clear f2; intro f2)))
  have hv3 := hv2.later hb1
  have hu3 := hu2.later hb1
  refine wp_region_plan 8 (.one [0, 1, 2, 3, 4, 5] 6 (.one [7] 8 (.done []))) (by kernel_rfl) (by kernel_rfl) (fun _ _ d _ _ h => by cases d <;> exact h) ?_
  repeat' (first
    | (refine plan_done (fun K hK => ?_); (first | (simp only [pick_cons, pick_nil, toList_some_append, List.getElem?_toArray, List.getElem?_cons_zero, List.getElem?_cons_succ]; repeat (go_big_quiet_step (fail))) | simp only [pick_nil]); refine wpQuiet_nil (hK _ ?_); clear hK K)
    | (refine plan_one (by rfl) (fun K hK => ?_); (first | (simp only [pick_cons, pick_nil, toList_some_append, List.getElem?_toArray, List.getElem?_cons_zero, List.getElem?_cons_succ]; repeat (go_big_quiet_step (fail))) | simp only [pick_nil]); refine wpQuiet_nil (hK _ ?_); clear hK K)
    | ((with_reducible refine at_list ?_); go_wp2_with (go_at_call 88; refine (minus_any _ _ _ _ _ _ _ (hu3.later (by repeat (first | with_reducible exact Later.refl _ | with_reducible assumption | with_reducible refine Later.ofdrew ?_ | with_reducible refine Later.ofdrewN ?_ | with_reducible refine Later.setCell ?_ ?_ _ | with_reducible refine Later.alloc ?_ _ | with_reducible refine Later.drewN ?_ _ | with_reducible refine Later.drew ?_ | (with_reducible refine Later.trans ?_ (by assumption)) | (simp only [World.size_setCell, World.size_alloc, World.heap_drewN]; omega) | (simp; done) | (simp; omega)))) (hv3.later (by repeat (first | with_reducible exact Later.refl _ | with_reducible assumption | with_reducible refine Later.ofdrew ?_ | with_reducible refine Later.ofdrewN ?_ | with_reducible refine Later.setCell ?_ ?_ _ | with_reducible refine Later.alloc ?_ _ | with_reducible refine Later.drewN ?_ _ | with_reducible refine Later.drew ?_ | (with_reducible refine Later.trans ?_ (by assumption)) | (simp only [World.size_setCell, World.size_alloc, World.heap_drewN]; omega) | (simp; done) | (simp; omega)))) hM hL hle.out).mono ?_; rintro e w2 ⟨r, rfl, hr, hb2⟩; obtain ⟨pr, cr, rfl⟩ := Row.form hr; obtain ⟨hc, hf⟩ := bcell hb2; have hz := Later.size hb2; (try simp only [World.size_alloc, World.size_drew, World.heap_drewN, World.size_setCell] at hz); (repeat (first | (with_reducible refine use_of (Later.undrew hb2) ?_; intro hb2) | (with_reducible refine use_of (Later.undrewN hb2) ?_; intro hb2) | (with_reducible refine use_of (Later.unalloc hb2) ?_; intro hb2))); obtain ⟨hc, hf⟩ := bcell hb2; (try (refine use_of (fun i => (hc _ i (by omega)).trans (c2 i)) ?_; clear c2; intro c2)); (try (refine use_of (fun i hi => (hf _ i (by omega)).trans (f2 i hi)) ?_; clear f2; intro f2))); first | refine behind_store (t := 8) (by decide) ?_ | refine behind (by repeat (first | with_reducible exact Later.refl _ | with_reducible assumption | with_reducible refine Later.ofdrew ?_ | with_reducible refine Later.ofdrewN ?_ | with_reducible refine Later.alloc ?_ _ | with_reducible refine Later.drewN ?_ _ | with_reducible refine Later.drew ?_ | (with_reducible refine Later.trans ?_ (by assumption)))) ?_))
  go_wp2
  obtain ⟨e0, e1, hI⟩ := big_end (s := !s) c2 hr
  exact bodyPost_ret (v := .agg #[.bool !s, .slice pr (nlen (b - a)) cr]) (by simp [results, Tryd.results74, go_sem, e0, e1]) rfl ⟨_, rfl, hI, by repeat (first | with_reducible exact Later.refl _ | with_reducible assumption | with_reducible refine Later.ofdrew ?_ | with_reducible refine Later.ofdrewN ?_ | with_reducible refine Later.setCell ?_ ?_ _ | with_reducible refine Later.alloc ?_ _ | with_reducible refine Later.drewN ?_ _ | with_reducible refine Later.drew ?_ | (with_reducible refine Later.trans ?_ (by assumption)) | (simp only [World.size_setCell, World.size_alloc, World.heap_drewN]; omega) | (simp; done) | (simp; omega))⟩

set_option maxHeartbeats 1600000 in
theorem radd_pos (x y : Value) (a b : Nat) (w : World) (h : IsBig w x false a) (g : IsBig w y true b) (hL : nlen a ≤ 90000) (hM : nlen b ≤ 90000) (hab : b ≤ a) :
    Calls Tryd.prog 74 #[x, y] w fun e w' => ∃ r, e = .returned r ∧ IsBig w' r false (a - b) ∧ Later w w' := by
  obtain ⟨v, rfl, hv⟩ := h
  obtain ⟨u, rfl, hu⟩ := g
  obtain ⟨p, cp, rfl⟩ := Row.form hv
  obtain ⟨q, cq, rfl⟩ := Row.form hu
  have hcm := cmpN_ge hab
  obtain ⟨cm, hcm2⟩ : ∃ cm, cmpN a b = cm := ⟨_, rfl⟩
  rw [hcm2] at hcm
  have hcm3 := Lib.hid hcm2
  have hle := Lib.hid hab
  clear hab hcm2
  have hcm4 : decide (cm < 0) = false := by simp; omega
  clear hcm
  go_enter Tryd.func74, Tryd.ntmps74
  go_upto_region 3 with fail
  refine wp_opaque (fun w0 hb0 => ?_)
  obtain ⟨c0, f0, c1, f1, c2, f2, z0⟩ := own3 hb0
  have hv2 : Num w0 _ a := hv.later (Later.trans (by repeat (first | with_reducible exact Later.refl _ | with_reducible assumption | with_reducible refine Later.ofdrew ?_ | with_reducible refine Later.ofdrewN ?_ | with_reducible refine Later.setCell ?_ ?_ _ | with_reducible refine Later.alloc ?_ _ | with_reducible refine Later.drewN ?_ _ | with_reducible refine Later.drew ?_ | (with_reducible refine Later.trans ?_ (by assumption)) | (simp only [World.size_setCell, World.size_alloc, World.heap_drewN]; omega) | (simp; done) | (simp; omega))) hb0)
  have hu2 : Num w0 _ b := hu.later (Later.trans (by repeat (first | with_reducible exact Later.refl _ | with_reducible assumption | with_reducible refine Later.ofdrew ?_ | with_reducible refine Later.ofdrewN ?_ | with_reducible refine Later.setCell ?_ ?_ _ | with_reducible refine Later.alloc ?_ _ | with_reducible refine Later.drewN ?_ _ | with_reducible refine Later.drew ?_ | (with_reducible refine Later.trans ?_ (by assumption)) | (simp only [World.size_setCell, World.size_alloc, World.heap_drewN]; omega) | (simp; done) | (simp; omega))) hb0)
  go_wp2_with (first
    | (go_at_call 87; refine (order_any _ _ _ _ _ hv2 hu2 (by omega) (by omega)).mono ?_; rw [hcm3.out]; rintro e w1 ⟨rfl, hb1⟩; obtain ⟨hc, hf⟩ := bcell hb1; have hz := Later.size hb1; (try simp only [World.size_alloc, World.size_drew, World.heap_drewN, World.size_setCell] at hz); (repeat (first | (with_reducible refine use_of (Later.undrew hb1) ?_; intro hb1) | (with_reducible refine use_of (Later.undrewN hb1) ?_; intro hb1) | (with_reducible refine use_of (Later.unalloc hb1) ?_; intro hb1))); obtain ⟨hc, hf⟩ := bcell hb1; (try (refine use_of (fun i => (hc _ i (by omega)).trans (c0 i)) ?_; clear c0; intro c0)); (try (refine use_of (fun i => (hc _ i (by omega)).trans (c1 i)) ?_; clear c1; intro c1)); (try (refine use_of (fun i => (hc _ i (by omega)).trans (c2 i)) ?_; clear c2; intro c2)); (try (refine use_of (fun i hi => (hf _ i (by omega)).trans (f0 i hi)) ?_; clear f0; intro f0)); (try (refine use_of (fun i hi => (hf _ i (by omega)).trans (f1 i hi)) ?_; clear f1; intro f1)); (try (refine use_of (fun i hi => (hf _ i (by omega)).trans (f2 i hi)) ?_; clear f2; intro f2)); have hv3 := hv2.later hb1; have hu3 := hu2.later hb1)
    | (go_at_call 88; refine (minus_any _ _ _ _ _ _ _ (hv3.later (by repeat (first | with_reducible exact Later.refl _ | with_reducible assumption | with_reducible refine Later.ofdrew ?_ | with_reducible refine Later.ofdrewN ?_ | with_reducible refine Later.setCell ?_ ?_ _ | with_reducible refine Later.alloc ?_ _ | with_reducible refine Later.drewN ?_ _ | with_reducible refine Later.drew ?_ | (with_reducible refine Later.trans ?_ (by assumption)) | (simp only [World.size_setCell, World.size_alloc, World.heap_drewN]; omega) | (simp; done) | (simp; omega)))) (hu3.later (by repeat (first | with_reducible exact Later.refl _ | with_reducible assumption | with_reducible refine Later.ofdrew ?_ | with_reducible refine Later.ofdrewN ?_ | with_reducible refine Later.setCell ?_ ?_ _ | with_reducible refine Later.alloc ?_ _ | with_reducible refine Later.drewN ?_ _ | with_reducible refine Later.drew ?_ | (with_reducible refine Later.trans ?_ (by assumption)) | (simp only [World.size_setCell, World.size_alloc, World.heap_drewN]; omega) | (simp; done) | (simp; omega)))) hL hM hle.out).mono ?_; rintro e w2 ⟨r, rfl, hr, hb2⟩; obtain ⟨pr, cr, rfl⟩ := Row.form hr; obtain ⟨hc, hf⟩ := bcell hb2; have hz := Later.size hb2; (try simp only [World.size_alloc, World.size_drew, World.heap_drewN, World.size_setCell] at hz); (repeat (first | (with_reducible refine use_of (Later.undrew hb2) ?_; intro hb2) | (with_reducible refine use_of (Later.undrewN hb2) ?_; intro hb2) | (with_reducible refine use_of (Later.unalloc hb2) ?_; intro hb2))); obtain ⟨hc, hf⟩ := bcell hb2; (try (refine use_of (fun i => (hc _ i (by omega)).trans (c0 i)) ?_; clear c0; intro c0)); (try (refine use_of (fun i => (hc _ i (by omega)).trans (c1 i)) ?_; clear c1; intro c1)); (try (refine use_of (fun i => (hc _ i (by omega)).trans (c2 i)) ?_; clear c2; intro c2)); (try (refine use_of (fun i hi => (hf _ i (by omega)).trans (f0 i hi)) ?_; clear f0; intro f0)); (try (refine use_of (fun i hi => (hf _ i (by omega)).trans (f1 i hi)) ?_; clear f1; intro f1)); (try (refine use_of (fun i hi => (hf _ i (by omega)).trans (f2 i hi)) ?_; clear f2; intro f2))))
  all_goals
    obtain ⟨e0, e1, hI⟩ := big_end (s := false) c2 hr
    exact bodyPost_ret (v := .agg #[.bool false, .slice pr (nlen (a - b)) cr]) (by simp [results, Tryd.results74, go_sem, e0, e1]) rfl ⟨_, rfl, hI, by repeat (first | with_reducible exact Later.refl _ | with_reducible assumption | with_reducible refine Later.ofdrew ?_ | with_reducible refine Later.ofdrewN ?_ | with_reducible refine Later.setCell ?_ ?_ _ | with_reducible refine Later.alloc ?_ _ | with_reducible refine Later.drewN ?_ _ | with_reducible refine Later.drew ?_ | (with_reducible refine Later.trans ?_ (by assumption)) | (simp only [World.size_setCell, World.size_alloc, World.heap_drewN]; omega) | (simp; done) | (simp; omega))⟩

set_option maxHeartbeats 1600000 in
theorem radd_neg (x y : Value) (a b : Nat) (w : World) (h : IsBig w x true a) (g : IsBig w y false b) (hL : nlen a ≤ 90000) (hM : nlen b ≤ 90000) (hab : b ≤ a) (hd : 0 < a - b) :
    Calls Tryd.prog 74 #[x, y] w fun e w' => ∃ r, e = .returned r ∧ IsBig w' r true (a - b) ∧ Later w w' := by
  obtain ⟨v, rfl, hv⟩ := h
  obtain ⟨u, rfl, hu⟩ := g
  obtain ⟨p, cp, rfl⟩ := Row.form hv
  obtain ⟨q, cq, rfl⟩ := Row.form hu
  have hcm := cmpN_ge hab
  obtain ⟨cm, hcm2⟩ : ∃ cm, cmpN a b = cm := ⟨_, rfl⟩
  rw [hcm2] at hcm
  have hcm3 := Lib.hid hcm2
  have hle := Lib.hid hab
  clear hab hcm2
  have hcm4 : decide (cm < 0) = false := by simp; omega
  clear hcm
  have hpos := nlen_pos.2 hd
  go_enter Tryd.func74, Tryd.ntmps74
  go_upto_region 3 with fail
  refine wp_opaque (fun w0 hb0 => ?_)
  obtain ⟨c0, f0, c1, f1, c2, f2, z0⟩ := own3 hb0
  have hv2 : Num w0 _ a := hv.later (Later.trans (by repeat (first | with_reducible exact Later.refl _ | with_reducible assumption | with_reducible refine Later.ofdrew ?_ | with_reducible refine Later.ofdrewN ?_ | with_reducible refine Later.setCell ?_ ?_ _ | with_reducible refine Later.alloc ?_ _ | with_reducible refine Later.drewN ?_ _ | with_reducible refine Later.drew ?_ | (with_reducible refine Later.trans ?_ (by assumption)) | (simp only [World.size_setCell, World.size_alloc, World.heap_drewN]; omega) | (simp; done) | (simp; omega))) hb0)
  have hu2 : Num w0 _ b := hu.later (Later.trans (by repeat (first | with_reducible exact Later.refl _ | with_reducible assumption | with_reducible refine Later.ofdrew ?_ | with_reducible refine Later.ofdrewN ?_ | with_reducible refine Later.setCell ?_ ?_ _ | with_reducible refine Later.alloc ?_ _ | with_reducible refine Later.drewN ?_ _ | with_reducible refine Later.drew ?_ | (with_reducible refine Later.trans ?_ (by assumption)) | (simp only [World.size_setCell, World.size_alloc, World.heap_drewN]; omega) | (simp; done) | (simp; omega))) hb0)
  go_wp2_with (first
    | (go_at_call 87; refine (order_any _ _ _ _ _ hv2 hu2 (by omega) (by omega)).mono ?_; rw [hcm3.out]; rintro e w1 ⟨rfl, hb1⟩; obtain ⟨hc, hf⟩ := bcell hb1; have hz := Later.size hb1; (try simp only [World.size_alloc, World.size_drew, World.heap_drewN, World.size_setCell] at hz); (repeat (first | (with_reducible refine use_of (Later.undrew hb1) ?_; intro hb1) | (with_reducible refine use_of (Later.undrewN hb1) ?_; intro hb1) | (with_reducible refine use_of (Later.unalloc hb1) ?_; intro hb1))); obtain ⟨hc, hf⟩ := bcell hb1; (try (refine use_of (fun i => (hc _ i (by omega)).trans (c0 i)) ?_; clear c0; intro c0)); (try (refine use_of (fun i => (hc _ i (by omega)).trans (c1 i)) ?_; clear c1; intro c1)); (try (refine use_of (fun i => (hc _ i (by omega)).trans (c2 i)) ?_; clear c2; intro c2)); (try (refine use_of (fun i hi => (hf _ i (by omega)).trans (f0 i hi)) ?_; clear f0; intro f0)); (try (refine use_of (fun i hi => (hf _ i (by omega)).trans (f1 i hi)) ?_; clear f1; intro f1)); (try (refine use_of (fun i hi => (hf _ i (by omega)).trans (f2 i hi)) ?_; clear f2; intro f2)); have hv3 := hv2.later hb1; have hu3 := hu2.later hb1)
    | (go_at_call 88; refine (minus_any _ _ _ _ _ _ _ (hv3.later (by repeat (first | with_reducible exact Later.refl _ | with_reducible assumption | with_reducible refine Later.ofdrew ?_ | with_reducible refine Later.ofdrewN ?_ | with_reducible refine Later.setCell ?_ ?_ _ | with_reducible refine Later.alloc ?_ _ | with_reducible refine Later.drewN ?_ _ | with_reducible refine Later.drew ?_ | (with_reducible refine Later.trans ?_ (by assumption)) | (simp only [World.size_setCell, World.size_alloc, World.heap_drewN]; omega) | (simp; done) | (simp; omega)))) (hu3.later (by repeat (first | with_reducible exact Later.refl _ | with_reducible assumption | with_reducible refine Later.ofdrew ?_ | with_reducible refine Later.ofdrewN ?_ | with_reducible refine Later.setCell ?_ ?_ _ | with_reducible refine Later.alloc ?_ _ | with_reducible refine Later.drewN ?_ _ | with_reducible refine Later.drew ?_ | (with_reducible refine Later.trans ?_ (by assumption)) | (simp only [World.size_setCell, World.size_alloc, World.heap_drewN]; omega) | (simp; done) | (simp; omega)))) hL hM hle.out).mono ?_; rintro e w2 ⟨r, rfl, hr, hb2⟩; obtain ⟨pr, cr, rfl⟩ := Row.form hr; obtain ⟨hc, hf⟩ := bcell hb2; have hz := Later.size hb2; (try simp only [World.size_alloc, World.size_drew, World.heap_drewN, World.size_setCell] at hz); (repeat (first | (with_reducible refine use_of (Later.undrew hb2) ?_; intro hb2) | (with_reducible refine use_of (Later.undrewN hb2) ?_; intro hb2) | (with_reducible refine use_of (Later.unalloc hb2) ?_; intro hb2))); obtain ⟨hc, hf⟩ := bcell hb2; (try (refine use_of (fun i => (hc _ i (by omega)).trans (c0 i)) ?_; clear c0; intro c0)); (try (refine use_of (fun i => (hc _ i (by omega)).trans (c1 i)) ?_; clear c1; intro c1)); (try (refine use_of (fun i => (hc _ i (by omega)).trans (c2 i)) ?_; clear c2; intro c2)); (try (refine use_of (fun i hi => (hf _ i (by omega)).trans (f0 i hi)) ?_; clear f0; intro f0)); (try (refine use_of (fun i hi => (hf _ i (by omega)).trans (f1 i hi)) ?_; clear f1; intro f1)); (try (refine use_of (fun i hi => (hf _ i (by omega)).trans (f2 i hi)) ?_; clear f2; intro f2))))
  all_goals
    obtain ⟨e0, e1, hI⟩ := big_end (s := true) c2 hr
    exact bodyPost_ret (v := .agg #[.bool true, .slice pr (nlen (a - b)) cr]) (by simp [results, Tryd.results74, go_sem, e0, e1]) rfl ⟨_, rfl, hI, by repeat (first | with_reducible exact Later.refl _ | with_reducible assumption | with_reducible refine Later.ofdrew ?_ | with_reducible refine Later.ofdrewN ?_ | with_reducible refine Later.setCell ?_ ?_ _ | with_reducible refine Later.alloc ?_ _ | with_reducible refine Later.drewN ?_ _ | with_reducible refine Later.drew ?_ | (with_reducible refine Later.trans ?_ (by assumption)) | (simp only [World.size_setCell, World.size_alloc, World.heap_drewN]; omega) | (simp; done) | (simp; omega))⟩

set_option maxHeartbeats 1600000 in
theorem radd_nought (x y : Value) (a b : Nat) (w : World) (h : IsBig w x true a) (g : IsBig w y false b) (hL : nlen a ≤ 90000) (hM : nlen b ≤ 90000) (hab : b ≤ a) (hd : a - b = 0) :
    Calls Tryd.prog 74 #[x, y] w fun e w' => ∃ r, e = .returned r ∧ IsBig w' r false (a - b) ∧ Later w w' := by
  obtain ⟨v, rfl, hv⟩ := h
  obtain ⟨u, rfl, hu⟩ := g
  obtain ⟨p, cp, rfl⟩ := Row.form hv
  obtain ⟨q, cq, rfl⟩ := Row.form hu
  have hcm := cmpN_ge hab
  obtain ⟨cm, hcm2⟩ : ∃ cm, cmpN a b = cm := ⟨_, rfl⟩
  rw [hcm2] at hcm
  have hcm3 := Lib.hid hcm2
  have hle := Lib.hid hab
  clear hab hcm2
  have hcm4 : decide (cm < 0) = false := by simp; omega
  clear hcm
  have hpos : ¬ 0 < nlen (a - b) := by rw [hd]; decide
  clear hd
  go_enter Tryd.func74, Tryd.ntmps74
  go_upto_region 3 with fail
  refine wp_opaque (fun w0 hb0 => ?_)
  obtain ⟨c0, f0, c1, f1, c2, f2, z0⟩ := own3 hb0
  have hv2 : Num w0 _ a := hv.later (Later.trans (by repeat (first | with_reducible exact Later.refl _ | with_reducible assumption | with_reducible refine Later.ofdrew ?_ | with_reducible refine Later.ofdrewN ?_ | with_reducible refine Later.setCell ?_ ?_ _ | with_reducible refine Later.alloc ?_ _ | with_reducible refine Later.drewN ?_ _ | with_reducible refine Later.drew ?_ | (with_reducible refine Later.trans ?_ (by assumption)) | (simp only [World.size_setCell, World.size_alloc, World.heap_drewN]; omega) | (simp; done) | (simp; omega))) hb0)
  have hu2 : Num w0 _ b := hu.later (Later.trans (by repeat (first | with_reducible exact Later.refl _ | with_reducible assumption | with_reducible refine Later.ofdrew ?_ | with_reducible refine Later.ofdrewN ?_ | with_reducible refine Later.setCell ?_ ?_ _ | with_reducible refine Later.alloc ?_ _ | with_reducible refine Later.drewN ?_ _ | with_reducible refine Later.drew ?_ | (with_reducible refine Later.trans ?_ (by assumption)) | (simp only [World.size_setCell, World.size_alloc, World.heap_drewN]; omega) | (simp; done) | (simp; omega))) hb0)
  go_wp2_with (first
    | (go_at_call 87; refine (order_any _ _ _ _ _ hv2 hu2 (by omega) (by omega)).mono ?_; rw [hcm3.out]; rintro e w1 ⟨rfl, hb1⟩; obtain ⟨hc, hf⟩ := bcell hb1; have hz := Later.size hb1; (try simp only [World.size_alloc, World.size_drew, World.heap_drewN, World.size_setCell] at hz); (repeat (first | (with_reducible refine use_of (Later.undrew hb1) ?_; intro hb1) | (with_reducible refine use_of (Later.undrewN hb1) ?_; intro hb1) | (with_reducible refine use_of (Later.unalloc hb1) ?_; intro hb1))); obtain ⟨hc, hf⟩ := bcell hb1; (try (refine use_of (fun i => (hc _ i (by omega)).trans (c0 i)) ?_; clear c0; intro c0)); (try (refine use_of (fun i => (hc _ i (by omega)).trans (c1 i)) ?_; clear c1; intro c1)); (try (refine use_of (fun i => (hc _ i (by omega)).trans (c2 i)) ?_; clear c2; intro c2)); (try (refine use_of (fun i hi => (hf _ i (by omega)).trans (f0 i hi)) ?_; clear f0; intro f0)); (try (refine use_of (fun i hi => (hf _ i (by omega)).trans (f1 i hi)) ?_; clear f1; intro f1)); (try (refine use_of (fun i hi => (hf _ i (by omega)).trans (f2 i hi)) ?_; clear f2; intro f2)); have hv3 := hv2.later hb1; have hu3 := hu2.later hb1)
    | (go_at_call 88; refine (minus_any _ _ _ _ _ _ _ (hv3.later (by repeat (first | with_reducible exact Later.refl _ | with_reducible assumption | with_reducible refine Later.ofdrew ?_ | with_reducible refine Later.ofdrewN ?_ | with_reducible refine Later.setCell ?_ ?_ _ | with_reducible refine Later.alloc ?_ _ | with_reducible refine Later.drewN ?_ _ | with_reducible refine Later.drew ?_ | (with_reducible refine Later.trans ?_ (by assumption)) | (simp only [World.size_setCell, World.size_alloc, World.heap_drewN]; omega) | (simp; done) | (simp; omega)))) (hu3.later (by repeat (first | with_reducible exact Later.refl _ | with_reducible assumption | with_reducible refine Later.ofdrew ?_ | with_reducible refine Later.ofdrewN ?_ | with_reducible refine Later.setCell ?_ ?_ _ | with_reducible refine Later.alloc ?_ _ | with_reducible refine Later.drewN ?_ _ | with_reducible refine Later.drew ?_ | (with_reducible refine Later.trans ?_ (by assumption)) | (simp only [World.size_setCell, World.size_alloc, World.heap_drewN]; omega) | (simp; done) | (simp; omega)))) hL hM hle.out).mono ?_; rintro e w2 ⟨r, rfl, hr, hb2⟩; obtain ⟨pr, cr, rfl⟩ := Row.form hr; obtain ⟨hc, hf⟩ := bcell hb2; have hz := Later.size hb2; (try simp only [World.size_alloc, World.size_drew, World.heap_drewN, World.size_setCell] at hz); (repeat (first | (with_reducible refine use_of (Later.undrew hb2) ?_; intro hb2) | (with_reducible refine use_of (Later.undrewN hb2) ?_; intro hb2) | (with_reducible refine use_of (Later.unalloc hb2) ?_; intro hb2))); obtain ⟨hc, hf⟩ := bcell hb2; (try (refine use_of (fun i => (hc _ i (by omega)).trans (c0 i)) ?_; clear c0; intro c0)); (try (refine use_of (fun i => (hc _ i (by omega)).trans (c1 i)) ?_; clear c1; intro c1)); (try (refine use_of (fun i => (hc _ i (by omega)).trans (c2 i)) ?_; clear c2; intro c2)); (try (refine use_of (fun i hi => (hf _ i (by omega)).trans (f0 i hi)) ?_; clear f0; intro f0)); (try (refine use_of (fun i hi => (hf _ i (by omega)).trans (f1 i hi)) ?_; clear f1; intro f1)); (try (refine use_of (fun i hi => (hf _ i (by omega)).trans (f2 i hi)) ?_; clear f2; intro f2))))
  all_goals
    obtain ⟨e0, e1, hI⟩ := big_end (s := false) c2 hr
    exact bodyPost_ret (v := .agg #[.bool false, .slice pr (nlen (a - b)) cr]) (by simp [results, Tryd.results74, go_sem, e0, e1]) rfl ⟨_, rfl, hI, by repeat (first | with_reducible exact Later.refl _ | with_reducible assumption | with_reducible refine Later.ofdrew ?_ | with_reducible refine Later.ofdrewN ?_ | with_reducible refine Later.setCell ?_ ?_ _ | with_reducible refine Later.alloc ?_ _ | with_reducible refine Later.drewN ?_ _ | with_reducible refine Later.drew ?_ | (with_reducible refine Later.trans ?_ (by assumption)) | (simp only [World.size_setCell, World.size_alloc, World.heap_drewN]; omega) | (simp; done) | (simp; omega))⟩


theorem radd_any (x y : Value) (i j : Int) (w : World) (h : IsZ w x i) (g : IsZ w y j) (hL : nlen i.natAbs ≤ 90000) (hM : nlen j.natAbs ≤ 90000) :
    Calls Tryd.prog 74 #[x, y] w fun e w' => ∃ r, e = .returned r ∧ IsZ w' r (i + j) ∧ Later w w' := by
  have fin : ∀ {s : Bool} {n : Nat}, s = decide (i + j < 0) → n = (i + j).natAbs →
      Calls Tryd.prog 74 #[x, y] w (fun e w' => ∃ r, e = .returned r ∧ IsBig w' r s n ∧ Later w w') →
      Calls Tryd.prog 74 #[x, y] w (fun e w' => ∃ r, e = .returned r ∧ IsZ w' r (i + j) ∧ Later w w') := by
    rintro s n rfl rfl h; exact h
  unfold IsZ at h g
  by_cases hi : i < 0 <;> by_cases hj : j < 0
  · rw [show decide (i < 0) = true by simp [hi]] at h
    rw [show decide (j < 0) = true by simp [hj]] at g
    exact fin (by simp; omega) (by omega) (radd_same x y true _ _ w h g hL hM)
  · rw [show decide (i < 0) = true by simp [hi]] at h
    rw [show decide (j < 0) = false by simp [hj]] at g
    rcases Nat.lt_trichotomy i.natAbs j.natAbs with hc | hc | hc
    · exact fin (by simp; omega) (by omega) (radd_less x y true _ _ w h g hL hM hc)
    · exact fin (by simp; omega) (by omega) (radd_nought x y _ _ w h g hL hM (by omega) (by omega))
    · exact fin (by simp; omega) (by omega) (radd_neg x y _ _ w h g hL hM (by omega) (by omega))
  · rw [show decide (i < 0) = false by simp [hi]] at h
    rw [show decide (j < 0) = true by simp [hj]] at g
    rcases Nat.lt_or_ge i.natAbs j.natAbs with hc | hc
    · exact fin (by simp; omega) (by omega) (radd_less x y false _ _ w h g hL hM hc)
    · exact fin (by simp; omega) (by omega) (radd_pos x y _ _ w h g hL hM hc)
  · rw [show decide (i < 0) = false by simp [hi]] at h
    rw [show decide (j < 0) = false by simp [hj]] at g
    exact fin (by simp; omega) (by omega) (radd_same x y false _ _ w h g hL hM)
end Go.Proofs.YtckeaibamgkegaaDoor
