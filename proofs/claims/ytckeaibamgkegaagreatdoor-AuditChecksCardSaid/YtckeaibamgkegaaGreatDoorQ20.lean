/- walks: chattelref01: Near -/
import Derived.Test.YtckeaibamgkegaaGreatDoorQ19
import Derived.Test.YtckeaibamgkegaaGreatDoorQ3
import Derived.Deep.DeepCutAuto
set_option linter.all false
set_option linter.all false
section
/- walks: chattelref01: Add of two signs -/
namespace Go.Proofs.YtckeaibamgkegaaGreatDoor
open Go.RowKit
set_option maxRecDepth 100000

theorem cmpN_lt {a b : Nat} (h : a < b) : cmpN a b = -1 := by simp [cmpN, h]
theorem cmpN_ge {a b : Nat} (h : b ≤ a) : 0 ≤ cmpN a b := by unfold cmpN; rw [if_neg (by omega)]; split <;> omega

set_option maxHeartbeats 1600000 in
theorem radd_less (x y : Value) (s : Bool) (a b : Nat) (w : World) (h : IsBig w x s a) (g : IsBig w y (!s) b) (hL : nlen a ≤ 90000) (hM : nlen b ≤ 90000) (hab : a < b) :
    Calls Tryz.prog 55 #[x, y] w fun e w' => ∃ r, e = .returned r ∧ IsBig w' r (!s) (b - a) ∧ Later w w' := by
  obtain ⟨v, rfl, hv⟩ := h
  obtain ⟨u, rfl, hu⟩ := g
  obtain ⟨p, cp, rfl⟩ := Row.form hv
  obtain ⟨q, cq, rfl⟩ := Row.form hu
  have hcm := Lib.hid (cmpN_lt hab)
  have hle := Lib.hid (Nat.le_of_lt hab)
  clear hab
  have ht : (s == !s) = false := by cases s <;> rfl
  go_enter Tryz.func55, Tryz.ntmps55
  go_upto_region 3 with fail
  refine wp_opaque (fun w0 hb0 => ?_)
  obtain ⟨c0, f0, c1, f1, c2, f2, z0⟩ := own3 hb0
  have hv2 : Num w0 _ a := hv.later (Later.trans (by repeat (first | with_reducible exact Later.refl _ | with_reducible assumption | with_reducible refine Later.ofdrew ?_ | with_reducible refine Later.ofdrewN ?_ | with_reducible refine Later.setCell ?_ ?_ _ | with_reducible refine Later.alloc ?_ _ | with_reducible refine Later.drewN ?_ _ | with_reducible refine Later.drew ?_ | (with_reducible refine Later.trans ?_ (by assumption)) | (simp only [World.size_setCell, World.size_alloc, World.heap_drewN]; omega) | (simp; done) | (simp; omega))) hb0)
  have hu2 : Num w0 _ b := hu.later (Later.trans (by repeat (first | with_reducible exact Later.refl _ | with_reducible assumption | with_reducible refine Later.ofdrew ?_ | with_reducible refine Later.ofdrewN ?_ | with_reducible refine Later.setCell ?_ ?_ _ | with_reducible refine Later.alloc ?_ _ | with_reducible refine Later.drewN ?_ _ | with_reducible refine Later.drew ?_ | (with_reducible refine Later.trans ?_ (by assumption)) | (simp only [World.size_setCell, World.size_alloc, World.heap_drewN]; omega) | (simp; done) | (simp; omega))) hb0)
  go_upto_region 4 with (go_at_call 74; refine (order_any _ _ _ _ _ hv2 hu2 (by omega) (by omega)).mono ?_; rw [hcm.out]; rintro e w1 ⟨rfl, hb1⟩; obtain ⟨hc, hf⟩ := bcell hb1; have hz := Later.size hb1; (try simp only [World.size_alloc, World.size_drew, World.heap_drewN, World.size_setCell] at hz); (repeat (first | (with_reducible refine use_of (Later.undrew hb1) ?_; intro hb1) | (with_reducible refine use_of (Later.undrewN hb1) ?_; intro hb1) | (with_reducible refine use_of (Later.unalloc hb1) ?_; intro hb1))); obtain ⟨hc, hf⟩ := bcell hb1; (try (refine use_of (fun i => (hc _ i (by omega)).trans (c0 i)) ?_; clear c0; intro c0)); (try (refine use_of (fun i => (hc _ i (by omega)).trans (c1 i)) ?_; clear c1; intro c1)); (try (refine use_of (fun i => (hc _ i (by omega)).trans (c2 i)) ?_; clear c2; intro c2)); (try (refine use_of (fun i hi => (hf _ i (by omega)).trans (f0 i hi)) ?_; clear f0; intro f0)); (try (refine use_of (fun i hi => (hf _ i (by omega)).trans (f1 i hi)) ?_; clear f1; intro f1)); (try (refine use_of (fun i hi => (hf _ i (by omega)).trans (f2 i hi)) ?_; clear f2; intro f2)))
  have hv3 := hv2.later hb1
  have hu3 := hu2.later hb1
  refine wp_region_plan 8 (.one [0, 1, 2, 3, 4, 5] 6 (.one [7] 8 (.done []))) (by kernel_rfl) (by kernel_rfl) (fun _ _ d _ _ h => by cases d <;> exact h) ?_
  repeat' (first
    | (refine plan_done (fun K hK => ?_); (first | (simp only [pick_cons, pick_nil, toList_some_append, List.getElem?_toArray, List.getElem?_cons_zero, List.getElem?_cons_succ]; repeat (go_big_quiet_step (fail))) | simp only [pick_nil]); refine wpQuiet_nil (hK _ ?_); clear hK K)
    | (refine plan_one (by rfl) (fun K hK => ?_); (first | (simp only [pick_cons, pick_nil, toList_some_append, List.getElem?_toArray, List.getElem?_cons_zero, List.getElem?_cons_succ]; repeat (go_big_quiet_step (fail))) | simp only [pick_nil]); refine wpQuiet_nil (hK _ ?_); clear hK K)
    | ((with_reducible refine at_list ?_); go_wp2_with (go_at_call 75; refine (minus_any _ _ _ _ _ _ _ (hu3.later (by repeat (first | with_reducible exact Later.refl _ | with_reducible assumption | with_reducible refine Later.ofdrew ?_ | with_reducible refine Later.ofdrewN ?_ | with_reducible refine Later.setCell ?_ ?_ _ | with_reducible refine Later.alloc ?_ _ | with_reducible refine Later.drewN ?_ _ | with_reducible refine Later.drew ?_ | (with_reducible refine Later.trans ?_ (by assumption)) | (simp only [World.size_setCell, World.size_alloc, World.heap_drewN]; omega) | (simp; done) | (simp; omega)))) (hv3.later (by repeat (first | with_reducible exact Later.refl _ | with_reducible assumption | with_reducible refine Later.ofdrew ?_ | with_reducible refine Later.ofdrewN ?_ | with_reducible refine Later.setCell ?_ ?_ _ | with_reducible refine Later.alloc ?_ _ | with_reducible refine Later.drewN ?_ _ | with_reducible refine Later.drew ?_ | (with_reducible refine Later.trans ?_ (by assumption)) | (simp only [World.size_setCell, World.size_alloc, World.heap_drewN]; omega) | (simp; done) | (simp; omega)))) hM hL hle.out).mono ?_; rintro e w2 ⟨r, rfl, hr, hb2⟩; obtain ⟨pr, cr, rfl⟩ := Row.form hr; obtain ⟨hc, hf⟩ := bcell hb2; have hz := Later.size hb2; (try simp only [World.size_alloc, World.size_drew, World.heap_drewN, World.size_setCell] at hz); (repeat (first | (with_reducible refine use_of (Later.undrew hb2) ?_; intro hb2) | (with_reducible refine use_of (Later.undrewN hb2) ?_; intro hb2) | (with_reducible refine use_of (Later.unalloc hb2) ?_; intro hb2))); obtain ⟨hc, hf⟩ := bcell hb2; (try (refine use_of (fun i => (hc _ i (by omega)).trans (c2 i)) ?_; clear c2; intro c2)); (try (refine use_of (fun i hi => (hf _ i (by omega)).trans (f2 i hi)) ?_; clear f2; intro f2))); first | refine behind_store (t := 8) (by decide) ?_ | refine behind (by repeat (first | with_reducible exact Later.refl _ | with_reducible assumption | with_reducible refine Later.ofdrew ?_ | with_reducible refine Later.ofdrewN ?_ | with_reducible refine Later.alloc ?_ _ | with_reducible refine Later.drewN ?_ _ | with_reducible refine Later.drew ?_ | (with_reducible refine Later.trans ?_ (by assumption)))) ?_))
  go_wp2
  obtain ⟨e0, e1, hI⟩ := big_end (s := !s) c2 hr
  exact bodyPost_ret (v := .agg #[.bool !s, .slice pr (nlen (b - a)) cr]) (by simp [results, Tryz.results55, go_sem, e0, e1]) rfl ⟨_, rfl, hI, by repeat (first | with_reducible exact Later.refl _ | with_reducible assumption | with_reducible refine Later.ofdrew ?_ | with_reducible refine Later.ofdrewN ?_ | with_reducible refine Later.setCell ?_ ?_ _ | with_reducible refine Later.alloc ?_ _ | with_reducible refine Later.drewN ?_ _ | with_reducible refine Later.drew ?_ | (with_reducible refine Later.trans ?_ (by assumption)) | (simp only [World.size_setCell, World.size_alloc, World.heap_drewN]; omega) | (simp; done) | (simp; omega))⟩

set_option maxHeartbeats 1600000 in
theorem radd_pos (x y : Value) (a b : Nat) (w : World) (h : IsBig w x false a) (g : IsBig w y true b) (hL : nlen a ≤ 90000) (hM : nlen b ≤ 90000) (hab : b ≤ a) :
    Calls Tryz.prog 55 #[x, y] w fun e w' => ∃ r, e = .returned r ∧ IsBig w' r false (a - b) ∧ Later w w' := by
  obtain ⟨v, rfl, hv⟩ := h
  obtain ⟨u, rfl, hu⟩ := g
  obtain ⟨p, cp, rfl⟩ := Row.form hv
  obtain ⟨q, cq, rfl⟩ := Row.form hu
  have hcm := cmpN_ge hab
  obtain ⟨cm, hcm2⟩ : ∃ cm, cmpN a b = cm := ⟨_, rfl⟩
  rw [hcm2] at hcm
  have hcm3 := Lib.hid hcm2
  have hle := Lib.hid hab
  clear hab hcm2
  have hcm4 : decide (cm < 0) = false := by simp; omega
  clear hcm
  go_enter Tryz.func55, Tryz.ntmps55
  go_upto_region 3 with fail
  refine wp_opaque (fun w0 hb0 => ?_)
  obtain ⟨c0, f0, c1, f1, c2, f2, z0⟩ := own3 hb0
  have hv2 : Num w0 _ a := hv.later (Later.trans (by repeat (first | with_reducible exact Later.refl _ | with_reducible assumption | with_reducible refine Later.ofdrew ?_ | with_reducible refine Later.ofdrewN ?_ | with_reducible refine Later.setCell ?_ ?_ _ | with_reducible refine Later.alloc ?_ _ | with_reducible refine Later.drewN ?_ _ | with_reducible refine Later.drew ?_ | (with_reducible refine Later.trans ?_ (by assumption)) | (simp only [World.size_setCell, World.size_alloc, World.heap_drewN]; omega) | (simp; done) | (simp; omega))) hb0)
  have hu2 : Num w0 _ b := hu.later (Later.trans (by repeat (first | with_reducible exact Later.refl _ | with_reducible assumption | with_reducible refine Later.ofdrew ?_ | with_reducible refine Later.ofdrewN ?_ | with_reducible refine Later.setCell ?_ ?_ _ | with_reducible refine Later.alloc ?_ _ | with_reducible refine Later.drewN ?_ _ | with_reducible refine Later.drew ?_ | (with_reducible refine Later.trans ?_ (by assumption)) | (simp only [World.size_setCell, World.size_alloc, World.heap_drewN]; omega) | (simp; done) | (simp; omega))) hb0)
  go_wp2_with (first
    | (go_at_call 74; refine (order_any _ _ _ _ _ hv2 hu2 (by omega) (by omega)).mono ?_; rw [hcm3.out]; rintro e w1 ⟨rfl, hb1⟩; obtain ⟨hc, hf⟩ := bcell hb1; have hz := Later.size hb1; (try simp only [World.size_alloc, World.size_drew, World.heap_drewN, World.size_setCell] at hz); (repeat (first | (with_reducible refine use_of (Later.undrew hb1) ?_; intro hb1) | (with_reducible refine use_of (Later.undrewN hb1) ?_; intro hb1) | (with_reducible refine use_of (Later.unalloc hb1) ?_; intro hb1))); obtain ⟨hc, hf⟩ := bcell hb1; (try (refine use_of (fun i => (hc _ i (by omega)).trans (c0 i)) ?_; clear c0; intro c0)); (try (refine use_of (fun i => (hc _ i (by omega)).trans (c1 i)) ?_; clear c1; intro c1)); (try (refine use_of (fun i => (hc _ i (by omega)).trans (c2 i)) ?_; clear c2; intro c2)); (try (refine use_of (fun i hi => (hf _ i (by omega)).trans (f0 i hi)) ?_; clear f0; intro f0)); (try (refine use_of (fun i hi => (hf _ i (by omega)).trans (f1 i hi)) ?_; clear f1; intro f1)); (try (refine use_of (fun i hi => (hf _ i (by omega)).trans (f2 i hi)) ?_; clear f2; intro f2)); have hv3 := hv2.later hb1; have hu3 := hu2.later hb1)
    | (go_at_call 75; refine (minus_any _ _ _ _ _ _ _ (hv3.later (by repeat (first | with_reducible exact Later.refl _ | with_reducible assumption | with_reducible refine Later.ofdrew ?_ | with_reducible refine Later.ofdrewN ?_ | with_reducible refine Later.setCell ?_ ?_ _ | with_reducible refine Later.alloc ?_ _ | with_reducible refine Later.drewN ?_ _ | with_reducible refine Later.drew ?_ | (with_reducible refine Later.trans ?_ (by assumption)) | (simp only [World.size_setCell, World.size_alloc, World.heap_drewN]; omega) | (simp; done) | (simp; omega)))) (hu3.later (by repeat (first | with_reducible exact Later.refl _ | with_reducible assumption | with_reducible refine Later.ofdrew ?_ | with_reducible refine Later.ofdrewN ?_ | with_reducible refine Later.setCell ?_ ?_ _ | with_reducible refine Later.alloc ?_ _ | with_reducible refine Later.drewN ?_ _ | with_reducible refine Later.drew ?_ | (with_reducible refine Later.trans ?_ (by assumption)) | (simp only [World.size_setCell, World.size_alloc, World.heap_drewN]; omega) | (simp; done) | (simp; omega)))) hL hM hle.out).mono ?_; rintro e w2 ⟨r, rfl, hr, hb2⟩; obtain ⟨pr, cr, rfl⟩ := Row.form hr; obtain ⟨hc, hf⟩ := bcell hb2; have hz := Later.size hb2; (try simp only [World.size_alloc, World.size_drew, World.heap_drewN, World.size_setCell] at hz); (repeat (first | (with_reducible refine use_of (Later.undrew hb2) ?_; intro hb2) | (with_reducible refine use_of (Later.undrewN hb2) ?_; intro hb2) | (with_reducible refine use_of (Later.unalloc hb2) ?_; intro hb2))); obtain ⟨hc, hf⟩ := bcell hb2; (try (refine use_of (fun i => (hc _ i (by omega)).trans (c0 i)) ?_; clear c0; intro c0)); (try (refine use_of (fun i => (hc _ i (by omega)).trans (c1 i)) ?_; clear c1; intro c1)); (try (refine use_of (fun i => (hc _ i (by omega)).trans (c2 i)) ?_; clear c2; intro c2)); (try (refine use_of (fun i hi => (hf _ i (by omega)).trans (f0 i hi)) ?_; clear f0; intro f0)); (try (refine use_of (fun i hi => (hf _ i (by omega)).trans (f1 i hi)) ?_; clear f1; intro f1)); (try (refine use_of (fun i hi => (hf _ i (by omega)).trans (f2 i hi)) ?_; clear f2; intro f2))))
  all_goals
    obtain ⟨e0, e1, hI⟩ := big_end (s := false) c2 hr
    exact bodyPost_ret (v := .agg #[.bool false, .slice pr (nlen (a - b)) cr]) (by simp [results, Tryz.results55, go_sem, e0, e1]) rfl ⟨_, rfl, hI, by repeat (first | with_reducible exact Later.refl _ | with_reducible assumption | with_reducible refine Later.ofdrew ?_ | with_reducible refine Later.ofdrewN ?_ | with_reducible refine Later.setCell ?_ ?_ _ | with_reducible refine Later.alloc ?_ _ | with_reducible refine Later.drewN ?_ _ | with_reducible refine Later.drew ?_ | (with_reducible refine Later.trans ?_ (by assumption)) | (simp only [World.size_setCell, World.size_alloc, World.heap_drewN]; omega) | (simp; done) | (simp; omega))⟩

set_option maxHeartbeats 1600000 in
theorem radd_neg (x y : Value) (a b : Nat) (w : World) (h : IsBig w x true a) (g : IsBig w y false b) (hL : nlen a ≤ 90000) (hM : nlen b ≤ 90000) (hab : b ≤ a) (hd : 0 < a - b) :
    Calls Tryz.prog 55 #[x, y] w fun e w' => ∃ r, e = .returned r ∧ IsBig w' r true (a - b) ∧ Later w w' := by
  obtain ⟨v, rfl, hv⟩ := h
  obtain ⟨u, rfl, hu⟩ := g
  obtain ⟨p, cp, rfl⟩ := Row.form hv
  obtain ⟨q, cq, rfl⟩ := Row.form hu
  have hcm := cmpN_ge hab
  obtain ⟨cm, hcm2⟩ : ∃ cm, cmpN a b = cm := ⟨_, rfl⟩
  rw [hcm2] at hcm
  have hcm3 := Lib.hid hcm2
  have hle := Lib.hid hab
  clear hab hcm2
  have hcm4 : decide (cm < 0) = false := by simp; omega
  clear hcm
  have hpos := nlen_pos.2 hd
  go_enter Tryz.func55, Tryz.ntmps55
  go_upto_region 3 with fail
  refine wp_opaque (fun w0 hb0 => ?_)
  obtain ⟨c0, f0, c1, f1, c2, f2, z0⟩ := own3 hb0
  have hv2 : Num w0 _ a := hv.later (Later.trans (by repeat (first | with_reducible exact Later.refl _ | with_reducible assumption | with_reducible refine Later.ofdrew ?_ | with_reducible refine Later.ofdrewN ?_ | with_reducible refine Later.setCell ?_ ?_ _ | with_reducible refine Later.alloc ?_ _ | with_reducible refine Later.drewN ?_ _ | with_reducible refine Later.drew ?_ | (with_reducible refine Later.trans ?_ (by assumption)) | (simp only [World.size_setCell, World.size_alloc, World.heap_drewN]; omega) | (simp; done) | (simp; omega))) hb0)
  have hu2 : Num w0 _ b := hu.later (Later.trans (by repeat (first | with_reducible exact Later.refl _ | with_reducible assumption | with_reducible refine Later.ofdrew ?_ | with_reducible refine Later.ofdrewN ?_ | with_reducible refine Later.setCell ?_ ?_ _ | with_reducible refine Later.alloc ?_ _ | with_reducible refine Later.drewN ?_ _ | with_reducible refine Later.drew ?_ | (with_reducible refine Later.trans ?_ (by assumption)) | (simp only [World.size_setCell, World.size_alloc, World.heap_drewN]; omega) | (simp; done) | (simp; omega))) hb0)
  go_wp2_with (first
    | (go_at_call 74; refine (order_any _ _ _ _ _ hv2 hu2 (by omega) (by omega)).mono ?_; rw [hcm3.out]; rintro e w1 ⟨rfl, hb1⟩; obtain ⟨hc, hf⟩ := bcell hb1; have hz := Later.size hb1; (try simp only [World.size_alloc, World.size_drew, World.heap_drewN, World.size_setCell] at hz); (repeat (first | (with_reducible refine use_of (Later.undrew hb1) ?_; intro hb1) | (with_reducible refine use_of (Later.undrewN hb1) ?_; intro hb1) | (with_reducible refine use_of (Later.unalloc hb1) ?_; intro hb1))); obtain ⟨hc, hf⟩ := bcell hb1; (try (refine use_of (fun i => (hc _ i (by omega)).trans (c0 i)) ?_; clear c0; intro c0)); (try (refine use_of (fun i => (hc _ i (by omega)).trans (c1 i)) ?_; clear c1; intro c1)); (try (refine use_of (fun i => (hc _ i (by omega)).trans (c2 i)) ?_; clear c2; intro c2)); (try (refine use_of (fun i hi => (hf _ i (by omega)).trans (f0 i hi)) ?_; clear f0; intro f0)); (try (refine use_of (fun i hi => (hf _ i (by omega)).trans (f1 i hi)) ?_; clear f1; intro f1)); (try (refine use_of (fun i hi => (hf _ i (by omega)).trans (f2 i hi)) ?_; clear f2; intro f2)); have hv3 := hv2.later hb1; have hu3 := hu2.later hb1)
    | (go_at_call 75; refine (minus_any _ _ _ _ _ _ _ (hv3.later (by repeat (first | with_reducible exact Later.refl _ | with_reducible assumption | with_reducible refine Later.ofdrew ?_ | with_reducible refine Later.ofdrewN ?_ | with_reducible refine Later.setCell ?_ ?_ _ | with_reducible refine Later.alloc ?_ _ | with_reducible refine Later.drewN ?_ _ | with_reducible refine Later.drew ?_ | (with_reducible refine Later.trans ?_ (by assumption)) | (simp only [World.size_setCell, World.size_alloc, World.heap_drewN]; omega) | (simp; done) | (simp; omega)))) (hu3.later (by repeat (first | with_reducible exact Later.refl _ | with_reducible assumption | with_reducible refine Later.ofdrew ?_ | with_reducible refine Later.ofdrewN ?_ | with_reducible refine Later.setCell ?_ ?_ _ | with_reducible refine Later.alloc ?_ _ | with_reducible refine Later.drewN ?_ _ | with_reducible refine Later.drew ?_ | (with_reducible refine Later.trans ?_ (by assumption)) | (simp only [World.size_setCell, World.size_alloc, World.heap_drewN]; omega) | (simp; done) | (simp; omega)))) hL hM hle.out).mono ?_; rintro e w2 ⟨r, rfl, hr, hb2⟩; obtain ⟨pr, cr, rfl⟩ := Row.form hr; obtain ⟨hc, hf⟩ := bcell hb2; have hz := Later.size hb2; (try simp only [World.size_alloc, World.size_drew, World.heap_drewN, World.size_setCell] at hz); (repeat (first | (with_reducible refine use_of (Later.undrew hb2) ?_; intro hb2) | (with_reducible refine use_of (Later.undrewN hb2) ?_; intro hb2) | (with_reducible refine use_of (Later.unalloc hb2) ?_; intro hb2))); obtain ⟨hc, hf⟩ := bcell hb2; (try (refine use_of (fun i => (hc _ i (by omega)).trans (c0 i)) ?_; clear c0; intro c0)); (try (refine use_of (fun i => (hc _ i (by omega)).trans (c1 i)) ?_; clear c1; intro c1)); (try (refine use_of (fun i => (hc _ i (by omega)).trans (c2 i)) ?_; clear c2; intro c2)); (try (refine use_of (fun i hi => (hf _ i (by omega)).trans (f0 i hi)) ?_; clear f0; intro f0)); (try (refine use_of (fun i hi => (hf _ i (by omega)).trans (f1 i hi)) ?_; clear f1; intro f1)); (try (refine use_of (fun i hi => (hf _ i (by omega)).trans (f2 i hi)) ?_; clear f2; intro f2))))
  all_goals
    obtain ⟨e0, e1, hI⟩ := big_end (s := true) c2 hr
    exact bodyPost_ret (v := .agg #[.bool true, .slice pr (nlen (a - b)) cr]) (by simp [results, Tryz.results55, go_sem, e0, e1]) rfl ⟨_, rfl, hI, by repeat (first | with_reducible exact Later.refl _ | with_reducible assumption | with_reducible refine Later.ofdrew ?_ | with_reducible refine Later.ofdrewN ?_ | with_reducible refine Later.setCell ?_ ?_ _ | with_reducible refine Later.alloc ?_ _ | with_reducible refine Later.drewN ?_ _ | with_reducible refine Later.drew ?_ | (with_reducible refine Later.trans ?_ (by assumption)) | (simp only [World.size_setCell, World.size_alloc, World.heap_drewN]; omega) | (simp; done) | (simp; omega))⟩

set_option maxHeartbeats 1600000 in
theorem radd_nought (x y : Value) (a b : Nat) (w : World) (h : IsBig w x true a) (g : IsBig w y false b) (hL : nlen a ≤ 90000) (hM : nlen b ≤ 90000) (hab : b ≤ a) (hd : a - b = 0) :
    Calls Tryz.prog 55 #[x, y] w fun e w' => ∃ r, e = .returned r ∧ IsBig w' r false (a - b) ∧ Later w w' := by
  obtain ⟨v, rfl, hv⟩ := h
  obtain ⟨u, rfl, hu⟩ := g
  obtain ⟨p, cp, rfl⟩ := Row.form hv
  obtain ⟨q, cq, rfl⟩ := Row.form hu
  have hcm := cmpN_ge hab
  obtain ⟨cm, hcm2⟩ : ∃ cm, cmpN a b = cm := ⟨_, rfl⟩
  rw [hcm2] at hcm
  have hcm3 := Lib.hid hcm2
  have hle := Lib.hid hab
  clear hab hcm2
  have hcm4 : decide (cm < 0) = false := by simp; omega
  clear hcm
  have hpos : ¬ 0 < nlen (a - b) := by rw [hd]; decide
  clear hd
  go_enter Tryz.func55, Tryz.ntmps55
  go_upto_region 3 with fail
  refine wp_opaque (fun w0 hb0 => ?_)
  obtain ⟨c0, f0, c1, f1, c2, f2, z0⟩ := own3 hb0
  have hv2 : Num w0 _ a := hv.later (Later.trans (by repeat (first | with_reducible exact Later.refl _ | with_reducible assumption | with_reducible refine Later.ofdrew ?_ | with_reducible refine Later.ofdrewN ?_ | with_reducible refine Later.setCell ?_ ?_ _ | with_reducible refine Later.alloc ?_ _ | with_reducible refine Later.drewN ?_ _ | with_reducible refine Later.drew ?_ | (with_reducible refine Later.trans ?_ (by assumption)) | (simp only [World.size_setCell, World.size_alloc, World.heap_drewN]; omega) | (simp; done) | (simp; omega))) hb0)
  have hu2 : Num w0 _ b := hu.later (Later.trans (by repeat (first | with_reducible exact Later.refl _ | with_reducible assumption | with_reducible refine Later.ofdrew ?_ | with_reducible refine Later.ofdrewN ?_ | with_reducible refine Later.setCell ?_ ?_ _ | with_reducible refine Later.alloc ?_ _ | with_reducible refine Later.drewN ?_ _ | with_reducible refine Later.drew ?_ | (with_reducible refine Later.trans ?_ (by assumption)) | (simp only [World.size_setCell, World.size_alloc, World.heap_drewN]; omega) | (simp; done) | (simp; omega))) hb0)
  go_wp2_with (first
    | (go_at_call 74; refine (order_any _ _ _ _ _ hv2 hu2 (by omega) (by omega)).mono ?_; rw [hcm3.out]; rintro e w1 ⟨rfl, hb1⟩; obtain ⟨hc, hf⟩ := bcell hb1; have hz := Later.size hb1; (try simp only [World.size_alloc, World.size_drew, World.heap_drewN, World.size_setCell] at hz); (repeat (first | (with_reducible refine use_of (Later.undrew hb1) ?_; intro hb1) | (with_reducible refine use_of (Later.undrewN hb1) ?_; intro hb1) | (with_reducible refine use_of (Later.unalloc hb1) ?_; intro hb1))); obtain ⟨hc, hf⟩ := bcell hb1; (try (refine use_of (fun i => (hc _ i (by omega)).trans (c0 i)) ?_; clear c0; intro c0)); (try (refine use_of (fun i => (hc _ i (by omega)).trans (c1 i)) ?_; clear c1; intro c1)); (try (refine use_of (fun i => (hc _ i (by omega)).trans (c2 i)) ?_; clear c2; intro c2)); (try (refine use_of (fun i hi => (hf _ i (by omega)).trans (f0 i hi)) ?_; clear f0; intro f0)); (try (refine use_of (fun i hi => (hf _ i (by omega)).trans (f1 i hi)) ?_; clear f1; intro f1)); (try (refine use_of (fun i hi => (hf _ i (by omega)).trans (f2 i hi)) ?_; clear f2; intro f2)); have hv3 := hv2.later hb1; have hu3 := hu2.later hb1)
    | (go_at_call 75; refine (minus_any _ _ _ _ _ _ _ (hv3.later (by repeat (first | with_reducible exact Later.refl _ | with_reducible assumption | with_reducible refine Later.ofdrew ?_ | with_reducible refine Later.ofdrewN ?_ | with_reducible refine Later.setCell ?_ ?_ _ | with_reducible refine Later.alloc ?_ _ | with_reducible refine Later.drewN ?_ _ | with_reducible refine Later.drew ?_ | (with_reducible refine Later.trans ?_ (by assumption)) | (simp only [World.size_setCell, World.size_alloc, World.heap_drewN]; omega) | (simp; done) | (simp; omega)))) (hu3.later (by repeat (first | with_reducible exact Later.refl _ | with_reducible assumption | with_reducible refine Later.ofdrew ?_ | with_reducible refine Later.ofdrewN ?_ | with_reducible refine Later.setCell ?_ ?_ _ | with_reducible refine Later.alloc ?_ _ | with_reducible refine Later.drewN ?_ _ | with_reducible refine Later.drew ?_ | (with_reducible refine Later.trans ?_ (by assumption)) | (simp only [World.size_setCell, World.size_alloc, World.heap_drewN]; omega) | (simp; done) | (simp; omega)))) hL hM hle.out).mono ?_; rintro e w2 ⟨r, rfl, hr, hb2⟩; obtain ⟨pr, cr, rfl⟩ := Row.form hr; obtain ⟨hc, hf⟩ := bcell hb2; have hz := Later.size hb2; (try simp only [World.size_alloc, World.size_drew, World.heap_drewN, World.size_setCell] at hz); (repeat (first | (with_reducible refine use_of (Later.undrew hb2) ?_; intro hb2) | (with_reducible refine use_of (Later.undrewN hb2) ?_; intro hb2) | (with_reducible refine use_of (Later.unalloc hb2) ?_; intro hb2))); obtain ⟨hc, hf⟩ := bcell hb2; (try (refine use_of (fun i => (hc _ i (by omega)).trans (c0 i)) ?_; clear c0; intro c0)); (try (refine use_of (fun i => (hc _ i (by omega)).trans (c1 i)) ?_; clear c1; intro c1)); (try (refine use_of (fun i => (hc _ i (by omega)).trans (c2 i)) ?_; clear c2; intro c2)); (try (refine use_of (fun i hi => (hf _ i (by omega)).trans (f0 i hi)) ?_; clear f0; intro f0)); (try (refine use_of (fun i hi => (hf _ i (by omega)).trans (f1 i hi)) ?_; clear f1; intro f1)); (try (refine use_of (fun i hi => (hf _ i (by omega)).trans (f2 i hi)) ?_; clear f2; intro f2))))
  all_goals
    obtain ⟨e0, e1, hI⟩ := big_end (s := false) c2 hr
    exact bodyPost_ret (v := .agg #[.bool false, .slice pr (nlen (a - b)) cr]) (by simp [results, Tryz.results55, go_sem, e0, e1]) rfl ⟨_, rfl, hI, by repeat (first | with_reducible exact Later.refl _ | with_reducible assumption | with_reducible refine Later.ofdrew ?_ | with_reducible refine Later.ofdrewN ?_ | with_reducible refine Later.setCell ?_ ?_ _ | with_reducible refine Later.alloc ?_ _ | with_reducible refine Later.drewN ?_ _ | with_reducible refine Later.drew ?_ | (with_reducible refine Later.trans ?_ (by assumption)) | (simp only [World.size_setCell, World.size_alloc, World.heap_drewN]; omega) | (simp; done) | (simp; omega))⟩


theorem radd_any (x y : Value) (i j : Int) (w : World) (h : IsZ w x i) (g : IsZ w y j) (hL : nlen i.natAbs ≤ 90000) (hM : nlen j.natAbs ≤ 90000) :
    Calls Tryz.prog 55 #[x, y] w fun e w' => ∃ r, e = .returned r ∧ IsZ w' r (i + j) ∧ Later w w' := by
  have fin : ∀ {s : Bool} {n : Nat}, s = decide (i + j < 0) → n = (i + j).natAbs →
      Calls Tryz.prog 55 #[x, y] w (fun e w' => ∃ r, e = .returned r ∧ IsBig w' r s n ∧ Later w w') →
      Calls Tryz.prog 55 #[x, y] w (fun e w' => ∃ r, e = .returned r ∧ IsZ w' r (i + j) ∧ Later w w') := by
    rintro s n rfl rfl h; exact h
  unfold IsZ at h g
  by_cases hi : i < 0 <;> by_cases hj : j < 0
  · rw [show decide (i < 0) = true by simp [hi]] at h
    rw [show decide (j < 0) = true by simp [hj]] at g
    exact fin (by simp; omega) (by omega) (radd_same x y true _ _ w h g hL hM)
  · rw [show decide (i < 0) = true by simp [hi]] at h
    rw [show decide (j < 0) = false by simp [hj]] at g
    rcases Nat.lt_trichotomy i.natAbs j.natAbs with hc | hc | hc
    · exact fin (by simp; omega) (by omega) (radd_less x y true _ _ w h g hL hM hc)
    · exact fin (by simp; omega) (by omega) (radd_nought x y _ _ w h g hL hM (by omega) (by omega))
    · exact fin (by simp; omega) (by omega) (radd_neg x y _ _ w h g hL hM (by omega) (by omega))
  · rw [show decide (i < 0) = false by simp [hi]] at h
    rw [show decide (j < 0) = true by simp [hj]] at g
    rcases Nat.lt_or_ge i.natAbs j.natAbs with hc | hc
    · exact fin (by simp; omega) (by omega) (radd_less x y false _ _ w h g hL hM hc)
    · exact fin (by simp; omega) (by omega) (radd_pos x y _ _ w h g hL hM hc)
  · rw [show decide (i < 0) = false by simp [hi]] at h
    rw [show decide (j < 0) = false by simp [hj]] at g
    exact fin (by simp; omega) (by omega) (radd_same x y false _ _ w h g hL hM)
end Go.Proofs.YtckeaibamgkegaaGreatDoor
end
section
/- walks: chattelref01: Mul -/
namespace Go.Proofs.YtckeaibamgkegaaGreatDoor
open Go.RowKit
set_option maxRecDepth 100000

theorem bit_shift (a k i : Nat) : bit (a * 2 ^ k) i = if i < k then 0 else bit a (i - k) := by
  unfold bit
  have hp : 0 < 2 ^ k := Nat.pow_pos (by omega)
  split
  · rename_i h
    obtain ⟨d, rfl⟩ : ∃ d, k = i + (d + 1) := ⟨k - i - 1, by omega⟩
    rw [Nat.pow_add, Nat.mul_left_comm, Nat.mul_div_cancel_left _ (Nat.pow_pos (by omega)), Nat.pow_succ, ← Nat.mul_assoc, Nat.mul_mod_left]
    rfl
  · rename_i h
    obtain ⟨d, rfl⟩ : ∃ d, i = k + d := ⟨i - k, by omega⟩
    rw [Nat.pow_add, ← Nat.div_div_eq_div_mul, Nat.mul_div_cancel _ hp]
    simp
theorem bitsV_shift (a k L : Nat) : bitsV (a * 2 ^ k) (k + L) = List.replicate k (.int .i64 0) ++ bitsV a L := by
  apply List.ext_getElem?
  intro i
  by_cases h : i < k + L
  · rw [bitsV_get h, bit_shift]
    by_cases h2 : i < k
    · rw [if_pos h2, List.getElem?_append_left (by simpa using h2)]; simp [h2]
    · rw [if_neg h2, List.getElem?_append_right (by simp; omega), List.length_replicate, bitsV_get (by omega)]
  · rw [List.getElem?_eq_none (by rw [bitsV_len]; omega), List.getElem?_eq_none (by simp [bitsV_len]; omega)]
theorem mul_bit (a b k : Nat) : a * (b % 2 ^ (k + 1)) = a * (b % 2 ^ k) + a * 2 ^ k * (b / 2 ^ k % 2) := by
  rw [mod_step, Nat.mul_add, Nat.mul_assoc]


theorem made_zero (k : Nat) : (madeCells #[.int .i64 0] k).toList = List.replicate k (.int .i64 0) := by
  apply List.ext_getElem?
  intro i
  by_cases h : i < k
  · simp [madeCells, h, Nat.mod_one]
  · simp [madeCells, h]

theorem slInt : SliceOf Tryz.prog 59 3 1 8 := sliceOf_mk (z := .int .i64 0) Tryz.underlying59 intInfo rfl (by decide)
theorem zeroInt {z : Value} (h : ∃ i, Tryz.prog.info? 3 = some i ∧ i.zero = some z) : z = .int .i64 0 := by
  obtain ⟨i, h1, h2⟩ := h
  obtain ⟨i0, hi, hz0, _⟩ := info_parts intInfo
  rw [hi] at h1; cases h1; rw [hz0] at h2; cases h2; rfl
theorem cells_bits {w : World} {b L n : Nat} (hc : ∀ i, i < L → w.cell? ⟨b, i, none⟩ = some (.int .i64 (bit n i))) : CellsAt w b 0 (bitsV n L) := by
  intro j hj
  rw [bitsV_len] at hj
  rw [Nat.zero_add, hc j hj, bitsV_get hj]
theorem bits_one {n L : Nat} : ∀ u ∈ bitsV n L, u.oneCell' = true := by
  intro u hu
  simp only [bitsV, List.mem_map] at hu
  obtain ⟨i, _, rfl⟩ := hu; rfl
theorem Mine.zeros {w0 w : World} {v : Value} {k : Nat} (h : Mine w0 3 1 w v k (madeCells (Value.int .i64 0).cells (k * 1)).toList) : Mine w0 3 1 w v k (List.replicate k (.int .i64 0)) := by
  rw [Nat.mul_one] at h
  rw [← made_zero]; exact h
theorem Mine.row {w0 w : World} {v : Value} {n L : Nat} (h : Mine w0 3 1 w v L (bitsV n L)) (hn : n < 2 ^ L) : Row w v n L := Row.of_own h.1 hn
theorem Mine.shift {w0 w : World} {v : Value} {a k L : Nat} (h : Mine w0 3 1 w v (k + L) (List.replicate k (.int .i64 0) ++ bitsV a L)) (hn : a < 2 ^ L) : Row w v (a * 2 ^ k) (k + L) := by
  rw [← bitsV_shift] at h
  refine h.row ?_
  rw [Nat.pow_add, Nat.mul_comm]
  exact Nat.mul_lt_mul_of_pos_left hn (Nat.pow_pos (by omega))

end Go.Proofs.YtckeaibamgkegaaGreatDoor
end
section
/- walks: chattelref01: Order -/
namespace Go.Proofs.YtckeaibamgkegaaGreatDoor
open Go.RowKit
set_option maxRecDepth 100000

/-- -1, 0 or 1: by the order of numbers. -/
def cmpZ (x y : Int) : Int := if x < y then -1 else if x = y then 0 else 1

theorem nlen_add (a b : Nat) : nlen (a + b) ≤ max (nlen a) (nlen b) + 1 := by
  refine nlen_le ?_
  have h1 := lt_nlen a
  have h2 := lt_nlen b
  have e1 : 2 ^ nlen a ≤ 2 ^ max (nlen a) (nlen b) := Nat.pow_le_pow_right (by omega) (by omega)
  have e2 : 2 ^ nlen b ≤ 2 ^ max (nlen a) (nlen b) := Nat.pow_le_pow_right (by omega) (by omega)
  rw [Nat.pow_succ]; omega
theorem nlen_mul (a b : Nat) : nlen (a * b) ≤ nlen a + nlen b := by
  refine nlen_le ?_
  rw [Nat.pow_add]
  have h1 := lt_nlen a
  have h2 := lt_nlen b
  exact Nat.lt_of_le_of_lt (Nat.mul_le_mul_left a (Nat.le_of_lt h2)) (Nat.mul_lt_mul_of_pos_right h1 (Nat.pow_pos (by omega)))
theorem nlen_i64 {z : Int} (h1 : -9223372036854775808 ≤ z) (h2 : z ≤ 9223372036854775807) : nlen z.natAbs ≤ 64 := nlen_le (by omega)

end Go.Proofs.YtckeaibamgkegaaGreatDoor
end
section
/- walks: chattelref01: Parts -/
namespace Go.Proofs.YtckeaibamgkegaaGreatDoor
open Go.RowKit
set_option maxRecDepth 100000

theorem bitsV_nought (L : Nat) : bitsV 0 L = List.replicate L (.int .i64 0) := by
  apply List.ext_getElem?
  intro i
  by_cases h : i < L
  · rw [bitsV_get h]; simp [h, bit]
  · rw [List.getElem?_eq_none (by rw [bitsV_len]; omega), List.getElem?_eq_none (by simp; omega)]
theorem mine_own {w0 w : World} {e g n : Nat} {xs : List Value} (h : Mine w0 e 1 w (.slice (some ⟨g, 0, none⟩) n n) n xs) : Own w [(g, xs.toArray)] := by
  obtain ⟨hl, h1⟩ := h.1
  rcases h1 with ⟨h1, _⟩ | ⟨g', cap, cur, h1, h2, h3, h4, h5, h6, h7⟩
  · cases h1
  · cases h1
    have hc : cur = xs.toArray := by
      rw [List.take_of_length_le (by simp; omega)] at h7
      rw [← h7]
    subst hc
    have hlt : g < w.heap.size := (Array.getElem?_eq_some_iff.1 h3).1
    exact ⟨⟨hlt, fun i => by simp [World.cell?, h3], fun i hi => by simp [World.frozen?, h3]⟩, trivial⟩
theorem mine_lit {w : World} {x : Value} {e : Nat} : Mine w e 1 (w.alloc (.cells #[x] e)) (.slice (some ⟨w.heap.size, 0, none⟩) 1 1) 1 [x] :=
  ⟨World.ownsRow_lit w #[x] 1 (Nat.le_refl _) (by unfold maxLen; omega) (by simp), (Later.refl _).alloc _⟩

/-- What is appended is a row, nil or not. -/
theorem wpList_app_row {P : Program} {w0 w : World} {e : Nat} {v u : Value} {n m L : Nat} {xs : List Value} {ops : Array Oper} {rest : List Oper} {o : Oper} {a : Act} {Q : Exit → Act → World → Prop} {t bytes : Nat} (T : SliceOf P t e 1 bytes) (hM : Mine w0 e 1 w v n xs) (hgd : o.guard = none) (s x : Operand)
    (ho : o.op = .call { callee := .builtin .append, args := #[s, x], argTypes := #[t, t] }) (hs : a.eval s = v) (hx : a.eval x = u) (hu : Row w u m L)
    (h63 : (n + L) * bytes ≤ 140737488355328) (h64 : n + L ≤ maxLen)
    (h : ∀ v' w', Mine w0 e 1 w' v' (n + L) (xs ++ bitsV m L) → wpList P ops Q rest (a.put o.dst v') w') : wpList P ops Q (o :: rest) a w := by
  rcases hu.2 with ⟨rfl, rfl⟩ | ⟨b, cap, rfl, _, _, hc⟩
  · refine wpList_app_none T hM hgd s x ho hs hx ?_
    have := h v w (by rw [bitsV_zero, List.append_nil]; exact hM)
    exact this
  · exact wpList_app T hM hgd s x ho hs b 0 L cap (bitsV m L) hx (by rw [bitsV_len, Nat.mul_one]) (cells_bits hc) bits_one h63 h64 (fun v' w' h1 _ => h v' w' h1)

theorem bits_push {r L : Nat} {x : Int} (hx : x = 0 ∨ x = 1) : [Value.int .i64 x] ++ bitsV r L = bitsV (2 * r + x.toNat) (1 + L) := by
  apply List.ext_getElem?
  intro i
  rcases i with _ | i
  · simp only [List.cons_append, List.getElem?_cons_zero]
    rw [bitsV_get (by omega)]
    unfold bit
    congr 2
    rcases hx with rfl | rfl <;> simp <;> omega
  · simp only [List.cons_append, List.nil_append, List.getElem?_cons_succ]
    by_cases h : i < L
    · rw [bitsV_get h, bitsV_get (by omega)]
      have : (2 * r + x.toNat) / 2 ^ (i + 1) = r / 2 ^ i := by
        rw [Nat.pow_succ, Nat.mul_comm (2 ^ i) 2, ← Nat.div_div_eq_div_mul]
        congr 1
        rcases hx with rfl | rfl <;> simp <;> omega
      simp only [bit, this]
    · rw [List.getElem?_eq_none (by rw [bitsV_len]; omega), List.getElem?_eq_none (by rw [bitsV_len]; omega)]
theorem Mine.push {w0 w : World} {v : Value} {r L : Nat} {x : Int} (h : Mine w0 3 1 w v (1 + L) ([.int .i64 x] ++ bitsV r L)) (hx : x = 0 ∨ x = 1) (hr : r < 2 ^ L) : Row w v (2 * r + x.toNat) (1 + L) := by
  rw [bits_push hx] at h
  refine h.row ?_
  rw [Nat.pow_add]
  rcases hx with rfl | rfl <;> simp <;> omega
theorem div_low (a k : Nat) (b : Nat) (hb : 0 < b) : a / 2 ^ k % b = (if b ≤ 2 * (a / 2 ^ (k + 1) % b) + (bit a k).toNat then 2 * (a / 2 ^ (k + 1) % b) + (bit a k).toNat - b else 2 * (a / 2 ^ (k + 1) % b) + (bit a k).toNat) ∧
    a / 2 ^ k / b = 2 * (a / 2 ^ (k + 1) / b) + (if b ≤ 2 * (a / 2 ^ (k + 1) % b) + (bit a k).toNat then 1 else 0) := by
  have h1 := div_step a k
  have hbt : (bit a k).toNat = a / 2 ^ k % 2 := Int.toNat_natCast _
  rw [hbt]
  generalize a / 2 ^ (k + 1) = A at *
  have hx : a / 2 ^ k % 2 ≤ 1 := by omega
  generalize a / 2 ^ k % 2 = x at *
  rw [h1]
  have e := Nat.div_add_mod A b
  have l := Nat.mod_lt A hb
  generalize A / b = Q at *
  generalize A % b = R at *
  split
  · rename_i hge
    have : 2 * A + x = b * (2 * Q + 1) + (2 * R + x - b) := by rw [Nat.mul_add]; have : b * (2 * Q) = 2 * (b * Q) := Nat.mul_left_comm _ _ _; omega
    rw [this, Nat.mul_add_mod, Nat.mod_eq_of_lt (by omega), Nat.mul_add_div hb, Nat.div_eq_of_lt (by omega)]
    exact ⟨rfl, by omega⟩
  · rename_i hge
    have : 2 * A + x = b * (2 * Q) + (2 * R + x) := by have : b * (2 * Q) = 2 * (b * Q) := Nat.mul_left_comm _ _ _; omega
    rw [this, Nat.mul_add_mod, Nat.mod_eq_of_lt (by omega), Nat.mul_add_div hb, Nat.div_eq_of_lt (by omega)]
    exact ⟨rfl, by omega⟩
/-- A quotient's bit is laid. -/
theorem bits_lay {Q L k : Nat} (hk : k < L) : (bitsV (Q * 2 ^ (k + 1)) L).set k (.int .i64 1) = bitsV ((2 * Q + 1) * 2 ^ k) L := by
  apply List.ext_getElem?
  intro i
  by_cases h : i < L
  · rw [List.getElem?_set, bitsV_get h, bitsV_get h, bitsV_len]
    split
    · rename_i he; subst he; rw [bit_shift, if_neg (by omega), Nat.sub_self]; unfold bit; congr 2; rw [Nat.pow_zero, Nat.div_one]; omega
    · rename_i hne
      congr 2
      rw [bit_shift, bit_shift]
      by_cases h2 : i < k
      · rw [if_pos (by omega), if_pos h2]
      · rw [if_neg (by omega), if_neg h2]
        obtain ⟨d, rfl⟩ : ∃ d, i = k + 1 + d := ⟨i - k - 1, by omega⟩
        unfold bit
        rw [show k + 1 + d - (k + 1) = d by omega, show k + 1 + d - k = d + 1 by omega, Nat.pow_succ, Nat.mul_comm (2 ^ d) 2, ← Nat.div_div_eq_div_mul, show (2 * Q + 1) / 2 = Q by omega]
  · rw [List.getElem?_eq_none (by simp [bitsV_len]; omega), List.getElem?_eq_none (by rw [bitsV_len]; omega)]
theorem own_set_row {w : World} {b k : Nat} {xs : List Value} {x : Value} (h : Own w [(b, xs.toArray)]) (hk : k < xs.length) : Own (w.setCell ⟨b, k, none⟩ x) [(b, (xs.set k x).toArray)] :=
  Own.cons (by simpa using h.1.1) (fun i => by rw [set_own h.1.2.1 x (by simpa using hk) i]; simp) (fun i hi => set_frozen (n := xs.length) (fun i hi => h.1.2.2 i (by simpa using hi)) x i (by simpa using hi)) trivial
theorem own_row {w : World} {b n L : Nat} (h : Own w [(b, (bitsV n L).toArray)]) (hn : n < 2 ^ L) : Row w (.slice (some ⟨b, 0, none⟩) L L) n L :=
  ⟨hn, .inr ⟨b, L, rfl, h.1.1, Nat.le_refl _, fun i hi => by rw [h.1.2.1]; simp only [List.getElem?_toArray]; exact bitsV_get hi⟩⟩
theorem Own.set_far {w : World} {b k : Nat} {x : Value} : ∀ {l : List (Nat × Array Value)}, Own w l → (∀ p ∈ l, p.1 ≠ b) → Own (w.setCell ⟨b, k, none⟩ x) l
  | [], _, _ => trivial
  | (g, A) :: l, h, hb => ⟨⟨by simpa using h.1.1, fun i => Go.Proofs.YtckeaibamgkegaaGreatDoor.set_far h.1.2.1 x (fun e => hb _ (List.mem_cons_self ..) e.symm) i, fun i hi => set_frozen (n := A.size) h.1.2.2 x i hi⟩, h.2.set_far (fun p hp => hb p (List.mem_cons_of_mem _ hp))⟩
theorem Num.set_apart {w : World} {v x : Value} {n b k : Nat} (h : Num w v n) (hb : ∀ g, v.ownBlock = some g → g ≠ b) : Num (w.setCell ⟨b, k, none⟩ x) v n := by
  refine ⟨h.1, ?_⟩
  rcases h.2 with h2 | ⟨g, cap, h2, h3, h4, h5⟩
  · exact .inl h2
  · refine .inr ⟨g, cap, h2, by simpa using h3, h4, fun j hj => ?_⟩
    have : g ≠ b := hb g (by rw [h2]; rfl)
    rw [World.cell?_setCell_other _ _ _ _ (fun e => this (by cases e; rfl))]
    exact h5 j hj
theorem big_end2 {w : World} {k1 k2 n1 n2 : Nat} {v1 v2 y1 y2 : Value} {s1 s2 t1 t2 : Bool} (hO : Own w [(k1, #[.bool t1, y1]), (k2, #[.bool t2, y2])]) (hne : k1 ≠ k2) (h1 : Num w v1 n1) (h2 : Num w v2 n2) :
    ∃ W : World, ((((w.setCell ⟨k1, 0, none⟩ (.bool s1)).setCell ⟨k1, 1, none⟩ v1).setCell ⟨k2, 0, none⟩ (.bool s2)).setCell ⟨k2, 1, none⟩ v2) = W ∧
      W.cell? ⟨k1, 0, none⟩ = some (.bool s1) ∧ W.cell? ⟨k1, 1, none⟩ = some v1 ∧ W.cell? ⟨k2, 0, none⟩ = some (.bool s2) ∧ W.cell? ⟨k2, 1, none⟩ = some v2 ∧ IsBig W (.agg #[.bool s1, v1]) s1 n1 ∧ IsBig W (.agg #[.bool s2, v2]) s2 n2 := by
  obtain ⟨⟨_, c1, _⟩, ⟨_, c2, _⟩, _⟩ := hO
  have e1 := set_own (k := 1) (set_own (k := 0) c1 (.bool s1) (by simp)) v1 (by simp)
  have e2 : ∀ i, (((w.setCell ⟨k1, 0, none⟩ (.bool s1)).setCell ⟨k1, 1, none⟩ v1)).cell? ⟨k2, i, none⟩ = #[.bool t2, y2][i]? := set_far (set_far c2 _ hne) _ hne
  have e3 := set_own (k := 1) (set_own (k := 0) e2 (.bool s2) (by simp)) v2 (by simp)
  have e4 := set_far (k := 1) (set_far (k := 0) e1 (.bool s2) (Ne.symm hne)) v2 (Ne.symm hne)
  exact ⟨_, rfl, by rw [e4]; rfl, by rw [e4]; rfl, by rw [e3]; rfl, by rw [e3]; rfl, ⟨_, rfl, (h1.set2 c1).set2 e2⟩, ⟨_, rfl, (h2.set2 c1).set2 e2⟩⟩

end Go.Proofs.YtckeaibamgkegaaGreatDoor
end
section
/- walks: chattelref01: Near -/
namespace Go.Proofs.YtckeaibamgkegaaGreatDoor
open Go.RowKit
set_option maxRecDepth 100000

/-- The nearest whole number of a through b, an even one of two. -/
def nearN (a b : Nat) : Nat := if b < 2 * (a % b) ∨ (2 * (a % b) = b ∧ a / b % 2 = 1) then a / b + 1 else a / b
theorem cmpN_self (n : Nat) : cmpN n n = 0 := by simp [cmpN]
theorem cmpN_gt {n m : Nat} (h : m < n) : cmpN n m = 1 := by unfold cmpN; rw [if_neg (by omega), if_neg (by omega)]
theorem own_split {w : World} {p q : Nat × Array Value} {l : List (Nat × Array Value)} (h : Own w (p :: q :: l)) : Own w [p] ∧ Own w (q :: l) := by
  obtain ⟨b, A⟩ := p
  exact ⟨⟨h.1, trivial⟩, h.2⟩
theorem rof_one (w : World) : Calls Tryz.prog 56 #[.int .i64 1] w fun e w' => ∃ r, e = .returned r ∧ IsZ w' r 1 ∧ Later w w' := rof_any 1 w (by omega) (by omega)

theorem isZ_nat {w : World} {x : Value} {n : Nat} (h : IsBig w x false n) : IsZ w x (n : Int) := by
  unfold IsZ
  rw [show decide ((n : Int) < 0) = false by simp, Int.natAbs_natCast]; exact h
theorem isBig_nat {w : World} {x : Value} {n : Nat} (h : IsZ w x (n : Int)) : IsBig w x false n := by
  unfold IsZ at h
  rw [show decide ((n : Int) < 0) = false by simp, Int.natAbs_natCast] at h; exact h
theorem at_zero (v : Value) (n L : Nat) (w : World) (h : Row w v n L) (hL : L ≤ 100000) :
    Calls Tryz.prog 85 #[v, .int .i64 0] w fun e w' => e = .returned (.int .i64 (bit n 0)) ∧ w = w' := at_any v n L 0 w h hL (by omega)

end Go.Proofs.YtckeaibamgkegaaGreatDoor
end
