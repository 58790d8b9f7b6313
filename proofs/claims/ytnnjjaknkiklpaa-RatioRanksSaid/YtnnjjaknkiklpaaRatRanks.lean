/- the law on the ranks of ratios: its walk, and the plain law -/
import Derived.Test.YtnnjjaknkiklpaaRatAwake
namespace Go.Proofs.Ytnnjjaknkiklpaa
open Go.RowKit


set_option maxRecDepth 100000 in
set_option maxHeartbeats 4000000 in
theorem ranks_lt (an ad bn bd cn cd n m dn dd i pn pd j qn qd k : Int) (w : World)
    (H1 : Hid (∀ w, Calls Try.prog 14 #[.agg #[.int .i64 an, .int .i64 ad], .agg #[.int .i64 bn, .int .i64 bd]] w fun e' w' => e' = .returned (.tuple #[.int .i64 (-1), .int .i64 0]) ∧ Later w w'))
    (H2 : Hid (∀ w, Calls Try.prog 14 #[.agg #[.int .i64 bn, .int .i64 bd], .agg #[.int .i64 an, .int .i64 ad]] w fun e' w' => e' = .returned (.tuple #[.int .i64 1, .int .i64 0]) ∧ Later w w'))
    (H3 : Hid (∀ w, Calls Try.prog 15 #[.agg #[.int .i64 an, .int .i64 ad]] w fun e' w' => e' = .returned (.tuple #[.int .i64 n, .int .i64 0]) ∧ Later w w'))
    (H4 : Hid (∀ w, Calls Try.prog 15 #[.agg #[.int .i64 bn, .int .i64 bd]] w fun e' w' => e' = .returned (.tuple #[.int .i64 m, .int .i64 0]) ∧ Later w w'))
    (H5 : Hid (∀ w, Calls Try.prog 16 #[.agg #[.int .i64 an, .int .i64 ad], .agg #[.int .i64 bn, .int .i64 bd]] w fun e' w' => e' = .returned (.tuple #[.agg #[.int .i64 dn, .int .i64 dd], .int .i64 i]) ∧ Later w w'))
    (H6 : Hid (∀ w, Calls Try.prog 17 #[.agg #[.int .i64 an, .int .i64 ad], .agg #[.int .i64 cn, .int .i64 cd]] w fun e' w' => e' = .returned (.tuple #[.agg #[.int .i64 pn, .int .i64 pd], .int .i64 j]) ∧ Later w w'))
    (H7 : Hid (∀ w, Calls Try.prog 17 #[.agg #[.int .i64 bn, .int .i64 bd], .agg #[.int .i64 cn, .int .i64 cd]] w fun e' w' => e' = .returned (.tuple #[.agg #[.int .i64 qn, .int .i64 qd], .int .i64 k]) ∧ Later w w'))
    (H8 : j = 0 → k = 0 → Hid (∀ w, Calls Try.prog 14 #[.agg #[.int .i64 pn, .int .i64 pd], .agg #[.int .i64 qn, .int .i64 qd]] w fun e' w' => e' = .returned (.tuple #[.int .i64 (-1), .int .i64 0]) ∧ Later w w'))
    (t1 : decide (m < n) = false) (hd : i = 0 → dn < 0) :
    Calls Try.prog 4 #[.agg #[.int .i64 an, .int .i64 ad], .agg #[.int .i64 bn, .int .i64 bd], .agg #[.int .i64 cn, .int .i64 cd]] w fun e w' => e = .returned (.bool true) ∧ Later w w' := by
  have HA := Lib.hid awake_any
  have HD : Hid (i = 0 → dn < 0) := hd
  have HE : Hid (j = 0 → k = 0 → Hid (∀ w, Calls Try.prog 14 #[.agg #[.int .i64 pn, .int .i64 pd], .agg #[.int .i64 qn, .int .i64 qd]] w fun e' w' => e' = .returned (.tuple #[.int .i64 (-1), .int .i64 0]) ∧ Later w w')) := H8
  clear hd H8
  go_enter Try.func4, Try.ntmps4
  go_wp2_with fail
  refine (H1.out _).mono ?_
  rintro e w1 ⟨rfl, hb1⟩
  obtain ⟨c0, f0, c1, f1, c2, f2, z1⟩ := own3 hb1
  have y0 : w.heap.size < w1.heap.size := by omega
  have y1 : w.heap.size + 1 < w1.heap.size := by omega
  have y2 : w.heap.size + 1 + 1 < w1.heap.size := by omega
  go_wp2_with fail
  refine (H2.out _).mono ?_
  rintro e w2 ⟨rfl, hb2⟩
  obtain ⟨hc, hf⟩ := bcell hb2; have hz := Later.size hb2; (try simp only [World.size_alloc, World.size_drew, World.heap_drewN, World.size_setCell] at hz); (repeat (first | (with_reducible refine use_of (Later.undrew hb2) ?_; intro hb2) | (with_reducible refine use_of (Later.undrewN hb2) ?_; intro hb2) | (with_reducible refine use_of (Later.unalloc hb2) ?_; intro hb2))); obtain ⟨hc, hf⟩ := bcell hb2; (try (refine use_of (fun i => (hc _ i (by omega)).trans (c0 i)) ?_; clear c0; intro c0)); (try (refine use_of (fun i => (hc _ i (by omega)).trans (c1 i)) ?_; clear c1; intro c1)); (try (refine use_of (fun i => (hc _ i (by omega)).trans (c2 i)) ?_; clear c2; intro c2)); clear hc hf; (try clear hc hf)
  have y0 : w.heap.size < w2.heap.size := by omega
  have y1 : w.heap.size + 1 < w2.heap.size := by omega
  have y2 : w.heap.size + 1 + 1 < w2.heap.size := by omega
  go_wp2_with fail
  refine (H3.out _).mono ?_
  rintro e w3 ⟨rfl, hb3⟩
  obtain ⟨hc, hf⟩ := bcell hb3; have hz := Later.size hb3; (try simp only [World.size_alloc, World.size_drew, World.heap_drewN, World.size_setCell] at hz); (repeat (first | (with_reducible refine use_of (Later.undrew hb3) ?_; intro hb3) | (with_reducible refine use_of (Later.undrewN hb3) ?_; intro hb3) | (with_reducible refine use_of (Later.unalloc hb3) ?_; intro hb3))); obtain ⟨hc, hf⟩ := bcell hb3; (try (refine use_of (fun i => (hc _ i (by omega)).trans (c0 i)) ?_; clear c0; intro c0)); (try (refine use_of (fun i => (hc _ i (by omega)).trans (c1 i)) ?_; clear c1; intro c1)); (try (refine use_of (fun i => (hc _ i (by omega)).trans (c2 i)) ?_; clear c2; intro c2)); clear hc hf; (try clear hc hf)
  have y0 : w.heap.size < w3.heap.size := by omega
  have y1 : w.heap.size + 1 < w3.heap.size := by omega
  have y2 : w.heap.size + 1 + 1 < w3.heap.size := by omega
  go_wp2_with fail
  refine (H4.out _).mono ?_
  rintro e w4 ⟨rfl, hb4⟩
  obtain ⟨hc, hf⟩ := bcell hb4; have hz := Later.size hb4; (try simp only [World.size_alloc, World.size_drew, World.heap_drewN, World.size_setCell] at hz); (repeat (first | (with_reducible refine use_of (Later.undrew hb4) ?_; intro hb4) | (with_reducible refine use_of (Later.undrewN hb4) ?_; intro hb4) | (with_reducible refine use_of (Later.unalloc hb4) ?_; intro hb4))); obtain ⟨hc, hf⟩ := bcell hb4; (try (refine use_of (fun i => (hc _ i (by omega)).trans (c0 i)) ?_; clear c0; intro c0)); (try (refine use_of (fun i => (hc _ i (by omega)).trans (c1 i)) ?_; clear c1; intro c1)); (try (refine use_of (fun i => (hc _ i (by omega)).trans (c2 i)) ?_; clear c2; intro c2)); clear hc hf; (try clear hc hf)
  have y0 : w.heap.size < w4.heap.size := by omega
  have y1 : w.heap.size + 1 < w4.heap.size := by omega
  have y2 : w.heap.size + 1 + 1 < w4.heap.size := by omega
  go_wp2_with fail
  refine (H5.out _).mono ?_
  rintro e w5 ⟨rfl, hb5⟩
  obtain ⟨hc, hf⟩ := bcell hb5; have hz := Later.size hb5; (try simp only [World.size_alloc, World.size_drew, World.heap_drewN, World.size_setCell] at hz); (repeat (first | (with_reducible refine use_of (Later.undrew hb5) ?_; intro hb5) | (with_reducible refine use_of (Later.undrewN hb5) ?_; intro hb5) | (with_reducible refine use_of (Later.unalloc hb5) ?_; intro hb5))); obtain ⟨hc, hf⟩ := bcell hb5; (try (refine use_of (fun i => (hc _ i (by omega)).trans (c0 i)) ?_; clear c0; intro c0)); (try (refine use_of (fun i => (hc _ i (by omega)).trans (c1 i)) ?_; clear c1; intro c1)); (try (refine use_of (fun i => (hc _ i (by omega)).trans (c2 i)) ?_; clear c2; intro c2)); clear hc hf; (try clear hc hf)
  have y0 : w.heap.size < w5.heap.size := by omega
  have y1 : w.heap.size + 1 < w5.heap.size := by omega
  have y2 : w.heap.size + 1 + 1 < w5.heap.size := by omega
  go_upto_region 12 with fail
  go_cut [136] (fun s136 wx => s136 = .bool false ∧ Later w5 wx)
  case first =>
    by_cases hi : i = 0
    · have hs := HD.out hi
      have s1 : decide (dn < 0) = true := by simp; omega
      have s2 : (dn == 0) = false := by simp; omega
      subst hi
      go_wp2_with fail
      go_meet
      exact ⟨rfl, by repeat (first | with_reducible exact Later.refl _ | with_reducible assumption | with_reducible refine Later.ofdrew ?_ | with_reducible refine Later.ofdrewN ?_ | with_reducible refine Later.setCell ?_ ?_ _ | with_reducible refine Later.alloc ?_ _ | with_reducible refine Later.drewN ?_ _ | with_reducible refine Later.drew ?_ | (with_reducible refine Later.trans ?_ (by assumption)) | (simp only [World.size_setCell, World.size_alloc, World.heap_drewN]; omega) | (simp; done) | (simp; omega))⟩
    · have hi0 : (i == 0) = false := by simpa using hi
      go_wp2_with fail
      go_meet
      exact ⟨rfl, by repeat (first | with_reducible exact Later.refl _ | with_reducible assumption | with_reducible refine Later.ofdrew ?_ | with_reducible refine Later.ofdrewN ?_ | with_reducible refine Later.setCell ?_ ?_ _ | with_reducible refine Later.alloc ?_ _ | with_reducible refine Later.drewN ?_ _ | with_reducible refine Later.drew ?_ | (with_reducible refine Later.trans ?_ (by assumption)) | (simp only [World.size_setCell, World.size_alloc, World.heap_drewN]; omega) | (simp; done) | (simp; omega))⟩
  case rest =>
    obtain ⟨rfl, hl⟩ := hcut
    obtain ⟨hc, hf⟩ := bcell hl; have hz := Later.size hl; (try simp only [World.size_alloc, World.size_drew, World.heap_drewN, World.size_setCell] at hz); (repeat (first | (with_reducible refine use_of (Later.undrew hl) ?_; intro hl) | (with_reducible refine use_of (Later.undrewN hl) ?_; intro hl) | (with_reducible refine use_of (Later.unalloc hl) ?_; intro hl))); obtain ⟨hc, hf⟩ := bcell hl; (try (refine use_of (fun i => (hc _ i (by omega)).trans (c0 i)) ?_; clear c0; intro c0)); (try (refine use_of (fun i => (hc _ i (by omega)).trans (c1 i)) ?_; clear c1; intro c1)); (try (refine use_of (fun i => (hc _ i (by omega)).trans (c2 i)) ?_; clear c2; intro c2)); clear hc hf; (try clear hc hf)
    go_wp2_with fail
    refine (H6.out _).mono ?_
    rintro e w6 ⟨rfl, hb6⟩
    obtain ⟨hc, hf⟩ := bcell hb6; have hz := Later.size hb6; (try simp only [World.size_alloc, World.size_drew, World.heap_drewN, World.size_setCell] at hz); (repeat (first | (with_reducible refine use_of (Later.undrew hb6) ?_; intro hb6) | (with_reducible refine use_of (Later.undrewN hb6) ?_; intro hb6) | (with_reducible refine use_of (Later.unalloc hb6) ?_; intro hb6))); obtain ⟨hc, hf⟩ := bcell hb6; (try (refine use_of (fun i => (hc _ i (by omega)).trans (c0 i)) ?_; clear c0; intro c0)); (try (refine use_of (fun i => (hc _ i (by omega)).trans (c1 i)) ?_; clear c1; intro c1)); (try (refine use_of (fun i => (hc _ i (by omega)).trans (c2 i)) ?_; clear c2; intro c2)); clear hc hf; (try clear hc hf)
    have y0 : w.heap.size < w6.heap.size := by omega
    have y1 : w.heap.size + 1 < w6.heap.size := by omega
    have y2 : w.heap.size + 1 + 1 < w6.heap.size := by omega
    go_wp2_with fail
    refine (H7.out _).mono ?_
    rintro e w7 ⟨rfl, hb7⟩
    obtain ⟨hc, hf⟩ := bcell hb7; have hz := Later.size hb7; (try simp only [World.size_alloc, World.size_drew, World.heap_drewN, World.size_setCell] at hz); (first | (with_reducible refine use_own1 hb7 ?_; intro op fp zp) | (with_reducible refine use_own1 (Later.undrew hb7) ?_; intro op fp zp) | skip); (repeat (first | (with_reducible refine use_of (Later.undrew hb7) ?_; intro hb7) | (with_reducible refine use_of (Later.undrewN hb7) ?_; intro hb7) | (with_reducible refine use_of (Later.unalloc hb7) ?_; intro hb7))); obtain ⟨hc, hf⟩ := bcell hb7; (try (refine use_of (fun i => (hc _ i (by omega)).trans (c0 i)) ?_; clear c0; intro c0)); (try (refine use_of (fun i => (hc _ i (by omega)).trans (c1 i)) ?_; clear c1; intro c1)); (try (refine use_of (fun i => (hc _ i (by omega)).trans (c2 i)) ?_; clear c2; intro c2)); clear hc hf; (try clear hc hf)
    have y0 : w.heap.size < w7.heap.size := by omega
    have y1 : w.heap.size + 1 < w7.heap.size := by omega
    have y2 : w.heap.size + 1 + 1 < w7.heap.size := by omega
    by_cases hj : j = 0
    · by_cases hk : k = 0
      · have H8 := HE.out hj hk
        subst hj
        subst hk
        go_wp2_with fail
        refine (H8.out _).mono ?_
        rintro e w8 ⟨rfl, hb8⟩
        obtain ⟨hc, hf⟩ := bcell hb8; have hz := Later.size hb8; (try simp only [World.size_alloc, World.size_drew, World.heap_drewN, World.size_setCell] at hz)
        go_wp2_with (go_at_call 11; refine (HA.out _).mono ?_; rintro e w9 ⟨rfl, hb9⟩)
        go_ret
        exact ⟨rfl, by repeat (first | with_reducible exact Later.refl _ | with_reducible assumption | with_reducible refine Later.ofdrew ?_ | with_reducible refine Later.ofdrewN ?_ | with_reducible refine Later.setCell ?_ ?_ _ | with_reducible refine Later.alloc ?_ _ | with_reducible refine Later.drewN ?_ _ | with_reducible refine Later.drew ?_ | (with_reducible refine Later.trans ?_ (by assumption)) | (simp only [World.size_setCell, World.size_alloc, World.heap_drewN]; omega) | (simp; done) | (simp; omega))⟩
      · have hk0 : (k != 0) = true := by simpa using hk
        subst hj
        go_wp2_with (go_at_call 11; refine (HA.out _).mono ?_; rintro e w9 ⟨rfl, hb9⟩)
        go_ret
        exact ⟨rfl, by repeat (first | with_reducible exact Later.refl _ | with_reducible assumption | with_reducible refine Later.ofdrew ?_ | with_reducible refine Later.ofdrewN ?_ | with_reducible refine Later.setCell ?_ ?_ _ | with_reducible refine Later.alloc ?_ _ | with_reducible refine Later.drewN ?_ _ | with_reducible refine Later.drew ?_ | (with_reducible refine Later.trans ?_ (by assumption)) | (simp only [World.size_setCell, World.size_alloc, World.heap_drewN]; omega) | (simp; done) | (simp; omega))⟩
    · have hj0 : (j != 0) = true := by simpa using hj
      go_wp2_with (go_at_call 11; refine (HA.out _).mono ?_; rintro e w9 ⟨rfl, hb9⟩)
      go_ret
      exact ⟨rfl, by repeat (first | with_reducible exact Later.refl _ | with_reducible assumption | with_reducible refine Later.ofdrew ?_ | with_reducible refine Later.ofdrewN ?_ | with_reducible refine Later.setCell ?_ ?_ _ | with_reducible refine Later.alloc ?_ _ | with_reducible refine Later.drewN ?_ _ | with_reducible refine Later.drew ?_ | (with_reducible refine Later.trans ?_ (by assumption)) | (simp only [World.size_setCell, World.size_alloc, World.heap_drewN]; omega) | (simp; done) | (simp; omega))⟩

set_option maxRecDepth 100000 in
set_option maxHeartbeats 4000000 in
theorem ranks_eq (an ad cn cd n dn dd i pn pd j qn qd k : Int) (w : World)
    (H1 : Hid (∀ w, Calls Try.prog 14 #[.agg #[.int .i64 an, .int .i64 ad], .agg #[.int .i64 an, .int .i64 ad]] w fun e' w' => e' = .returned (.tuple #[.int .i64 0, .int .i64 0]) ∧ Later w w'))
    (H2 : Hid (∀ w, Calls Try.prog 14 #[.agg #[.int .i64 an, .int .i64 ad], .agg #[.int .i64 an, .int .i64 ad]] w fun e' w' => e' = .returned (.tuple #[.int .i64 0, .int .i64 0]) ∧ Later w w'))
    (H3 : Hid (∀ w, Calls Try.prog 15 #[.agg #[.int .i64 an, .int .i64 ad]] w fun e' w' => e' = .returned (.tuple #[.int .i64 n, .int .i64 0]) ∧ Later w w'))
    (H4 : Hid (∀ w, Calls Try.prog 15 #[.agg #[.int .i64 an, .int .i64 ad]] w fun e' w' => e' = .returned (.tuple #[.int .i64 n, .int .i64 0]) ∧ Later w w'))
    (H5 : Hid (∀ w, Calls Try.prog 16 #[.agg #[.int .i64 an, .int .i64 ad], .agg #[.int .i64 an, .int .i64 ad]] w fun e' w' => e' = .returned (.tuple #[.agg #[.int .i64 dn, .int .i64 dd], .int .i64 i]) ∧ Later w w'))
    (H6 : Hid (∀ w, Calls Try.prog 17 #[.agg #[.int .i64 an, .int .i64 ad], .agg #[.int .i64 cn, .int .i64 cd]] w fun e' w' => e' = .returned (.tuple #[.agg #[.int .i64 pn, .int .i64 pd], .int .i64 j]) ∧ Later w w'))
    (H7 : Hid (∀ w, Calls Try.prog 17 #[.agg #[.int .i64 an, .int .i64 ad], .agg #[.int .i64 cn, .int .i64 cd]] w fun e' w' => e' = .returned (.tuple #[.agg #[.int .i64 qn, .int .i64 qd], .int .i64 k]) ∧ Later w w'))
    (H8 : j = 0 → k = 0 → Hid (∀ w, Calls Try.prog 14 #[.agg #[.int .i64 pn, .int .i64 pd], .agg #[.int .i64 qn, .int .i64 qd]] w fun e' w' => e' = .returned (.tuple #[.int .i64 0, .int .i64 0]) ∧ Later w w'))
     (hd : i = 0 → dn = 0) :
    Calls Try.prog 4 #[.agg #[.int .i64 an, .int .i64 ad], .agg #[.int .i64 an, .int .i64 ad], .agg #[.int .i64 cn, .int .i64 cd]] w fun e w' => e = .returned (.bool true) ∧ Later w w' := by
  have HA := Lib.hid awake_any
  have HD : Hid (i = 0 → dn = 0) := hd
  have HE : Hid (j = 0 → k = 0 → Hid (∀ w, Calls Try.prog 14 #[.agg #[.int .i64 pn, .int .i64 pd], .agg #[.int .i64 qn, .int .i64 qd]] w fun e' w' => e' = .returned (.tuple #[.int .i64 0, .int .i64 0]) ∧ Later w w')) := H8
  clear hd H8
  go_enter Try.func4, Try.ntmps4
  go_wp2_with fail
  refine (H1.out _).mono ?_
  rintro e w1 ⟨rfl, hb1⟩
  obtain ⟨c0, f0, c1, f1, c2, f2, z1⟩ := own3 hb1
  have y0 : w.heap.size < w1.heap.size := by omega
  have y1 : w.heap.size + 1 < w1.heap.size := by omega
  have y2 : w.heap.size + 1 + 1 < w1.heap.size := by omega
  go_wp2_with fail
  refine (H2.out _).mono ?_
  rintro e w2 ⟨rfl, hb2⟩
  obtain ⟨hc, hf⟩ := bcell hb2; have hz := Later.size hb2; (try simp only [World.size_alloc, World.size_drew, World.heap_drewN, World.size_setCell] at hz); (repeat (first | (with_reducible refine use_of (Later.undrew hb2) ?_; intro hb2) | (with_reducible refine use_of (Later.undrewN hb2) ?_; intro hb2) | (with_reducible refine use_of (Later.unalloc hb2) ?_; intro hb2))); obtain ⟨hc, hf⟩ := bcell hb2; (try (refine use_of (fun i => (hc _ i (by omega)).trans (c0 i)) ?_; clear c0; intro c0)); (try (refine use_of (fun i => (hc _ i (by omega)).trans (c1 i)) ?_; clear c1; intro c1)); (try (refine use_of (fun i => (hc _ i (by omega)).trans (c2 i)) ?_; clear c2; intro c2)); clear hc hf; (try clear hc hf)
  have y0 : w.heap.size < w2.heap.size := by omega
  have y1 : w.heap.size + 1 < w2.heap.size := by omega
  have y2 : w.heap.size + 1 + 1 < w2.heap.size := by omega
  go_wp2_with fail
  refine (H3.out _).mono ?_
  rintro e w3 ⟨rfl, hb3⟩
  obtain ⟨hc, hf⟩ := bcell hb3; have hz := Later.size hb3; (try simp only [World.size_alloc, World.size_drew, World.heap_drewN, World.size_setCell] at hz); (repeat (first | (with_reducible refine use_of (Later.undrew hb3) ?_; intro hb3) | (with_reducible refine use_of (Later.undrewN hb3) ?_; intro hb3) | (with_reducible refine use_of (Later.unalloc hb3) ?_; intro hb3))); obtain ⟨hc, hf⟩ := bcell hb3; (try (refine use_of (fun i => (hc _ i (by omega)).trans (c0 i)) ?_; clear c0; intro c0)); (try (refine use_of (fun i => (hc _ i (by omega)).trans (c1 i)) ?_; clear c1; intro c1)); (try (refine use_of (fun i => (hc _ i (by omega)).trans (c2 i)) ?_; clear c2; intro c2)); clear hc hf; (try clear hc hf)
  have y0 : w.heap.size < w3.heap.size := by omega
  have y1 : w.heap.size + 1 < w3.heap.size := by omega
  have y2 : w.heap.size + 1 + 1 < w3.heap.size := by omega
  go_wp2_with fail
  refine (H4.out _).mono ?_
  rintro e w4 ⟨rfl, hb4⟩
  obtain ⟨hc, hf⟩ := bcell hb4; have hz := Later.size hb4; (try simp only [World.size_alloc, World.size_drew, World.heap_drewN, World.size_setCell] at hz); (repeat (first | (with_reducible refine use_of (Later.undrew hb4) ?_; intro hb4) | (with_reducible refine use_of (Later.undrewN hb4) ?_; intro hb4) | (with_reducible refine use_of (Later.unalloc hb4) ?_; intro hb4))); obtain ⟨hc, hf⟩ := bcell hb4; (try (refine use_of (fun i => (hc _ i (by omega)).trans (c0 i)) ?_; clear c0; intro c0)); (try (refine use_of (fun i => (hc _ i (by omega)).trans (c1 i)) ?_; clear c1; intro c1)); (try (refine use_of (fun i => (hc _ i (by omega)).trans (c2 i)) ?_; clear c2; intro c2)); clear hc hf; (try clear hc hf)
  have y0 : w.heap.size < w4.heap.size := by omega
  have y1 : w.heap.size + 1 < w4.heap.size := by omega
  have y2 : w.heap.size + 1 + 1 < w4.heap.size := by omega
  go_wp2_with fail
  refine (H5.out _).mono ?_
  rintro e w5 ⟨rfl, hb5⟩
  obtain ⟨hc, hf⟩ := bcell hb5; have hz := Later.size hb5; (try simp only [World.size_alloc, World.size_drew, World.heap_drewN, World.size_setCell] at hz); (repeat (first | (with_reducible refine use_of (Later.undrew hb5) ?_; intro hb5) | (with_reducible refine use_of (Later.undrewN hb5) ?_; intro hb5) | (with_reducible refine use_of (Later.unalloc hb5) ?_; intro hb5))); obtain ⟨hc, hf⟩ := bcell hb5; (try (refine use_of (fun i => (hc _ i (by omega)).trans (c0 i)) ?_; clear c0; intro c0)); (try (refine use_of (fun i => (hc _ i (by omega)).trans (c1 i)) ?_; clear c1; intro c1)); (try (refine use_of (fun i => (hc _ i (by omega)).trans (c2 i)) ?_; clear c2; intro c2)); clear hc hf; (try clear hc hf)
  have y0 : w.heap.size < w5.heap.size := by omega
  have y1 : w.heap.size + 1 < w5.heap.size := by omega
  have y2 : w.heap.size + 1 + 1 < w5.heap.size := by omega
  go_upto_region 12 with fail
  go_cut [136] (fun s136 wx => s136 = .bool false ∧ Later w5 wx)
  case first =>
    by_cases hi : i = 0
    · have hs := HD.out hi
      have s1 : decide (dn < 0) = false := by simp; omega
      have s2 : (dn == 0) = true := by simp; omega
      subst hi
      go_wp2_with fail
      go_meet
      exact ⟨rfl, by repeat (first | with_reducible exact Later.refl _ | with_reducible assumption | with_reducible refine Later.ofdrew ?_ | with_reducible refine Later.ofdrewN ?_ | with_reducible refine Later.setCell ?_ ?_ _ | with_reducible refine Later.alloc ?_ _ | with_reducible refine Later.drewN ?_ _ | with_reducible refine Later.drew ?_ | (with_reducible refine Later.trans ?_ (by assumption)) | (simp only [World.size_setCell, World.size_alloc, World.heap_drewN]; omega) | (simp; done) | (simp; omega))⟩
    · have hi0 : (i == 0) = false := by simpa using hi
      go_wp2_with fail
      go_meet
      exact ⟨rfl, by repeat (first | with_reducible exact Later.refl _ | with_reducible assumption | with_reducible refine Later.ofdrew ?_ | with_reducible refine Later.ofdrewN ?_ | with_reducible refine Later.setCell ?_ ?_ _ | with_reducible refine Later.alloc ?_ _ | with_reducible refine Later.drewN ?_ _ | with_reducible refine Later.drew ?_ | (with_reducible refine Later.trans ?_ (by assumption)) | (simp only [World.size_setCell, World.size_alloc, World.heap_drewN]; omega) | (simp; done) | (simp; omega))⟩
  case rest =>
    obtain ⟨rfl, hl⟩ := hcut
    obtain ⟨hc, hf⟩ := bcell hl; have hz := Later.size hl; (try simp only [World.size_alloc, World.size_drew, World.heap_drewN, World.size_setCell] at hz); (repeat (first | (with_reducible refine use_of (Later.undrew hl) ?_; intro hl) | (with_reducible refine use_of (Later.undrewN hl) ?_; intro hl) | (with_reducible refine use_of (Later.unalloc hl) ?_; intro hl))); obtain ⟨hc, hf⟩ := bcell hl; (try (refine use_of (fun i => (hc _ i (by omega)).trans (c0 i)) ?_; clear c0; intro c0)); (try (refine use_of (fun i => (hc _ i (by omega)).trans (c1 i)) ?_; clear c1; intro c1)); (try (refine use_of (fun i => (hc _ i (by omega)).trans (c2 i)) ?_; clear c2; intro c2)); clear hc hf; (try clear hc hf)
    go_wp2_with fail
    refine (H6.out _).mono ?_
    rintro e w6 ⟨rfl, hb6⟩
    obtain ⟨hc, hf⟩ := bcell hb6; have hz := Later.size hb6; (try simp only [World.size_alloc, World.size_drew, World.heap_drewN, World.size_setCell] at hz); (repeat (first | (with_reducible refine use_of (Later.undrew hb6) ?_; intro hb6) | (with_reducible refine use_of (Later.undrewN hb6) ?_; intro hb6) | (with_reducible refine use_of (Later.unalloc hb6) ?_; intro hb6))); obtain ⟨hc, hf⟩ := bcell hb6; (try (refine use_of (fun i => (hc _ i (by omega)).trans (c0 i)) ?_; clear c0; intro c0)); (try (refine use_of (fun i => (hc _ i (by omega)).trans (c1 i)) ?_; clear c1; intro c1)); (try (refine use_of (fun i => (hc _ i (by omega)).trans (c2 i)) ?_; clear c2; intro c2)); clear hc hf; (try clear hc hf)
    have y0 : w.heap.size < w6.heap.size := by omega
    have y1 : w.heap.size + 1 < w6.heap.size := by omega
    have y2 : w.heap.size + 1 + 1 < w6.heap.size := by omega
    go_wp2_with fail
    refine (H7.out _).mono ?_
    rintro e w7 ⟨rfl, hb7⟩
    obtain ⟨hc, hf⟩ := bcell hb7; have hz := Later.size hb7; (try simp only [World.size_alloc, World.size_drew, World.heap_drewN, World.size_setCell] at hz); (first | (with_reducible refine use_own1 hb7 ?_; intro op fp zp) | (with_reducible refine use_own1 (Later.undrew hb7) ?_; intro op fp zp) | skip); (repeat (first | (with_reducible refine use_of (Later.undrew hb7) ?_; intro hb7) | (with_reducible refine use_of (Later.undrewN hb7) ?_; intro hb7) | (with_reducible refine use_of (Later.unalloc hb7) ?_; intro hb7))); obtain ⟨hc, hf⟩ := bcell hb7; (try (refine use_of (fun i => (hc _ i (by omega)).trans (c0 i)) ?_; clear c0; intro c0)); (try (refine use_of (fun i => (hc _ i (by omega)).trans (c1 i)) ?_; clear c1; intro c1)); (try (refine use_of (fun i => (hc _ i (by omega)).trans (c2 i)) ?_; clear c2; intro c2)); clear hc hf; (try clear hc hf)
    have y0 : w.heap.size < w7.heap.size := by omega
    have y1 : w.heap.size + 1 < w7.heap.size := by omega
    have y2 : w.heap.size + 1 + 1 < w7.heap.size := by omega
    by_cases hj : j = 0
    · by_cases hk : k = 0
      · have H8 := HE.out hj hk
        subst hj
        subst hk
        go_wp2_with fail
        refine (H8.out _).mono ?_
        rintro e w8 ⟨rfl, hb8⟩
        obtain ⟨hc, hf⟩ := bcell hb8; have hz := Later.size hb8; (try simp only [World.size_alloc, World.size_drew, World.heap_drewN, World.size_setCell] at hz)
        go_wp2_with (go_at_call 11; refine (HA.out _).mono ?_; rintro e w9 ⟨rfl, hb9⟩)
        go_ret
        exact ⟨rfl, by repeat (first | with_reducible exact Later.refl _ | with_reducible assumption | with_reducible refine Later.ofdrew ?_ | with_reducible refine Later.ofdrewN ?_ | with_reducible refine Later.setCell ?_ ?_ _ | with_reducible refine Later.alloc ?_ _ | with_reducible refine Later.drewN ?_ _ | with_reducible refine Later.drew ?_ | (with_reducible refine Later.trans ?_ (by assumption)) | (simp only [World.size_setCell, World.size_alloc, World.heap_drewN]; omega) | (simp; done) | (simp; omega))⟩
      · have hk0 : (k != 0) = true := by simpa using hk
        subst hj
        go_wp2_with (go_at_call 11; refine (HA.out _).mono ?_; rintro e w9 ⟨rfl, hb9⟩)
        go_ret
        exact ⟨rfl, by repeat (first | with_reducible exact Later.refl _ | with_reducible assumption | with_reducible refine Later.ofdrew ?_ | with_reducible refine Later.ofdrewN ?_ | with_reducible refine Later.setCell ?_ ?_ _ | with_reducible refine Later.alloc ?_ _ | with_reducible refine Later.drewN ?_ _ | with_reducible refine Later.drew ?_ | (with_reducible refine Later.trans ?_ (by assumption)) | (simp only [World.size_setCell, World.size_alloc, World.heap_drewN]; omega) | (simp; done) | (simp; omega))⟩
    · have hj0 : (j != 0) = true := by simpa using hj
      go_wp2_with (go_at_call 11; refine (HA.out _).mono ?_; rintro e w9 ⟨rfl, hb9⟩)
      go_ret
      exact ⟨rfl, by repeat (first | with_reducible exact Later.refl _ | with_reducible assumption | with_reducible refine Later.ofdrew ?_ | with_reducible refine Later.ofdrewN ?_ | with_reducible refine Later.setCell ?_ ?_ _ | with_reducible refine Later.alloc ?_ _ | with_reducible refine Later.drewN ?_ _ | with_reducible refine Later.drew ?_ | (with_reducible refine Later.trans ?_ (by assumption)) | (simp only [World.size_setCell, World.size_alloc, World.heap_drewN]; omega) | (simp; done) | (simp; omega))⟩

set_option maxRecDepth 100000 in
set_option maxHeartbeats 4000000 in
theorem ranks_gt (an ad bn bd cn cd n m dn dd i pn pd j qn qd k : Int) (w : World)
    (H1 : Hid (∀ w, Calls Try.prog 14 #[.agg #[.int .i64 an, .int .i64 ad], .agg #[.int .i64 bn, .int .i64 bd]] w fun e' w' => e' = .returned (.tuple #[.int .i64 1, .int .i64 0]) ∧ Later w w'))
    (H2 : Hid (∀ w, Calls Try.prog 14 #[.agg #[.int .i64 bn, .int .i64 bd], .agg #[.int .i64 an, .int .i64 ad]] w fun e' w' => e' = .returned (.tuple #[.int .i64 (-1), .int .i64 0]) ∧ Later w w'))
    (H3 : Hid (∀ w, Calls Try.prog 15 #[.agg #[.int .i64 an, .int .i64 ad]] w fun e' w' => e' = .returned (.tuple #[.int .i64 n, .int .i64 0]) ∧ Later w w'))
    (H4 : Hid (∀ w, Calls Try.prog 15 #[.agg #[.int .i64 bn, .int .i64 bd]] w fun e' w' => e' = .returned (.tuple #[.int .i64 m, .int .i64 0]) ∧ Later w w'))
    (H5 : Hid (∀ w, Calls Try.prog 16 #[.agg #[.int .i64 an, .int .i64 ad], .agg #[.int .i64 bn, .int .i64 bd]] w fun e' w' => e' = .returned (.tuple #[.agg #[.int .i64 dn, .int .i64 dd], .int .i64 i]) ∧ Later w w'))
    (H6 : Hid (∀ w, Calls Try.prog 17 #[.agg #[.int .i64 an, .int .i64 ad], .agg #[.int .i64 cn, .int .i64 cd]] w fun e' w' => e' = .returned (.tuple #[.agg #[.int .i64 pn, .int .i64 pd], .int .i64 j]) ∧ Later w w'))
    (H7 : Hid (∀ w, Calls Try.prog 17 #[.agg #[.int .i64 bn, .int .i64 bd], .agg #[.int .i64 cn, .int .i64 cd]] w fun e' w' => e' = .returned (.tuple #[.agg #[.int .i64 qn, .int .i64 qd], .int .i64 k]) ∧ Later w w'))
    (H8 : j = 0 → k = 0 → Hid (∀ w, Calls Try.prog 14 #[.agg #[.int .i64 pn, .int .i64 pd], .agg #[.int .i64 qn, .int .i64 qd]] w fun e' w' => e' = .returned (.tuple #[.int .i64 1, .int .i64 0]) ∧ Later w w'))
    (t1 : decide (n < m) = false) (hd : i = 0 → 0 < dn) :
    Calls Try.prog 4 #[.agg #[.int .i64 an, .int .i64 ad], .agg #[.int .i64 bn, .int .i64 bd], .agg #[.int .i64 cn, .int .i64 cd]] w fun e w' => e = .returned (.bool true) ∧ Later w w' := by
  have HA := Lib.hid awake_any
  have HD : Hid (i = 0 → 0 < dn) := hd
  have HE : Hid (j = 0 → k = 0 → Hid (∀ w, Calls Try.prog 14 #[.agg #[.int .i64 pn, .int .i64 pd], .agg #[.int .i64 qn, .int .i64 qd]] w fun e' w' => e' = .returned (.tuple #[.int .i64 1, .int .i64 0]) ∧ Later w w')) := H8
  clear hd H8
  go_enter Try.func4, Try.ntmps4
  go_wp2_with fail
  refine (H1.out _).mono ?_
  rintro e w1 ⟨rfl, hb1⟩
  obtain ⟨c0, f0, c1, f1, c2, f2, z1⟩ := own3 hb1
  have y0 : w.heap.size < w1.heap.size := by omega
  have y1 : w.heap.size + 1 < w1.heap.size := by omega
  have y2 : w.heap.size + 1 + 1 < w1.heap.size := by omega
  go_wp2_with fail
  refine (H2.out _).mono ?_
  rintro e w2 ⟨rfl, hb2⟩
  obtain ⟨hc, hf⟩ := bcell hb2; have hz := Later.size hb2; (try simp only [World.size_alloc, World.size_drew, World.heap_drewN, World.size_setCell] at hz); (repeat (first | (with_reducible refine use_of (Later.undrew hb2) ?_; intro hb2) | (with_reducible refine use_of (Later.undrewN hb2) ?_; intro hb2) | (with_reducible refine use_of (Later.unalloc hb2) ?_; intro hb2))); obtain ⟨hc, hf⟩ := bcell hb2; (try (refine use_of (fun i => (hc _ i (by omega)).trans (c0 i)) ?_; clear c0; intro c0)); (try (refine use_of (fun i => (hc _ i (by omega)).trans (c1 i)) ?_; clear c1; intro c1)); (try (refine use_of (fun i => (hc _ i (by omega)).trans (c2 i)) ?_; clear c2; intro c2)); clear hc hf; (try clear hc hf)
  have y0 : w.heap.size < w2.heap.size := by omega
  have y1 : w.heap.size + 1 < w2.heap.size := by omega
  have y2 : w.heap.size + 1 + 1 < w2.heap.size := by omega
  go_wp2_with fail
  refine (H3.out _).mono ?_
  rintro e w3 ⟨rfl, hb3⟩
  obtain ⟨hc, hf⟩ := bcell hb3; have hz := Later.size hb3; (try simp only [World.size_alloc, World.size_drew, World.heap_drewN, World.size_setCell] at hz); (repeat (first | (with_reducible refine use_of (Later.undrew hb3) ?_; intro hb3) | (with_reducible refine use_of (Later.undrewN hb3) ?_; intro hb3) | (with_reducible refine use_of (Later.unalloc hb3) ?_; intro hb3))); obtain ⟨hc, hf⟩ := bcell hb3; (try (refine use_of (fun i => (hc _ i (by omega)).trans (c0 i)) ?_; clear c0; intro c0)); (try (refine use_of (fun i => (hc _ i (by omega)).trans (c1 i)) ?_; clear c1; intro c1)); (try (refine use_of (fun i => (hc _ i (by omega)).trans (c2 i)) ?_; clear c2; intro c2)); clear hc hf; (try clear hc hf)
  have y0 : w.heap.size < w3.heap.size := by omega
  have y1 : w.heap.size + 1 < w3.heap.size := by omega
  have y2 : w.heap.size + 1 + 1 < w3.heap.size := by omega
  go_wp2_with fail
  refine (H4.out _).mono ?_
  rintro e w4 ⟨rfl, hb4⟩
  obtain ⟨hc, hf⟩ := bcell hb4; have hz := Later.size hb4; (try simp only [World.size_alloc, World.size_drew, World.heap_drewN, World.size_setCell] at hz); (repeat (first | (with_reducible refine use_of (Later.undrew hb4) ?_; intro hb4) | (with_reducible refine use_of (Later.undrewN hb4) ?_; intro hb4) | (with_reducible refine use_of (Later.unalloc hb4) ?_; intro hb4))); obtain ⟨hc, hf⟩ := bcell hb4; (try (refine use_of (fun i => (hc _ i (by omega)).trans (c0 i)) ?_; clear c0; intro c0)); (try (refine use_of (fun i => (hc _ i (by omega)).trans (c1 i)) ?_; clear c1; intro c1)); (try (refine use_of (fun i => (hc _ i (by omega)).trans (c2 i)) ?_; clear c2; intro c2)); clear hc hf; (try clear hc hf)
  have y0 : w.heap.size < w4.heap.size := by omega
  have y1 : w.heap.size + 1 < w4.heap.size := by omega
  have y2 : w.heap.size + 1 + 1 < w4.heap.size := by omega
  go_wp2_with fail
  refine (H5.out _).mono ?_
  rintro e w5 ⟨rfl, hb5⟩
  obtain ⟨hc, hf⟩ := bcell hb5; have hz := Later.size hb5; (try simp only [World.size_alloc, World.size_drew, World.heap_drewN, World.size_setCell] at hz); (repeat (first | (with_reducible refine use_of (Later.undrew hb5) ?_; intro hb5) | (with_reducible refine use_of (Later.undrewN hb5) ?_; intro hb5) | (with_reducible refine use_of (Later.unalloc hb5) ?_; intro hb5))); obtain ⟨hc, hf⟩ := bcell hb5; (try (refine use_of (fun i => (hc _ i (by omega)).trans (c0 i)) ?_; clear c0; intro c0)); (try (refine use_of (fun i => (hc _ i (by omega)).trans (c1 i)) ?_; clear c1; intro c1)); (try (refine use_of (fun i => (hc _ i (by omega)).trans (c2 i)) ?_; clear c2; intro c2)); clear hc hf; (try clear hc hf)
  have y0 : w.heap.size < w5.heap.size := by omega
  have y1 : w.heap.size + 1 < w5.heap.size := by omega
  have y2 : w.heap.size + 1 + 1 < w5.heap.size := by omega
  go_upto_region 12 with fail
  go_cut [136] (fun s136 wx => s136 = .bool false ∧ Later w5 wx)
  case first =>
    by_cases hi : i = 0
    · have hs := HD.out hi
      have s1 : decide (dn < 0) = false := by simp; omega
      have s2 : (dn == 0) = false := by simp; omega
      subst hi
      go_wp2_with fail
      go_meet
      exact ⟨rfl, by repeat (first | with_reducible exact Later.refl _ | with_reducible assumption | with_reducible refine Later.ofdrew ?_ | with_reducible refine Later.ofdrewN ?_ | with_reducible refine Later.setCell ?_ ?_ _ | with_reducible refine Later.alloc ?_ _ | with_reducible refine Later.drewN ?_ _ | with_reducible refine Later.drew ?_ | (with_reducible refine Later.trans ?_ (by assumption)) | (simp only [World.size_setCell, World.size_alloc, World.heap_drewN]; omega) | (simp; done) | (simp; omega))⟩
    · have hi0 : (i == 0) = false := by simpa using hi
      go_wp2_with fail
      go_meet
      exact ⟨rfl, by repeat (first | with_reducible exact Later.refl _ | with_reducible assumption | with_reducible refine Later.ofdrew ?_ | with_reducible refine Later.ofdrewN ?_ | with_reducible refine Later.setCell ?_ ?_ _ | with_reducible refine Later.alloc ?_ _ | with_reducible refine Later.drewN ?_ _ | with_reducible refine Later.drew ?_ | (with_reducible refine Later.trans ?_ (by assumption)) | (simp only [World.size_setCell, World.size_alloc, World.heap_drewN]; omega) | (simp; done) | (simp; omega))⟩
  case rest =>
    obtain ⟨rfl, hl⟩ := hcut
    obtain ⟨hc, hf⟩ := bcell hl; have hz := Later.size hl; (try simp only [World.size_alloc, World.size_drew, World.heap_drewN, World.size_setCell] at hz); (repeat (first | (with_reducible refine use_of (Later.undrew hl) ?_; intro hl) | (with_reducible refine use_of (Later.undrewN hl) ?_; intro hl) | (with_reducible refine use_of (Later.unalloc hl) ?_; intro hl))); obtain ⟨hc, hf⟩ := bcell hl; (try (refine use_of (fun i => (hc _ i (by omega)).trans (c0 i)) ?_; clear c0; intro c0)); (try (refine use_of (fun i => (hc _ i (by omega)).trans (c1 i)) ?_; clear c1; intro c1)); (try (refine use_of (fun i => (hc _ i (by omega)).trans (c2 i)) ?_; clear c2; intro c2)); clear hc hf; (try clear hc hf)
    go_wp2_with fail
    refine (H6.out _).mono ?_
    rintro e w6 ⟨rfl, hb6⟩
    obtain ⟨hc, hf⟩ := bcell hb6; have hz := Later.size hb6; (try simp only [World.size_alloc, World.size_drew, World.heap_drewN, World.size_setCell] at hz); (repeat (first | (with_reducible refine use_of (Later.undrew hb6) ?_; intro hb6) | (with_reducible refine use_of (Later.undrewN hb6) ?_; intro hb6) | (with_reducible refine use_of (Later.unalloc hb6) ?_; intro hb6))); obtain ⟨hc, hf⟩ := bcell hb6; (try (refine use_of (fun i => (hc _ i (by omega)).trans (c0 i)) ?_; clear c0; intro c0)); (try (refine use_of (fun i => (hc _ i (by omega)).trans (c1 i)) ?_; clear c1; intro c1)); (try (refine use_of (fun i => (hc _ i (by omega)).trans (c2 i)) ?_; clear c2; intro c2)); clear hc hf; (try clear hc hf)
    have y0 : w.heap.size < w6.heap.size := by omega
    have y1 : w.heap.size + 1 < w6.heap.size := by omega
    have y2 : w.heap.size + 1 + 1 < w6.heap.size := by omega
    go_wp2_with fail
    refine (H7.out _).mono ?_
    rintro e w7 ⟨rfl, hb7⟩
    obtain ⟨hc, hf⟩ := bcell hb7; have hz := Later.size hb7; (try simp only [World.size_alloc, World.size_drew, World.heap_drewN, World.size_setCell] at hz); (first | (with_reducible refine use_own1 hb7 ?_; intro op fp zp) | (with_reducible refine use_own1 (Later.undrew hb7) ?_; intro op fp zp) | skip); (repeat (first | (with_reducible refine use_of (Later.undrew hb7) ?_; intro hb7) | (with_reducible refine use_of (Later.undrewN hb7) ?_; intro hb7) | (with_reducible refine use_of (Later.unalloc hb7) ?_; intro hb7))); obtain ⟨hc, hf⟩ := bcell hb7; (try (refine use_of (fun i => (hc _ i (by omega)).trans (c0 i)) ?_; clear c0; intro c0)); (try (refine use_of (fun i => (hc _ i (by omega)).trans (c1 i)) ?_; clear c1; intro c1)); (try (refine use_of (fun i => (hc _ i (by omega)).trans (c2 i)) ?_; clear c2; intro c2)); clear hc hf; (try clear hc hf)
    have y0 : w.heap.size < w7.heap.size := by omega
    have y1 : w.heap.size + 1 < w7.heap.size := by omega
    have y2 : w.heap.size + 1 + 1 < w7.heap.size := by omega
    by_cases hj : j = 0
    · by_cases hk : k = 0
      · have H8 := HE.out hj hk
        subst hj
        subst hk
        go_wp2_with fail
        refine (H8.out _).mono ?_
        rintro e w8 ⟨rfl, hb8⟩
        obtain ⟨hc, hf⟩ := bcell hb8; have hz := Later.size hb8; (try simp only [World.size_alloc, World.size_drew, World.heap_drewN, World.size_setCell] at hz)
        go_wp2_with (go_at_call 11; refine (HA.out _).mono ?_; rintro e w9 ⟨rfl, hb9⟩)
        go_ret
        exact ⟨rfl, by repeat (first | with_reducible exact Later.refl _ | with_reducible assumption | with_reducible refine Later.ofdrew ?_ | with_reducible refine Later.ofdrewN ?_ | with_reducible refine Later.setCell ?_ ?_ _ | with_reducible refine Later.alloc ?_ _ | with_reducible refine Later.drewN ?_ _ | with_reducible refine Later.drew ?_ | (with_reducible refine Later.trans ?_ (by assumption)) | (simp only [World.size_setCell, World.size_alloc, World.heap_drewN]; omega) | (simp; done) | (simp; omega))⟩
      · have hk0 : (k != 0) = true := by simpa using hk
        subst hj
        go_wp2_with (go_at_call 11; refine (HA.out _).mono ?_; rintro e w9 ⟨rfl, hb9⟩)
        go_ret
        exact ⟨rfl, by repeat (first | with_reducible exact Later.refl _ | with_reducible assumption | with_reducible refine Later.ofdrew ?_ | with_reducible refine Later.ofdrewN ?_ | with_reducible refine Later.setCell ?_ ?_ _ | with_reducible refine Later.alloc ?_ _ | with_reducible refine Later.drewN ?_ _ | with_reducible refine Later.drew ?_ | (with_reducible refine Later.trans ?_ (by assumption)) | (simp only [World.size_setCell, World.size_alloc, World.heap_drewN]; omega) | (simp; done) | (simp; omega))⟩
    · have hj0 : (j != 0) = true := by simpa using hj
      go_wp2_with (go_at_call 11; refine (HA.out _).mono ?_; rintro e w9 ⟨rfl, hb9⟩)
      go_ret
      exact ⟨rfl, by repeat (first | with_reducible exact Later.refl _ | with_reducible assumption | with_reducible refine Later.ofdrew ?_ | with_reducible refine Later.ofdrewN ?_ | with_reducible refine Later.setCell ?_ ?_ _ | with_reducible refine Later.alloc ?_ _ | with_reducible refine Later.drewN ?_ _ | with_reducible refine Later.drew ?_ | (with_reducible refine Later.trans ?_ (by assumption)) | (simp only [World.size_setCell, World.size_alloc, World.heap_drewN]; omega) | (simp; done) | (simp; omega))⟩

set_option maxRecDepth 100000 in
set_option maxHeartbeats 2000000 in
theorem ranks_bad (an ad bn bd cn cd e f : Int) (w : World) (H1 : Hid (∀ w, Calls Try.prog 14 #[.agg #[.int .i64 an, .int .i64 ad], .agg #[.int .i64 bn, .int .i64 bd]] w fun e' w' => e' = .returned (.tuple #[.int .i64 0, .int .i64 e]) ∧ Later w w')) (H2 : Hid (∀ w, Calls Try.prog 14 #[.agg #[.int .i64 bn, .int .i64 bd], .agg #[.int .i64 an, .int .i64 ad]] w fun e' w' => e' = .returned (.tuple #[.int .i64 0, .int .i64 f]) ∧ Later w w')) (he : (e != 0) = true) (hf : (f != 0) = true) :
    Calls Try.prog 4 #[.agg #[.int .i64 an, .int .i64 ad], .agg #[.int .i64 bn, .int .i64 bd], .agg #[.int .i64 cn, .int .i64 cd]] w fun e w' => e = .returned (.bool true) ∧ Later w w' := by
  have HA := Lib.hid awake_any
  go_enter Try.func4, Try.ntmps4
  go_wp2_with fail
  refine (H1.out _).mono ?_
  rintro e w1 ⟨rfl, hb1⟩
  obtain ⟨c0, f0, c1, f1, c2, f2, z1⟩ := own3 hb1
  have y0 : w.heap.size < w1.heap.size := by omega
  have y1 : w.heap.size + 1 < w1.heap.size := by omega
  have y2 : w.heap.size + 1 + 1 < w1.heap.size := by omega
  go_wp2_with fail
  refine (H2.out _).mono ?_
  rintro e w2 ⟨rfl, hb2⟩
  obtain ⟨hc, hf⟩ := bcell hb2; have hz := Later.size hb2; (try simp only [World.size_alloc, World.size_drew, World.heap_drewN, World.size_setCell] at hz); (repeat (first | (with_reducible refine use_of (Later.undrew hb2) ?_; intro hb2) | (with_reducible refine use_of (Later.undrewN hb2) ?_; intro hb2) | (with_reducible refine use_of (Later.unalloc hb2) ?_; intro hb2))); obtain ⟨hc, hf⟩ := bcell hb2; (try (refine use_of (fun i => (hc _ i (by omega)).trans (c0 i)) ?_; clear c0; intro c0)); (try (refine use_of (fun i => (hc _ i (by omega)).trans (c1 i)) ?_; clear c1; intro c1)); (try (refine use_of (fun i => (hc _ i (by omega)).trans (c2 i)) ?_; clear c2; intro c2)); clear hc hf; (try clear hc hf)
  have y0 : w.heap.size < w2.heap.size := by omega
  have y1 : w.heap.size + 1 < w2.heap.size := by omega
  have y2 : w.heap.size + 1 + 1 < w2.heap.size := by omega
  go_wp2_with (go_at_call 11; refine (HA.out _).mono ?_; rintro e w9 ⟨rfl, hb9⟩)
  go_ret
  exact ⟨rfl, by repeat (first | with_reducible exact Later.refl _ | with_reducible assumption | with_reducible refine Later.ofdrew ?_ | with_reducible refine Later.ofdrewN ?_ | with_reducible refine Later.setCell ?_ ?_ _ | with_reducible refine Later.alloc ?_ _ | with_reducible refine Later.drewN ?_ _ | with_reducible refine Later.drew ?_ | (with_reducible refine Later.trans ?_ (by assumption)) | (simp only [World.size_setCell, World.size_alloc, World.heap_drewN]; omega) | (simp; done) | (simp; omega))⟩

end Go.Proofs.Ytnnjjaknkiklpaa
