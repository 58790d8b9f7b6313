/- the law on sums and products of ratios: its walk -/
import Derived.Test.YtnnjjaknkiklpaaRatAwake
namespace Go.Proofs.Ytnnjjaknkiklpaa
open Go.RowKit

/-- What is known behind a test of two. -/
def CutB (g bn : Int) (W wx : World) (s : Value) : Prop := ∃ B : Bool, s = .bool B ∧ (B = true → Hid (g = 0 ∧ bn ≠ 0)) ∧ Later W wx

set_option maxRecDepth 100000 in
set_option maxHeartbeats 8000000 in
theorem laws_walk (an ad bn bd cn cd ca cb sN sD e tN tD f pN pD g qN qD h xN xD i yN yD j zN zD k uN uD l vN vD m lN lD n rN' rD' o : Int) (w : World)
    (H1 : Hid (∀ w, Calls Try.prog 17 #[.agg #[.int .i64 an, .int .i64 ad], .agg #[.int .i64 bn, .int .i64 bd]] w fun e' w' => e' = .returned (.tuple #[.agg #[.int .i64 sN, .int .i64 sD], .int .i64 e]) ∧ Later w w'))
    (H2 : Hid (∀ w, Calls Try.prog 17 #[.agg #[.int .i64 bn, .int .i64 bd], .agg #[.int .i64 an, .int .i64 ad]] w fun e' w' => e' = .returned (.tuple #[.agg #[.int .i64 tN, .int .i64 tD], .int .i64 f]) ∧ Later w w'))
    (H3 : Hid (∀ w, Calls Try.prog 23 #[.agg #[.int .i64 an, .int .i64 ad], .agg #[.int .i64 bn, .int .i64 bd]] w fun e' w' => e' = .returned (.tuple #[.agg #[.int .i64 pN, .int .i64 pD], .int .i64 g]) ∧ Later w w'))
    (H4 : Hid (∀ w, Calls Try.prog 23 #[.agg #[.int .i64 bn, .int .i64 bd], .agg #[.int .i64 an, .int .i64 ad]] w fun e' w' => e' = .returned (.tuple #[.agg #[.int .i64 qN, .int .i64 qD], .int .i64 h]) ∧ Later w w'))
    (H5 : Hid (∀ w, Calls Try.prog 9 #[.agg #[.int .i64 an, .int .i64 ad]] w fun e' w' => e' = .returned (.int .i64 ca) ∧ Later w w')) (H6 : Hid (∀ w, Calls Try.prog 9 #[.agg #[.int .i64 bn, .int .i64 bd]] w fun e' w' => e' = .returned (.int .i64 cb) ∧ Later w w'))
    (HT : Hid (ca = 0 → cb = 0 → sN = tN ∧ sD = tD ∧ e = f ∧ pN = qN ∧ pD = qD ∧ g = h))
    (H7 : Hid (e = 0 → (Hid (∀ w, Calls Try.prog 16 #[.agg #[.int .i64 sN, .int .i64 sD], .agg #[.int .i64 bn, .int .i64 bd]] w fun e' w' => e' = .returned (.tuple #[.agg #[.int .i64 an, .int .i64 ad], .int .i64 0]) ∧ Later w w')) ∧ (Hid (∀ w, Calls Try.prog 9 #[.agg #[.int .i64 sN, .int .i64 sD]] w fun e' w' => e' = .returned (.int .i64 0) ∧ Later w w'))))
    (H8 : Hid (g = 0 → bn ≠ 0 → (Hid (∀ w, Calls Try.prog 24 #[.agg #[.int .i64 pN, .int .i64 pD], .agg #[.int .i64 bn, .int .i64 bd]] w fun e' w' => e' = .returned (.tuple #[.agg #[.int .i64 an, .int .i64 ad], .int .i64 0]) ∧ Later w w')) ∧ (Hid (∀ w, Calls Try.prog 9 #[.agg #[.int .i64 pN, .int .i64 pD]] w fun e' w' => e' = .returned (.int .i64 0) ∧ Later w w'))))
    (H9 : Hid (∀ w, Calls Try.prog 23 #[.agg #[.int .i64 sN, .int .i64 sD], .agg #[.int .i64 cn, .int .i64 cd]] w fun e' w' => e' = .returned (.tuple #[.agg #[.int .i64 xN, .int .i64 xD], .int .i64 i]) ∧ Later w w'))
    (H10 : Hid (∀ w, Calls Try.prog 23 #[.agg #[.int .i64 an, .int .i64 ad], .agg #[.int .i64 cn, .int .i64 cd]] w fun e' w' => e' = .returned (.tuple #[.agg #[.int .i64 yN, .int .i64 yD], .int .i64 j]) ∧ Later w w'))
    (H11 : Hid (∀ w, Calls Try.prog 23 #[.agg #[.int .i64 bn, .int .i64 bd], .agg #[.int .i64 cn, .int .i64 cd]] w fun e' w' => e' = .returned (.tuple #[.agg #[.int .i64 zN, .int .i64 zD], .int .i64 k]) ∧ Later w w'))
    (H12 : Hid (∀ w, Calls Try.prog 17 #[.agg #[.int .i64 yN, .int .i64 yD], .agg #[.int .i64 zN, .int .i64 zD]] w fun e' w' => e' = .returned (.tuple #[.agg #[.int .i64 uN, .int .i64 uD], .int .i64 l]) ∧ Later w w'))
    (HX : Hid (e = 0 → i = 0 → j = 0 → k = 0 → l = 0 → xN = uN ∧ xD = uD))
    (H13 : Hid (∀ w, Calls Try.prog 17 #[.agg #[.int .i64 bn, .int .i64 bd], .agg #[.int .i64 cn, .int .i64 cd]] w fun e' w' => e' = .returned (.tuple #[.agg #[.int .i64 vN, .int .i64 vD], .int .i64 m]) ∧ Later w w'))
    (H14 : Hid (∀ w, Calls Try.prog 17 #[.agg #[.int .i64 sN, .int .i64 sD], .agg #[.int .i64 cn, .int .i64 cd]] w fun e' w' => e' = .returned (.tuple #[.agg #[.int .i64 lN, .int .i64 lD], .int .i64 n]) ∧ Later w w'))
    (H15 : Hid (∀ w, Calls Try.prog 17 #[.agg #[.int .i64 an, .int .i64 ad], .agg #[.int .i64 vN, .int .i64 vD]] w fun e' w' => e' = .returned (.tuple #[.agg #[.int .i64 rN', .int .i64 rD'], .int .i64 o]) ∧ Later w w'))
    (HL : Hid (e = 0 → m = 0 → n = 0 → o = 0 → lN = rN' ∧ lD = rD')) :
    Calls Try.prog 7 #[.agg #[.int .i64 an, .int .i64 ad], .agg #[.int .i64 bn, .int .i64 bd], .agg #[.int .i64 cn, .int .i64 cd]] w fun e w' => e = .returned (.bool true) ∧ Later w w' := by
  have HA := Lib.hid awake_any
  go_enter Try.func7, Try.ntmps7
  go_wp2_with fail
  refine (H1.out _).mono ?_
  rintro e' w1 ⟨rfl, hb1⟩
  obtain ⟨c0, f0, c1, f1, c2, f2, z1⟩ := own3 hb1
  clear f0 f1 f2
  have ys : w.heap.size < w1.heap.size ∧ w.heap.size + 1 < w1.heap.size ∧ w.heap.size + 1 + 1 < w1.heap.size := by omega
  obtain ⟨y0, y1, y2⟩ := ys
  go_wp2_with fail
  refine (H2.out _).mono ?_
  rintro e' w2 ⟨rfl, hb2⟩
  obtain ⟨hc, hf⟩ := bcell hb2; have hz := Later.size hb2; (try simp only [World.size_alloc, World.size_drew, World.heap_drewN, World.size_setCell] at hz); (first | (with_reducible refine use_own1 hb2 ?_; intro b1 ff zz) | (with_reducible refine use_own1 (Later.undrew hb2) ?_; intro b1 ff zz) | skip); (repeat (first | (with_reducible refine use_of (Later.undrew hb2) ?_; intro hb2) | (with_reducible refine use_of (Later.undrewN hb2) ?_; intro hb2) | (with_reducible refine use_of (Later.unalloc hb2) ?_; intro hb2))); obtain ⟨hc, hf⟩ := bcell hb2; (try (refine use_of (fun i => (hc _ i (by omega)).trans (c0 i)) ?_; clear c0; intro c0)); (try (refine use_of (fun i => (hc _ i (by omega)).trans (c1 i)) ?_; clear c1; intro c1)); (try (refine use_of (fun i => (hc _ i (by omega)).trans (c2 i)) ?_; clear c2; intro c2)); clear hc hf; (try clear hc hf)
  clear ff
  have ys : w.heap.size < w2.heap.size ∧ w.heap.size + 1 < w2.heap.size ∧ w.heap.size + 1 + 1 < w2.heap.size ∧ w1.heap.size < w2.heap.size := by omega
  obtain ⟨y0, y1, y2, y3⟩ := ys
  go_wp2_with fail
  refine (H3.out _).mono ?_
  rintro e' w3 ⟨rfl, hb3⟩
  obtain ⟨hc, hf⟩ := bcell hb3; have hz := Later.size hb3; (try simp only [World.size_alloc, World.size_drew, World.heap_drewN, World.size_setCell] at hz); (first | (with_reducible refine use_own1 hb3 ?_; intro b2 ff zz) | (with_reducible refine use_own1 (Later.undrew hb3) ?_; intro b2 ff zz) | skip); (repeat (first | (with_reducible refine use_of (Later.undrew hb3) ?_; intro hb3) | (with_reducible refine use_of (Later.undrewN hb3) ?_; intro hb3) | (with_reducible refine use_of (Later.unalloc hb3) ?_; intro hb3))); obtain ⟨hc, hf⟩ := bcell hb3; (try (refine use_of (fun i => (hc _ i (by omega)).trans (c0 i)) ?_; clear c0; intro c0)); (try (refine use_of (fun i => (hc _ i (by omega)).trans (c1 i)) ?_; clear c1; intro c1)); (try (refine use_of (fun i => (hc _ i (by omega)).trans (c2 i)) ?_; clear c2; intro c2)); (try (refine use_of (fun i => (hc _ i (by omega)).trans (b1 i)) ?_; clear b1; intro b1)); clear hc hf; (try clear hc hf)
  clear ff
  have ys : w.heap.size < w3.heap.size ∧ w.heap.size + 1 < w3.heap.size ∧ w.heap.size + 1 + 1 < w3.heap.size ∧ w1.heap.size < w3.heap.size ∧ w2.heap.size < w3.heap.size := by omega
  obtain ⟨y0, y1, y2, y3, y4⟩ := ys
  go_wp2_with fail
  refine (H4.out _).mono ?_
  rintro e' w4 ⟨rfl, hb4⟩
  obtain ⟨hc, hf⟩ := bcell hb4; have hz := Later.size hb4; (try simp only [World.size_alloc, World.size_drew, World.heap_drewN, World.size_setCell] at hz); (first | (with_reducible refine use_own1 hb4 ?_; intro b3 ff zz) | (with_reducible refine use_own1 (Later.undrew hb4) ?_; intro b3 ff zz) | skip); (repeat (first | (with_reducible refine use_of (Later.undrew hb4) ?_; intro hb4) | (with_reducible refine use_of (Later.undrewN hb4) ?_; intro hb4) | (with_reducible refine use_of (Later.unalloc hb4) ?_; intro hb4))); obtain ⟨hc, hf⟩ := bcell hb4; (try (refine use_of (fun i => (hc _ i (by omega)).trans (c0 i)) ?_; clear c0; intro c0)); (try (refine use_of (fun i => (hc _ i (by omega)).trans (c1 i)) ?_; clear c1; intro c1)); (try (refine use_of (fun i => (hc _ i (by omega)).trans (c2 i)) ?_; clear c2; intro c2)); (try (refine use_of (fun i => (hc _ i (by omega)).trans (b1 i)) ?_; clear b1; intro b1)); (try (refine use_of (fun i => (hc _ i (by omega)).trans (b2 i)) ?_; clear b2; intro b2)); clear hc hf; (try clear hc hf)
  clear ff
  have ys : w.heap.size < w4.heap.size ∧ w.heap.size + 1 < w4.heap.size ∧ w.heap.size + 1 + 1 < w4.heap.size ∧ w1.heap.size < w4.heap.size ∧ w2.heap.size < w4.heap.size ∧ w3.heap.size < w4.heap.size := by omega
  obtain ⟨y0, y1, y2, y3, y4, y5⟩ := ys
  go_upto_region 5 with fail
  go_cut [84] (fun s84 wx => s84 = .bool false ∧ Later (w4.alloc (.cells #[.int .i64 qN, .int .i64 qD] 23)) wx)
  case first => as_aux_lemma =>
    by_cases h1 : ca = 0
    · by_cases h2 : cb = 0
      · obtain ⟨rfl, rfl, rfl, rfl, rfl, rfl⟩ := HT.out h1 h2
        subst h1
        subst h2
        go_wp2_with fail
        refine (H5.out _).mono ?_
        rintro e' w5 ⟨rfl, hb5⟩
        obtain ⟨hc, hf⟩ := bcell hb5; have hz := Later.size hb5; (try simp only [World.size_alloc, World.size_drew, World.heap_drewN, World.size_setCell] at hz); (first | (with_reducible refine use_own1 hb5 ?_; intro b4 ff zz) | (with_reducible refine use_own1 (Later.undrew hb5) ?_; intro b4 ff zz) | skip); (repeat (first | (with_reducible refine use_of (Later.undrew hb5) ?_; intro hb5) | (with_reducible refine use_of (Later.undrewN hb5) ?_; intro hb5) | (with_reducible refine use_of (Later.unalloc hb5) ?_; intro hb5))); obtain ⟨hc, hf⟩ := bcell hb5; (try (refine use_of (fun i => (hc _ i (by omega)).trans (c0 i)) ?_; clear c0; intro c0)); (try (refine use_of (fun i => (hc _ i (by omega)).trans (c1 i)) ?_; clear c1; intro c1)); (try (refine use_of (fun i => (hc _ i (by omega)).trans (c2 i)) ?_; clear c2; intro c2)); (try (refine use_of (fun i => (hc _ i (by omega)).trans (b1 i)) ?_; clear b1; intro b1)); (try (refine use_of (fun i => (hc _ i (by omega)).trans (b2 i)) ?_; clear b2; intro b2)); (try (refine use_of (fun i => (hc _ i (by omega)).trans (b3 i)) ?_; clear b3; intro b3)); clear hc hf; (try clear hc hf)
        clear ff
        have ys : w.heap.size < w5.heap.size ∧ w.heap.size + 1 < w5.heap.size ∧ w.heap.size + 1 + 1 < w5.heap.size ∧ w1.heap.size < w5.heap.size ∧ w2.heap.size < w5.heap.size ∧ w3.heap.size < w5.heap.size ∧ w4.heap.size < w5.heap.size := by omega
        obtain ⟨y0, y1, y2, y3, y4, y5, y6⟩ := ys
        go_wp2_with fail
        refine (H6.out _).mono ?_
        rintro e' w6 ⟨rfl, hb6⟩
        obtain ⟨hc, hf⟩ := bcell hb6; have hz := Later.size hb6; (try simp only [World.size_alloc, World.size_drew, World.heap_drewN, World.size_setCell] at hz); (repeat (first | (with_reducible refine use_of (Later.undrew hb6) ?_; intro hb6) | (with_reducible refine use_of (Later.undrewN hb6) ?_; intro hb6) | (with_reducible refine use_of (Later.unalloc hb6) ?_; intro hb6))); obtain ⟨hc, hf⟩ := bcell hb6; (try (refine use_of (fun i => (hc _ i (by omega)).trans (c0 i)) ?_; clear c0; intro c0)); (try (refine use_of (fun i => (hc _ i (by omega)).trans (c1 i)) ?_; clear c1; intro c1)); (try (refine use_of (fun i => (hc _ i (by omega)).trans (c2 i)) ?_; clear c2; intro c2)); (try (refine use_of (fun i => (hc _ i (by omega)).trans (b1 i)) ?_; clear b1; intro b1)); (try (refine use_of (fun i => (hc _ i (by omega)).trans (b2 i)) ?_; clear b2; intro b2)); (try (refine use_of (fun i => (hc _ i (by omega)).trans (b3 i)) ?_; clear b3; intro b3)); (try (refine use_of (fun i => (hc _ i (by omega)).trans (b4 i)) ?_; clear b4; intro b4)); clear hc hf; (try clear hc hf)
        have ys : w.heap.size < w6.heap.size ∧ w.heap.size + 1 < w6.heap.size ∧ w.heap.size + 1 + 1 < w6.heap.size ∧ w1.heap.size < w6.heap.size ∧ w2.heap.size < w6.heap.size ∧ w3.heap.size < w6.heap.size ∧ w4.heap.size < w6.heap.size := by omega
        obtain ⟨y0, y1, y2, y3, y4, y5, y6⟩ := ys
        go_wp2_with fail
        go_meet
        exact ⟨rfl, by repeat (first | with_reducible exact Later.refl _ | with_reducible assumption | with_reducible refine Later.ofdrew ?_ | with_reducible refine Later.ofdrewN ?_ | with_reducible refine Later.setCell ?_ ?_ _ | with_reducible refine Later.alloc ?_ _ | with_reducible refine Later.drewN ?_ _ | with_reducible refine Later.drew ?_ | (with_reducible refine Later.trans ?_ (by assumption)) | (simp only [World.size_setCell, World.size_alloc, World.heap_drewN]; omega) | (simp; done) | (simp; omega))⟩
      · have h2' : (cb == 0) = false := by simpa using h2
        subst h1
        go_wp2_with fail
        refine (H5.out _).mono ?_
        rintro e' w5 ⟨rfl, hb5⟩
        obtain ⟨hc, hf⟩ := bcell hb5; have hz := Later.size hb5; (try simp only [World.size_alloc, World.size_drew, World.heap_drewN, World.size_setCell] at hz); (first | (with_reducible refine use_own1 hb5 ?_; intro b4 ff zz) | (with_reducible refine use_own1 (Later.undrew hb5) ?_; intro b4 ff zz) | skip); (repeat (first | (with_reducible refine use_of (Later.undrew hb5) ?_; intro hb5) | (with_reducible refine use_of (Later.undrewN hb5) ?_; intro hb5) | (with_reducible refine use_of (Later.unalloc hb5) ?_; intro hb5))); obtain ⟨hc, hf⟩ := bcell hb5; (try (refine use_of (fun i => (hc _ i (by omega)).trans (c0 i)) ?_; clear c0; intro c0)); (try (refine use_of (fun i => (hc _ i (by omega)).trans (c1 i)) ?_; clear c1; intro c1)); (try (refine use_of (fun i => (hc _ i (by omega)).trans (c2 i)) ?_; clear c2; intro c2)); (try (refine use_of (fun i => (hc _ i (by omega)).trans (b1 i)) ?_; clear b1; intro b1)); (try (refine use_of (fun i => (hc _ i (by omega)).trans (b2 i)) ?_; clear b2; intro b2)); (try (refine use_of (fun i => (hc _ i (by omega)).trans (b3 i)) ?_; clear b3; intro b3)); clear hc hf; (try clear hc hf)
        clear ff
        have ys : w.heap.size < w5.heap.size ∧ w.heap.size + 1 < w5.heap.size ∧ w.heap.size + 1 + 1 < w5.heap.size ∧ w1.heap.size < w5.heap.size ∧ w2.heap.size < w5.heap.size ∧ w3.heap.size < w5.heap.size ∧ w4.heap.size < w5.heap.size := by omega
        obtain ⟨y0, y1, y2, y3, y4, y5, y6⟩ := ys
        go_wp2_with fail
        refine (H6.out _).mono ?_
        rintro e' w6 ⟨rfl, hb6⟩
        obtain ⟨hc, hf⟩ := bcell hb6; have hz := Later.size hb6; (try simp only [World.size_alloc, World.size_drew, World.heap_drewN, World.size_setCell] at hz); (repeat (first | (with_reducible refine use_of (Later.undrew hb6) ?_; intro hb6) | (with_reducible refine use_of (Later.undrewN hb6) ?_; intro hb6) | (with_reducible refine use_of (Later.unalloc hb6) ?_; intro hb6))); obtain ⟨hc, hf⟩ := bcell hb6; (try (refine use_of (fun i => (hc _ i (by omega)).trans (c0 i)) ?_; clear c0; intro c0)); (try (refine use_of (fun i => (hc _ i (by omega)).trans (c1 i)) ?_; clear c1; intro c1)); (try (refine use_of (fun i => (hc _ i (by omega)).trans (c2 i)) ?_; clear c2; intro c2)); (try (refine use_of (fun i => (hc _ i (by omega)).trans (b1 i)) ?_; clear b1; intro b1)); (try (refine use_of (fun i => (hc _ i (by omega)).trans (b2 i)) ?_; clear b2; intro b2)); (try (refine use_of (fun i => (hc _ i (by omega)).trans (b3 i)) ?_; clear b3; intro b3)); (try (refine use_of (fun i => (hc _ i (by omega)).trans (b4 i)) ?_; clear b4; intro b4)); clear hc hf; (try clear hc hf)
        have ys : w.heap.size < w6.heap.size ∧ w.heap.size + 1 < w6.heap.size ∧ w.heap.size + 1 + 1 < w6.heap.size ∧ w1.heap.size < w6.heap.size ∧ w2.heap.size < w6.heap.size ∧ w3.heap.size < w6.heap.size ∧ w4.heap.size < w6.heap.size := by omega
        obtain ⟨y0, y1, y2, y3, y4, y5, y6⟩ := ys
        go_wp2_with fail
        go_meet
        exact ⟨rfl, by repeat (first | with_reducible exact Later.refl _ | with_reducible assumption | with_reducible refine Later.ofdrew ?_ | with_reducible refine Later.ofdrewN ?_ | with_reducible refine Later.setCell ?_ ?_ _ | with_reducible refine Later.alloc ?_ _ | with_reducible refine Later.drewN ?_ _ | with_reducible refine Later.drew ?_ | (with_reducible refine Later.trans ?_ (by assumption)) | (simp only [World.size_setCell, World.size_alloc, World.heap_drewN]; omega) | (simp; done) | (simp; omega))⟩
    · have h1' : (ca == 0) = false := by simpa using h1
      go_wp2_with fail
      refine (H5.out _).mono ?_
      rintro e' w5 ⟨rfl, hb5⟩
      obtain ⟨hc, hf⟩ := bcell hb5; have hz := Later.size hb5; (try simp only [World.size_alloc, World.size_drew, World.heap_drewN, World.size_setCell] at hz); (first | (with_reducible refine use_own1 hb5 ?_; intro b4 ff zz) | (with_reducible refine use_own1 (Later.undrew hb5) ?_; intro b4 ff zz) | skip); (repeat (first | (with_reducible refine use_of (Later.undrew hb5) ?_; intro hb5) | (with_reducible refine use_of (Later.undrewN hb5) ?_; intro hb5) | (with_reducible refine use_of (Later.unalloc hb5) ?_; intro hb5))); obtain ⟨hc, hf⟩ := bcell hb5; (try (refine use_of (fun i => (hc _ i (by omega)).trans (c0 i)) ?_; clear c0; intro c0)); (try (refine use_of (fun i => (hc _ i (by omega)).trans (c1 i)) ?_; clear c1; intro c1)); (try (refine use_of (fun i => (hc _ i (by omega)).trans (c2 i)) ?_; clear c2; intro c2)); (try (refine use_of (fun i => (hc _ i (by omega)).trans (b1 i)) ?_; clear b1; intro b1)); (try (refine use_of (fun i => (hc _ i (by omega)).trans (b2 i)) ?_; clear b2; intro b2)); (try (refine use_of (fun i => (hc _ i (by omega)).trans (b3 i)) ?_; clear b3; intro b3)); clear hc hf; (try clear hc hf)
      clear ff
      have ys : w.heap.size < w5.heap.size ∧ w.heap.size + 1 < w5.heap.size ∧ w.heap.size + 1 + 1 < w5.heap.size ∧ w1.heap.size < w5.heap.size ∧ w2.heap.size < w5.heap.size ∧ w3.heap.size < w5.heap.size ∧ w4.heap.size < w5.heap.size := by omega
      obtain ⟨y0, y1, y2, y3, y4, y5, y6⟩ := ys
      go_wp2_with fail
      go_meet
      exact ⟨rfl, by repeat (first | with_reducible exact Later.refl _ | with_reducible assumption | with_reducible refine Later.ofdrew ?_ | with_reducible refine Later.ofdrewN ?_ | with_reducible refine Later.setCell ?_ ?_ _ | with_reducible refine Later.alloc ?_ _ | with_reducible refine Later.drewN ?_ _ | with_reducible refine Later.drew ?_ | (with_reducible refine Later.trans ?_ (by assumption)) | (simp only [World.size_setCell, World.size_alloc, World.heap_drewN]; omega) | (simp; done) | (simp; omega))⟩
  case rest =>
    obtain ⟨rfl, hl⟩ := hcut
    obtain ⟨hc, hf⟩ := bcell hl; have hz := Later.size hl; (try simp only [World.size_alloc, World.size_drew, World.heap_drewN, World.size_setCell] at hz); (first | (with_reducible refine use_own1 hl ?_; intro b4 ff zz) | (with_reducible refine use_own1 (Later.undrew hl) ?_; intro b4 ff zz) | skip); (repeat (first | (with_reducible refine use_of (Later.undrew hl) ?_; intro hl) | (with_reducible refine use_of (Later.undrewN hl) ?_; intro hl) | (with_reducible refine use_of (Later.unalloc hl) ?_; intro hl))); obtain ⟨hc, hf⟩ := bcell hl; (try (refine use_of (fun i => (hc _ i (by omega)).trans (c0 i)) ?_; clear c0; intro c0)); (try (refine use_of (fun i => (hc _ i (by omega)).trans (c1 i)) ?_; clear c1; intro c1)); (try (refine use_of (fun i => (hc _ i (by omega)).trans (c2 i)) ?_; clear c2; intro c2)); (try (refine use_of (fun i => (hc _ i (by omega)).trans (b1 i)) ?_; clear b1; intro b1)); (try (refine use_of (fun i => (hc _ i (by omega)).trans (b2 i)) ?_; clear b2; intro b2)); (try (refine use_of (fun i => (hc _ i (by omega)).trans (b3 i)) ?_; clear b3; intro b3)); clear hc hf; (try clear hc hf)
    clear ff
    have ys : w.heap.size < wc.heap.size ∧ w.heap.size + 1 < wc.heap.size ∧ w.heap.size + 1 + 1 < wc.heap.size ∧ w1.heap.size < wc.heap.size ∧ w2.heap.size < wc.heap.size ∧ w3.heap.size < wc.heap.size ∧ w4.heap.size < wc.heap.size := by omega
    obtain ⟨y0, y1, y2, y3, y4, y5, y6⟩ := ys
    go_upto_if 86 with fail
    go_cut [] (fun wx => Later wc wx)
    case first => as_aux_lemma =>
      by_cases he : e = 0
      · obtain ⟨HS, HC⟩ := H7.out he
        subst he
        go_wp2_with fail
        refine (HS.out _).mono ?_
        rintro e' w5 ⟨rfl, hb5⟩
        obtain ⟨hc, hf⟩ := bcell hb5; have hz := Later.size hb5; (try simp only [World.size_alloc, World.size_drew, World.heap_drewN, World.size_setCell] at hz); (repeat (first | (with_reducible refine use_of (Later.undrew hb5) ?_; intro hb5) | (with_reducible refine use_of (Later.undrewN hb5) ?_; intro hb5) | (with_reducible refine use_of (Later.unalloc hb5) ?_; intro hb5))); obtain ⟨hc, hf⟩ := bcell hb5; (try (refine use_of (fun i => (hc _ i (by omega)).trans (c0 i)) ?_; clear c0; intro c0)); (try (refine use_of (fun i => (hc _ i (by omega)).trans (c1 i)) ?_; clear c1; intro c1)); (try (refine use_of (fun i => (hc _ i (by omega)).trans (c2 i)) ?_; clear c2; intro c2)); (try (refine use_of (fun i => (hc _ i (by omega)).trans (b1 i)) ?_; clear b1; intro b1)); (try (refine use_of (fun i => (hc _ i (by omega)).trans (b2 i)) ?_; clear b2; intro b2)); (try (refine use_of (fun i => (hc _ i (by omega)).trans (b3 i)) ?_; clear b3; intro b3)); (try (refine use_of (fun i => (hc _ i (by omega)).trans (b4 i)) ?_; clear b4; intro b4)); clear hc hf; (try clear hc hf)
        have ys : w.heap.size < w5.heap.size ∧ w.heap.size + 1 < w5.heap.size ∧ w.heap.size + 1 + 1 < w5.heap.size ∧ w1.heap.size < w5.heap.size ∧ w2.heap.size < w5.heap.size ∧ w3.heap.size < w5.heap.size ∧ w4.heap.size < w5.heap.size := by omega
        obtain ⟨y0, y1, y2, y3, y4, y5, y6⟩ := ys
        go_wp2_with fail
        refine (HC.out _).mono ?_
        rintro e' w6 ⟨rfl, hb6⟩
        obtain ⟨hc, hf⟩ := bcell hb6; have hz := Later.size hb6; (try simp only [World.size_alloc, World.size_drew, World.heap_drewN, World.size_setCell] at hz); (first | (with_reducible refine use_own1 hb6 ?_; intro b5 ff zz) | (with_reducible refine use_own1 (Later.undrew hb6) ?_; intro b5 ff zz) | skip); (repeat (first | (with_reducible refine use_of (Later.undrew hb6) ?_; intro hb6) | (with_reducible refine use_of (Later.undrewN hb6) ?_; intro hb6) | (with_reducible refine use_of (Later.unalloc hb6) ?_; intro hb6))); obtain ⟨hc, hf⟩ := bcell hb6; (try (refine use_of (fun i => (hc _ i (by omega)).trans (c0 i)) ?_; clear c0; intro c0)); (try (refine use_of (fun i => (hc _ i (by omega)).trans (c1 i)) ?_; clear c1; intro c1)); (try (refine use_of (fun i => (hc _ i (by omega)).trans (c2 i)) ?_; clear c2; intro c2)); (try (refine use_of (fun i => (hc _ i (by omega)).trans (b1 i)) ?_; clear b1; intro b1)); (try (refine use_of (fun i => (hc _ i (by omega)).trans (b2 i)) ?_; clear b2; intro b2)); (try (refine use_of (fun i => (hc _ i (by omega)).trans (b3 i)) ?_; clear b3; intro b3)); (try (refine use_of (fun i => (hc _ i (by omega)).trans (b4 i)) ?_; clear b4; intro b4)); clear hc hf; (try clear hc hf)
        clear ff
        have ys : w.heap.size < w6.heap.size ∧ w.heap.size + 1 < w6.heap.size ∧ w.heap.size + 1 + 1 < w6.heap.size ∧ w1.heap.size < w6.heap.size ∧ w2.heap.size < w6.heap.size ∧ w3.heap.size < w6.heap.size ∧ w4.heap.size < w6.heap.size ∧ w5.heap.size < w6.heap.size := by omega
        obtain ⟨y0, y1, y2, y3, y4, y5, y6, y7⟩ := ys
        go_wp2_with fail
        go_meet
        repeat (first | with_reducible exact Later.refl _ | with_reducible assumption | with_reducible refine Later.ofdrew ?_ | with_reducible refine Later.ofdrewN ?_ | with_reducible refine Later.setCell ?_ ?_ _ | with_reducible refine Later.alloc ?_ _ | with_reducible refine Later.drewN ?_ _ | with_reducible refine Later.drew ?_ | (with_reducible refine Later.trans ?_ (by assumption)) | (simp only [World.size_setCell, World.size_alloc, World.heap_drewN]; omega) | (simp; done) | (simp; omega))
      · have he' : (e == 0) = false := by simpa using he
        go_wp2_with fail
        go_meet
        repeat (first | with_reducible exact Later.refl _ | with_reducible assumption | with_reducible refine Later.ofdrew ?_ | with_reducible refine Later.ofdrewN ?_ | with_reducible refine Later.setCell ?_ ?_ _ | with_reducible refine Later.alloc ?_ _ | with_reducible refine Later.drewN ?_ _ | with_reducible refine Later.drew ?_ | (with_reducible refine Later.trans ?_ (by assumption)) | (simp only [World.size_setCell, World.size_alloc, World.heap_drewN]; omega) | (simp; done) | (simp; omega))
    case rest =>
      have hl := hcut
      obtain ⟨hc, hf⟩ := bcell hl; have hz := Later.size hl; (try simp only [World.size_alloc, World.size_drew, World.heap_drewN, World.size_setCell] at hz); (repeat (first | (with_reducible refine use_of (Later.undrew hl) ?_; intro hl) | (with_reducible refine use_of (Later.undrewN hl) ?_; intro hl) | (with_reducible refine use_of (Later.unalloc hl) ?_; intro hl))); obtain ⟨hc, hf⟩ := bcell hl; (try (refine use_of (fun i => (hc _ i (by omega)).trans (c0 i)) ?_; clear c0; intro c0)); (try (refine use_of (fun i => (hc _ i (by omega)).trans (c1 i)) ?_; clear c1; intro c1)); (try (refine use_of (fun i => (hc _ i (by omega)).trans (c2 i)) ?_; clear c2; intro c2)); (try (refine use_of (fun i => (hc _ i (by omega)).trans (b1 i)) ?_; clear b1; intro b1)); (try (refine use_of (fun i => (hc _ i (by omega)).trans (b2 i)) ?_; clear b2; intro b2)); (try (refine use_of (fun i => (hc _ i (by omega)).trans (b3 i)) ?_; clear b3; intro b3)); (try (refine use_of (fun i => (hc _ i (by omega)).trans (b4 i)) ?_; clear b4; intro b4)); clear hc hf; (try clear hc hf)
      have ys : w.heap.size < wc.heap.size ∧ w.heap.size + 1 < wc.heap.size ∧ w.heap.size + 1 + 1 < wc.heap.size ∧ w1.heap.size < wc.heap.size ∧ w2.heap.size < wc.heap.size ∧ w3.heap.size < wc.heap.size ∧ w4.heap.size < wc.heap.size := by omega
      obtain ⟨y0, y1, y2, y3, y4, y5, y6⟩ := ys
      go_upto_region 11 with fail
      go_cut [111] (fun s111 wx => CutB g bn wc wx s111)
      case first => as_aux_lemma =>
        by_cases hg : g = 0
        · by_cases hb : bn = 0
          · have hb' : (bn != 0) = false := by simpa using hb
            clear hb
            subst hg
            go_wp2_with fail
            go_meet
            exact ⟨_, rfl, fun h => by simp at h, by repeat (first | with_reducible exact Later.refl _ | with_reducible assumption | with_reducible refine Later.ofdrew ?_ | with_reducible refine Later.ofdrewN ?_ | with_reducible refine Later.setCell ?_ ?_ _ | with_reducible refine Later.alloc ?_ _ | with_reducible refine Later.drewN ?_ _ | with_reducible refine Later.drew ?_ | (with_reducible refine Later.trans ?_ (by assumption)) | (simp only [World.size_setCell, World.size_alloc, World.heap_drewN]; omega) | (simp; done) | (simp; omega))⟩
          · have hb' : (bn != 0) = true := by simpa using hb
            have HB := Lib.hid hb
            clear hb
            subst hg
            go_wp2_with fail
            go_meet
            exact ⟨_, rfl, fun _ => Lib.hid ⟨rfl, HB.out⟩, by repeat (first | with_reducible exact Later.refl _ | with_reducible assumption | with_reducible refine Later.ofdrew ?_ | with_reducible refine Later.ofdrewN ?_ | with_reducible refine Later.setCell ?_ ?_ _ | with_reducible refine Later.alloc ?_ _ | with_reducible refine Later.drewN ?_ _ | with_reducible refine Later.drew ?_ | (with_reducible refine Later.trans ?_ (by assumption)) | (simp only [World.size_setCell, World.size_alloc, World.heap_drewN]; omega) | (simp; done) | (simp; omega))⟩
        · have hg' : (g == 0) = false := by simpa using hg
          clear hg
          go_wp2_with fail
          go_meet
          exact ⟨_, rfl, fun h => by simp at h, by repeat (first | with_reducible exact Later.refl _ | with_reducible assumption | with_reducible refine Later.ofdrew ?_ | with_reducible refine Later.ofdrewN ?_ | with_reducible refine Later.setCell ?_ ?_ _ | with_reducible refine Later.alloc ?_ _ | with_reducible refine Later.drewN ?_ _ | with_reducible refine Later.drew ?_ | (with_reducible refine Later.trans ?_ (by assumption)) | (simp only [World.size_setCell, World.size_alloc, World.heap_drewN]; omega) | (simp; done) | (simp; omega))⟩
      case rest =>
        obtain ⟨B, rfl, hB, hl⟩ := hcut
        obtain ⟨hc, hf⟩ := bcell hl; have hz := Later.size hl; (try simp only [World.size_alloc, World.size_drew, World.heap_drewN, World.size_setCell] at hz); (repeat (first | (with_reducible refine use_of (Later.undrew hl) ?_; intro hl) | (with_reducible refine use_of (Later.undrewN hl) ?_; intro hl) | (with_reducible refine use_of (Later.unalloc hl) ?_; intro hl))); obtain ⟨hc, hf⟩ := bcell hl; (try (refine use_of (fun i => (hc _ i (by omega)).trans (c0 i)) ?_; clear c0; intro c0)); (try (refine use_of (fun i => (hc _ i (by omega)).trans (c1 i)) ?_; clear c1; intro c1)); (try (refine use_of (fun i => (hc _ i (by omega)).trans (c2 i)) ?_; clear c2; intro c2)); (try (refine use_of (fun i => (hc _ i (by omega)).trans (b1 i)) ?_; clear b1; intro b1)); (try (refine use_of (fun i => (hc _ i (by omega)).trans (b2 i)) ?_; clear b2; intro b2)); (try (refine use_of (fun i => (hc _ i (by omega)).trans (b3 i)) ?_; clear b3; intro b3)); (try (refine use_of (fun i => (hc _ i (by omega)).trans (b4 i)) ?_; clear b4; intro b4)); clear hc hf; (try clear hc hf)
        have ys : w.heap.size < wc.heap.size ∧ w.heap.size + 1 < wc.heap.size ∧ w.heap.size + 1 + 1 < wc.heap.size ∧ w1.heap.size < wc.heap.size ∧ w2.heap.size < wc.heap.size ∧ w3.heap.size < wc.heap.size ∧ w4.heap.size < wc.heap.size := by omega
        obtain ⟨y0, y1, y2, y3, y4, y5, y6⟩ := ys
        go_upto_if 111 with fail
        go_cut [] (fun wx => Later wc wx)
        case first => as_aux_lemma =>
          cases B
          · go_wp2_with fail
            go_meet
            repeat (first | with_reducible exact Later.refl _ | with_reducible assumption | with_reducible refine Later.ofdrew ?_ | with_reducible refine Later.ofdrewN ?_ | with_reducible refine Later.setCell ?_ ?_ _ | with_reducible refine Later.alloc ?_ _ | with_reducible refine Later.drewN ?_ _ | with_reducible refine Later.drew ?_ | (with_reducible refine Later.trans ?_ (by assumption)) | (simp only [World.size_setCell, World.size_alloc, World.heap_drewN]; omega) | (simp; done) | (simp; omega))
          · obtain ⟨HS, HC⟩ := H8.out (hB rfl).out.1 (hB rfl).out.2
            go_wp2_with fail
            refine (HS.out _).mono ?_
            rintro e' w5 ⟨rfl, hb5⟩
            obtain ⟨hc, hf⟩ := bcell hb5; have hz := Later.size hb5; (try simp only [World.size_alloc, World.size_drew, World.heap_drewN, World.size_setCell] at hz); (repeat (first | (with_reducible refine use_of (Later.undrew hb5) ?_; intro hb5) | (with_reducible refine use_of (Later.undrewN hb5) ?_; intro hb5) | (with_reducible refine use_of (Later.unalloc hb5) ?_; intro hb5))); obtain ⟨hc, hf⟩ := bcell hb5; (try (refine use_of (fun i => (hc _ i (by omega)).trans (c0 i)) ?_; clear c0; intro c0)); (try (refine use_of (fun i => (hc _ i (by omega)).trans (c1 i)) ?_; clear c1; intro c1)); (try (refine use_of (fun i => (hc _ i (by omega)).trans (c2 i)) ?_; clear c2; intro c2)); (try (refine use_of (fun i => (hc _ i (by omega)).trans (b1 i)) ?_; clear b1; intro b1)); (try (refine use_of (fun i => (hc _ i (by omega)).trans (b2 i)) ?_; clear b2; intro b2)); (try (refine use_of (fun i => (hc _ i (by omega)).trans (b3 i)) ?_; clear b3; intro b3)); (try (refine use_of (fun i => (hc _ i (by omega)).trans (b4 i)) ?_; clear b4; intro b4)); clear hc hf; (try clear hc hf)
            have ys : w.heap.size < w5.heap.size ∧ w.heap.size + 1 < w5.heap.size ∧ w.heap.size + 1 + 1 < w5.heap.size ∧ w1.heap.size < w5.heap.size ∧ w2.heap.size < w5.heap.size ∧ w3.heap.size < w5.heap.size ∧ w4.heap.size < w5.heap.size := by omega
            obtain ⟨y0, y1, y2, y3, y4, y5, y6⟩ := ys
            go_wp2_with fail
            refine (HC.out _).mono ?_
            rintro e' w6 ⟨rfl, hb6⟩
            obtain ⟨hc, hf⟩ := bcell hb6; have hz := Later.size hb6; (try simp only [World.size_alloc, World.size_drew, World.heap_drewN, World.size_setCell] at hz); (first | (with_reducible refine use_own1 hb6 ?_; intro b5 ff zz) | (with_reducible refine use_own1 (Later.undrew hb6) ?_; intro b5 ff zz) | skip); (repeat (first | (with_reducible refine use_of (Later.undrew hb6) ?_; intro hb6) | (with_reducible refine use_of (Later.undrewN hb6) ?_; intro hb6) | (with_reducible refine use_of (Later.unalloc hb6) ?_; intro hb6))); obtain ⟨hc, hf⟩ := bcell hb6; (try (refine use_of (fun i => (hc _ i (by omega)).trans (c0 i)) ?_; clear c0; intro c0)); (try (refine use_of (fun i => (hc _ i (by omega)).trans (c1 i)) ?_; clear c1; intro c1)); (try (refine use_of (fun i => (hc _ i (by omega)).trans (c2 i)) ?_; clear c2; intro c2)); (try (refine use_of (fun i => (hc _ i (by omega)).trans (b1 i)) ?_; clear b1; intro b1)); (try (refine use_of (fun i => (hc _ i (by omega)).trans (b2 i)) ?_; clear b2; intro b2)); (try (refine use_of (fun i => (hc _ i (by omega)).trans (b3 i)) ?_; clear b3; intro b3)); (try (refine use_of (fun i => (hc _ i (by omega)).trans (b4 i)) ?_; clear b4; intro b4)); clear hc hf; (try clear hc hf)
            clear ff
            have ys : w.heap.size < w6.heap.size ∧ w.heap.size + 1 < w6.heap.size ∧ w.heap.size + 1 + 1 < w6.heap.size ∧ w1.heap.size < w6.heap.size ∧ w2.heap.size < w6.heap.size ∧ w3.heap.size < w6.heap.size ∧ w4.heap.size < w6.heap.size ∧ w5.heap.size < w6.heap.size := by omega
            obtain ⟨y0, y1, y2, y3, y4, y5, y6, y7⟩ := ys
            go_wp2_with fail
            go_meet
            repeat (first | with_reducible exact Later.refl _ | with_reducible assumption | with_reducible refine Later.ofdrew ?_ | with_reducible refine Later.ofdrewN ?_ | with_reducible refine Later.setCell ?_ ?_ _ | with_reducible refine Later.alloc ?_ _ | with_reducible refine Later.drewN ?_ _ | with_reducible refine Later.drew ?_ | (with_reducible refine Later.trans ?_ (by assumption)) | (simp only [World.size_setCell, World.size_alloc, World.heap_drewN]; omega) | (simp; done) | (simp; omega))
        case rest =>
          have hl := hcut
          obtain ⟨hc, hf⟩ := bcell hl; have hz := Later.size hl; (try simp only [World.size_alloc, World.size_drew, World.heap_drewN, World.size_setCell] at hz); (repeat (first | (with_reducible refine use_of (Later.undrew hl) ?_; intro hl) | (with_reducible refine use_of (Later.undrewN hl) ?_; intro hl) | (with_reducible refine use_of (Later.unalloc hl) ?_; intro hl))); obtain ⟨hc, hf⟩ := bcell hl; (try (refine use_of (fun i => (hc _ i (by omega)).trans (c0 i)) ?_; clear c0; intro c0)); (try (refine use_of (fun i => (hc _ i (by omega)).trans (c1 i)) ?_; clear c1; intro c1)); (try (refine use_of (fun i => (hc _ i (by omega)).trans (c2 i)) ?_; clear c2; intro c2)); (try (refine use_of (fun i => (hc _ i (by omega)).trans (b1 i)) ?_; clear b1; intro b1)); (try (refine use_of (fun i => (hc _ i (by omega)).trans (b2 i)) ?_; clear b2; intro b2)); (try (refine use_of (fun i => (hc _ i (by omega)).trans (b3 i)) ?_; clear b3; intro b3)); (try (refine use_of (fun i => (hc _ i (by omega)).trans (b4 i)) ?_; clear b4; intro b4)); clear hc hf; (try clear hc hf)
          have ys : w.heap.size < wc.heap.size ∧ w.heap.size + 1 < wc.heap.size ∧ w.heap.size + 1 + 1 < wc.heap.size ∧ w1.heap.size < wc.heap.size ∧ w2.heap.size < wc.heap.size ∧ w3.heap.size < wc.heap.size ∧ w4.heap.size < wc.heap.size := by omega
          obtain ⟨y0, y1, y2, y3, y4, y5, y6⟩ := ys
          go_wp2_with fail
          refine (H9.out _).mono ?_
          rintro e' w5 ⟨rfl, hb5⟩
          obtain ⟨hc, hf⟩ := bcell hb5; have hz := Later.size hb5; (try simp only [World.size_alloc, World.size_drew, World.heap_drewN, World.size_setCell] at hz); (repeat (first | (with_reducible refine use_of (Later.undrew hb5) ?_; intro hb5) | (with_reducible refine use_of (Later.undrewN hb5) ?_; intro hb5) | (with_reducible refine use_of (Later.unalloc hb5) ?_; intro hb5))); obtain ⟨hc, hf⟩ := bcell hb5; (try (refine use_of (fun i => (hc _ i (by omega)).trans (c0 i)) ?_; clear c0; intro c0)); (try (refine use_of (fun i => (hc _ i (by omega)).trans (c1 i)) ?_; clear c1; intro c1)); (try (refine use_of (fun i => (hc _ i (by omega)).trans (c2 i)) ?_; clear c2; intro c2)); (try (refine use_of (fun i => (hc _ i (by omega)).trans (b1 i)) ?_; clear b1; intro b1)); (try (refine use_of (fun i => (hc _ i (by omega)).trans (b2 i)) ?_; clear b2; intro b2)); (try (refine use_of (fun i => (hc _ i (by omega)).trans (b3 i)) ?_; clear b3; intro b3)); (try (refine use_of (fun i => (hc _ i (by omega)).trans (b4 i)) ?_; clear b4; intro b4)); clear hc hf; (try clear hc hf)
          have ys : w.heap.size < w5.heap.size ∧ w.heap.size + 1 < w5.heap.size ∧ w.heap.size + 1 + 1 < w5.heap.size ∧ w1.heap.size < w5.heap.size ∧ w2.heap.size < w5.heap.size ∧ w3.heap.size < w5.heap.size ∧ w4.heap.size < w5.heap.size := by omega
          obtain ⟨y0, y1, y2, y3, y4, y5, y6⟩ := ys
          go_wp2_with fail
          refine (H10.out _).mono ?_
          rintro e' w6 ⟨rfl, hb6⟩
          obtain ⟨hc, hf⟩ := bcell hb6; have hz := Later.size hb6; (try simp only [World.size_alloc, World.size_drew, World.heap_drewN, World.size_setCell] at hz); (first | (with_reducible refine use_own1 hb6 ?_; intro b5 ff zz) | (with_reducible refine use_own1 (Later.undrew hb6) ?_; intro b5 ff zz) | skip); (repeat (first | (with_reducible refine use_of (Later.undrew hb6) ?_; intro hb6) | (with_reducible refine use_of (Later.undrewN hb6) ?_; intro hb6) | (with_reducible refine use_of (Later.unalloc hb6) ?_; intro hb6))); obtain ⟨hc, hf⟩ := bcell hb6; (try (refine use_of (fun i => (hc _ i (by omega)).trans (c0 i)) ?_; clear c0; intro c0)); (try (refine use_of (fun i => (hc _ i (by omega)).trans (c1 i)) ?_; clear c1; intro c1)); (try (refine use_of (fun i => (hc _ i (by omega)).trans (c2 i)) ?_; clear c2; intro c2)); (try (refine use_of (fun i => (hc _ i (by omega)).trans (b1 i)) ?_; clear b1; intro b1)); (try (refine use_of (fun i => (hc _ i (by omega)).trans (b2 i)) ?_; clear b2; intro b2)); (try (refine use_of (fun i => (hc _ i (by omega)).trans (b3 i)) ?_; clear b3; intro b3)); (try (refine use_of (fun i => (hc _ i (by omega)).trans (b4 i)) ?_; clear b4; intro b4)); clear hc hf; (try clear hc hf)
          clear ff
          have ys : w.heap.size < w6.heap.size ∧ w.heap.size + 1 < w6.heap.size ∧ w.heap.size + 1 + 1 < w6.heap.size ∧ w1.heap.size < w6.heap.size ∧ w2.heap.size < w6.heap.size ∧ w3.heap.size < w6.heap.size ∧ w4.heap.size < w6.heap.size ∧ w5.heap.size < w6.heap.size := by omega
          obtain ⟨y0, y1, y2, y3, y4, y5, y6, y7⟩ := ys
          go_wp2_with fail
          refine (H11.out _).mono ?_
          rintro e' w7 ⟨rfl, hb7⟩
          obtain ⟨hc, hf⟩ := bcell hb7; have hz := Later.size hb7; (try simp only [World.size_alloc, World.size_drew, World.heap_drewN, World.size_setCell] at hz); (first | (with_reducible refine use_own1 hb7 ?_; intro b6 ff zz) | (with_reducible refine use_own1 (Later.undrew hb7) ?_; intro b6 ff zz) | skip); (repeat (first | (with_reducible refine use_of (Later.undrew hb7) ?_; intro hb7) | (with_reducible refine use_of (Later.undrewN hb7) ?_; intro hb7) | (with_reducible refine use_of (Later.unalloc hb7) ?_; intro hb7))); obtain ⟨hc, hf⟩ := bcell hb7; (try (refine use_of (fun i => (hc _ i (by omega)).trans (c0 i)) ?_; clear c0; intro c0)); (try (refine use_of (fun i => (hc _ i (by omega)).trans (c1 i)) ?_; clear c1; intro c1)); (try (refine use_of (fun i => (hc _ i (by omega)).trans (c2 i)) ?_; clear c2; intro c2)); (try (refine use_of (fun i => (hc _ i (by omega)).trans (b1 i)) ?_; clear b1; intro b1)); (try (refine use_of (fun i => (hc _ i (by omega)).trans (b2 i)) ?_; clear b2; intro b2)); (try (refine use_of (fun i => (hc _ i (by omega)).trans (b3 i)) ?_; clear b3; intro b3)); (try (refine use_of (fun i => (hc _ i (by omega)).trans (b4 i)) ?_; clear b4; intro b4)); (try (refine use_of (fun i => (hc _ i (by omega)).trans (b5 i)) ?_; clear b5; intro b5)); clear hc hf; (try clear hc hf)
          clear ff
          have ys : w.heap.size < w7.heap.size ∧ w.heap.size + 1 < w7.heap.size ∧ w.heap.size + 1 + 1 < w7.heap.size ∧ w1.heap.size < w7.heap.size ∧ w2.heap.size < w7.heap.size ∧ w3.heap.size < w7.heap.size ∧ w4.heap.size < w7.heap.size ∧ w5.heap.size < w7.heap.size ∧ w6.heap.size < w7.heap.size := by omega
          obtain ⟨y0, y1, y2, y3, y4, y5, y6, y7, y8⟩ := ys
          go_wp2_with fail
          refine (H12.out _).mono ?_
          rintro e' w8 ⟨rfl, hb8⟩
          obtain ⟨hc, hf⟩ := bcell hb8; have hz := Later.size hb8; (try simp only [World.size_alloc, World.size_drew, World.heap_drewN, World.size_setCell] at hz); (first | (with_reducible refine use_own1 hb8 ?_; intro b7 ff zz) | (with_reducible refine use_own1 (Later.undrew hb8) ?_; intro b7 ff zz) | skip); (repeat (first | (with_reducible refine use_of (Later.undrew hb8) ?_; intro hb8) | (with_reducible refine use_of (Later.undrewN hb8) ?_; intro hb8) | (with_reducible refine use_of (Later.unalloc hb8) ?_; intro hb8))); obtain ⟨hc, hf⟩ := bcell hb8; (try (refine use_of (fun i => (hc _ i (by omega)).trans (c0 i)) ?_; clear c0; intro c0)); (try (refine use_of (fun i => (hc _ i (by omega)).trans (c1 i)) ?_; clear c1; intro c1)); (try (refine use_of (fun i => (hc _ i (by omega)).trans (c2 i)) ?_; clear c2; intro c2)); (try (refine use_of (fun i => (hc _ i (by omega)).trans (b1 i)) ?_; clear b1; intro b1)); (try (refine use_of (fun i => (hc _ i (by omega)).trans (b2 i)) ?_; clear b2; intro b2)); (try (refine use_of (fun i => (hc _ i (by omega)).trans (b3 i)) ?_; clear b3; intro b3)); (try (refine use_of (fun i => (hc _ i (by omega)).trans (b4 i)) ?_; clear b4; intro b4)); (try (refine use_of (fun i => (hc _ i (by omega)).trans (b5 i)) ?_; clear b5; intro b5)); (try (refine use_of (fun i => (hc _ i (by omega)).trans (b6 i)) ?_; clear b6; intro b6)); clear hc hf; (try clear hc hf)
          clear ff
          have ys : w.heap.size < w8.heap.size ∧ w.heap.size + 1 < w8.heap.size ∧ w.heap.size + 1 + 1 < w8.heap.size ∧ w1.heap.size < w8.heap.size ∧ w2.heap.size < w8.heap.size ∧ w3.heap.size < w8.heap.size ∧ w4.heap.size < w8.heap.size ∧ w5.heap.size < w8.heap.size ∧ w6.heap.size < w8.heap.size ∧ w7.heap.size < w8.heap.size := by omega
          obtain ⟨y0, y1, y2, y3, y4, y5, y6, y7, y8, y9⟩ := ys
          go_upto_region 19 with fail
          go_cut [176] (fun s176 wx => s176 = .bool false ∧ Later (w8.alloc (.cells #[.int .i64 uN, .int .i64 uD] 23)) wx)
          case first => as_aux_lemma =>
            by_cases he : e = 0
            · subst he
              by_cases hi : i = 0
              · subst hi
                by_cases hj : j = 0
                · subst hj
                  by_cases hk : k = 0
                  · subst hk
                    by_cases hl : l = 0
                    · subst hl
                      obtain ⟨rfl, rfl⟩ := HX.out rfl rfl rfl rfl rfl
                      go_wp2_with fail
                      go_meet
                      exact ⟨rfl, by repeat (first | with_reducible exact Later.refl _ | with_reducible assumption | with_reducible refine Later.ofdrew ?_ | with_reducible refine Later.ofdrewN ?_ | with_reducible refine Later.setCell ?_ ?_ _ | with_reducible refine Later.alloc ?_ _ | with_reducible refine Later.drewN ?_ _ | with_reducible refine Later.drew ?_ | (with_reducible refine Later.trans ?_ (by assumption)) | (simp only [World.size_setCell, World.size_alloc, World.heap_drewN]; omega) | (simp; done) | (simp; omega))⟩
                    · have hl' : (l == 0) = false := by simpa using hl
                      go_wp2_with fail
                      go_meet
                      exact ⟨rfl, by repeat (first | with_reducible exact Later.refl _ | with_reducible assumption | with_reducible refine Later.ofdrew ?_ | with_reducible refine Later.ofdrewN ?_ | with_reducible refine Later.setCell ?_ ?_ _ | with_reducible refine Later.alloc ?_ _ | with_reducible refine Later.drewN ?_ _ | with_reducible refine Later.drew ?_ | (with_reducible refine Later.trans ?_ (by assumption)) | (simp only [World.size_setCell, World.size_alloc, World.heap_drewN]; omega) | (simp; done) | (simp; omega))⟩
                  · have hk' : (k == 0) = false := by simpa using hk
                    go_wp2_with fail
                    go_meet
                    exact ⟨rfl, by repeat (first | with_reducible exact Later.refl _ | with_reducible assumption | with_reducible refine Later.ofdrew ?_ | with_reducible refine Later.ofdrewN ?_ | with_reducible refine Later.setCell ?_ ?_ _ | with_reducible refine Later.alloc ?_ _ | with_reducible refine Later.drewN ?_ _ | with_reducible refine Later.drew ?_ | (with_reducible refine Later.trans ?_ (by assumption)) | (simp only [World.size_setCell, World.size_alloc, World.heap_drewN]; omega) | (simp; done) | (simp; omega))⟩
                · have hj' : (j == 0) = false := by simpa using hj
                  go_wp2_with fail
                  go_meet
                  exact ⟨rfl, by repeat (first | with_reducible exact Later.refl _ | with_reducible assumption | with_reducible refine Later.ofdrew ?_ | with_reducible refine Later.ofdrewN ?_ | with_reducible refine Later.setCell ?_ ?_ _ | with_reducible refine Later.alloc ?_ _ | with_reducible refine Later.drewN ?_ _ | with_reducible refine Later.drew ?_ | (with_reducible refine Later.trans ?_ (by assumption)) | (simp only [World.size_setCell, World.size_alloc, World.heap_drewN]; omega) | (simp; done) | (simp; omega))⟩
              · have hi' : (i == 0) = false := by simpa using hi
                go_wp2_with fail
                go_meet
                exact ⟨rfl, by repeat (first | with_reducible exact Later.refl _ | with_reducible assumption | with_reducible refine Later.ofdrew ?_ | with_reducible refine Later.ofdrewN ?_ | with_reducible refine Later.setCell ?_ ?_ _ | with_reducible refine Later.alloc ?_ _ | with_reducible refine Later.drewN ?_ _ | with_reducible refine Later.drew ?_ | (with_reducible refine Later.trans ?_ (by assumption)) | (simp only [World.size_setCell, World.size_alloc, World.heap_drewN]; omega) | (simp; done) | (simp; omega))⟩
            · have he' : (e == 0) = false := by simpa using he
              go_wp2_with fail
              go_meet
              exact ⟨rfl, by repeat (first | with_reducible exact Later.refl _ | with_reducible assumption | with_reducible refine Later.ofdrew ?_ | with_reducible refine Later.ofdrewN ?_ | with_reducible refine Later.setCell ?_ ?_ _ | with_reducible refine Later.alloc ?_ _ | with_reducible refine Later.drewN ?_ _ | with_reducible refine Later.drew ?_ | (with_reducible refine Later.trans ?_ (by assumption)) | (simp only [World.size_setCell, World.size_alloc, World.heap_drewN]; omega) | (simp; done) | (simp; omega))⟩
          case rest =>
            obtain ⟨rfl, hl⟩ := hcut
            obtain ⟨hc, hf⟩ := bcell hl; have hz := Later.size hl; (try simp only [World.size_alloc, World.size_drew, World.heap_drewN, World.size_setCell] at hz); (first | (with_reducible refine use_own1 hl ?_; intro b8 ff zz) | (with_reducible refine use_own1 (Later.undrew hl) ?_; intro b8 ff zz) | skip); (repeat (first | (with_reducible refine use_of (Later.undrew hl) ?_; intro hl) | (with_reducible refine use_of (Later.undrewN hl) ?_; intro hl) | (with_reducible refine use_of (Later.unalloc hl) ?_; intro hl))); obtain ⟨hc, hf⟩ := bcell hl; (try (refine use_of (fun i => (hc _ i (by omega)).trans (c0 i)) ?_; clear c0; intro c0)); (try (refine use_of (fun i => (hc _ i (by omega)).trans (c1 i)) ?_; clear c1; intro c1)); (try (refine use_of (fun i => (hc _ i (by omega)).trans (c2 i)) ?_; clear c2; intro c2)); (try (refine use_of (fun i => (hc _ i (by omega)).trans (b1 i)) ?_; clear b1; intro b1)); (try (refine use_of (fun i => (hc _ i (by omega)).trans (b2 i)) ?_; clear b2; intro b2)); (try (refine use_of (fun i => (hc _ i (by omega)).trans (b3 i)) ?_; clear b3; intro b3)); (try (refine use_of (fun i => (hc _ i (by omega)).trans (b4 i)) ?_; clear b4; intro b4)); (try (refine use_of (fun i => (hc _ i (by omega)).trans (b5 i)) ?_; clear b5; intro b5)); (try (refine use_of (fun i => (hc _ i (by omega)).trans (b6 i)) ?_; clear b6; intro b6)); (try (refine use_of (fun i => (hc _ i (by omega)).trans (b7 i)) ?_; clear b7; intro b7)); clear hc hf; (try clear hc hf)
            clear ff
            have ys : w.heap.size < wc.heap.size ∧ w.heap.size + 1 < wc.heap.size ∧ w.heap.size + 1 + 1 < wc.heap.size ∧ w1.heap.size < wc.heap.size ∧ w2.heap.size < wc.heap.size ∧ w3.heap.size < wc.heap.size ∧ w4.heap.size < wc.heap.size ∧ w5.heap.size < wc.heap.size ∧ w6.heap.size < wc.heap.size ∧ w7.heap.size < wc.heap.size ∧ w8.heap.size < wc.heap.size := by omega
            obtain ⟨y0, y1, y2, y3, y4, y5, y6, y7, y8, y9, y10⟩ := ys
            go_wp2_with fail
            refine (H13.out _).mono ?_
            rintro e' w9 ⟨rfl, hb9⟩
            obtain ⟨hc, hf⟩ := bcell hb9; have hz := Later.size hb9; (try simp only [World.size_alloc, World.size_drew, World.heap_drewN, World.size_setCell] at hz); (repeat (first | (with_reducible refine use_of (Later.undrew hb9) ?_; intro hb9) | (with_reducible refine use_of (Later.undrewN hb9) ?_; intro hb9) | (with_reducible refine use_of (Later.unalloc hb9) ?_; intro hb9))); obtain ⟨hc, hf⟩ := bcell hb9; (try (refine use_of (fun i => (hc _ i (by omega)).trans (c0 i)) ?_; clear c0; intro c0)); (try (refine use_of (fun i => (hc _ i (by omega)).trans (c1 i)) ?_; clear c1; intro c1)); (try (refine use_of (fun i => (hc _ i (by omega)).trans (c2 i)) ?_; clear c2; intro c2)); (try (refine use_of (fun i => (hc _ i (by omega)).trans (b1 i)) ?_; clear b1; intro b1)); (try (refine use_of (fun i => (hc _ i (by omega)).trans (b2 i)) ?_; clear b2; intro b2)); (try (refine use_of (fun i => (hc _ i (by omega)).trans (b3 i)) ?_; clear b3; intro b3)); (try (refine use_of (fun i => (hc _ i (by omega)).trans (b4 i)) ?_; clear b4; intro b4)); (try (refine use_of (fun i => (hc _ i (by omega)).trans (b5 i)) ?_; clear b5; intro b5)); (try (refine use_of (fun i => (hc _ i (by omega)).trans (b6 i)) ?_; clear b6; intro b6)); (try (refine use_of (fun i => (hc _ i (by omega)).trans (b7 i)) ?_; clear b7; intro b7)); (try (refine use_of (fun i => (hc _ i (by omega)).trans (b8 i)) ?_; clear b8; intro b8)); clear hc hf; (try clear hc hf)
            have ys : w.heap.size < w9.heap.size ∧ w.heap.size + 1 < w9.heap.size ∧ w.heap.size + 1 + 1 < w9.heap.size ∧ w1.heap.size < w9.heap.size ∧ w2.heap.size < w9.heap.size ∧ w3.heap.size < w9.heap.size ∧ w4.heap.size < w9.heap.size ∧ w5.heap.size < w9.heap.size ∧ w6.heap.size < w9.heap.size ∧ w7.heap.size < w9.heap.size ∧ w8.heap.size < w9.heap.size := by omega
            obtain ⟨y0, y1, y2, y3, y4, y5, y6, y7, y8, y9, y10⟩ := ys
            go_wp2_with fail
            refine (H14.out _).mono ?_
            rintro e' w10 ⟨rfl, hb10⟩
            obtain ⟨hc, hf⟩ := bcell hb10; have hz := Later.size hb10; (try simp only [World.size_alloc, World.size_drew, World.heap_drewN, World.size_setCell] at hz); (first | (with_reducible refine use_own1 hb10 ?_; intro b9 ff zz) | (with_reducible refine use_own1 (Later.undrew hb10) ?_; intro b9 ff zz) | skip); (repeat (first | (with_reducible refine use_of (Later.undrew hb10) ?_; intro hb10) | (with_reducible refine use_of (Later.undrewN hb10) ?_; intro hb10) | (with_reducible refine use_of (Later.unalloc hb10) ?_; intro hb10))); obtain ⟨hc, hf⟩ := bcell hb10; (try (refine use_of (fun i => (hc _ i (by omega)).trans (c0 i)) ?_; clear c0; intro c0)); (try (refine use_of (fun i => (hc _ i (by omega)).trans (c1 i)) ?_; clear c1; intro c1)); (try (refine use_of (fun i => (hc _ i (by omega)).trans (c2 i)) ?_; clear c2; intro c2)); (try (refine use_of (fun i => (hc _ i (by omega)).trans (b1 i)) ?_; clear b1; intro b1)); (try (refine use_of (fun i => (hc _ i (by omega)).trans (b2 i)) ?_; clear b2; intro b2)); (try (refine use_of (fun i => (hc _ i (by omega)).trans (b3 i)) ?_; clear b3; intro b3)); (try (refine use_of (fun i => (hc _ i (by omega)).trans (b4 i)) ?_; clear b4; intro b4)); (try (refine use_of (fun i => (hc _ i (by omega)).trans (b5 i)) ?_; clear b5; intro b5)); (try (refine use_of (fun i => (hc _ i (by omega)).trans (b6 i)) ?_; clear b6; intro b6)); (try (refine use_of (fun i => (hc _ i (by omega)).trans (b7 i)) ?_; clear b7; intro b7)); (try (refine use_of (fun i => (hc _ i (by omega)).trans (b8 i)) ?_; clear b8; intro b8)); clear hc hf; (try clear hc hf)
            clear ff
            have ys : w.heap.size < w10.heap.size ∧ w.heap.size + 1 < w10.heap.size ∧ w.heap.size + 1 + 1 < w10.heap.size ∧ w1.heap.size < w10.heap.size ∧ w2.heap.size < w10.heap.size ∧ w3.heap.size < w10.heap.size ∧ w4.heap.size < w10.heap.size ∧ w5.heap.size < w10.heap.size ∧ w6.heap.size < w10.heap.size ∧ w7.heap.size < w10.heap.size ∧ w8.heap.size < w10.heap.size ∧ w9.heap.size < w10.heap.size := by omega
            obtain ⟨y0, y1, y2, y3, y4, y5, y6, y7, y8, y9, y10, y11⟩ := ys
            go_wp2_with fail
            refine (H15.out _).mono ?_
            rintro e' w11 ⟨rfl, hb11⟩
            obtain ⟨hc, hf⟩ := bcell hb11; have hz := Later.size hb11; (try simp only [World.size_alloc, World.size_drew, World.heap_drewN, World.size_setCell] at hz); (first | (with_reducible refine use_own1 hb11 ?_; intro b10 ff zz) | (with_reducible refine use_own1 (Later.undrew hb11) ?_; intro b10 ff zz) | skip); (repeat (first | (with_reducible refine use_of (Later.undrew hb11) ?_; intro hb11) | (with_reducible refine use_of (Later.undrewN hb11) ?_; intro hb11) | (with_reducible refine use_of (Later.unalloc hb11) ?_; intro hb11))); obtain ⟨hc, hf⟩ := bcell hb11; (try (refine use_of (fun i => (hc _ i (by omega)).trans (c0 i)) ?_; clear c0; intro c0)); (try (refine use_of (fun i => (hc _ i (by omega)).trans (c1 i)) ?_; clear c1; intro c1)); (try (refine use_of (fun i => (hc _ i (by omega)).trans (c2 i)) ?_; clear c2; intro c2)); (try (refine use_of (fun i => (hc _ i (by omega)).trans (b1 i)) ?_; clear b1; intro b1)); (try (refine use_of (fun i => (hc _ i (by omega)).trans (b2 i)) ?_; clear b2; intro b2)); (try (refine use_of (fun i => (hc _ i (by omega)).trans (b3 i)) ?_; clear b3; intro b3)); (try (refine use_of (fun i => (hc _ i (by omega)).trans (b4 i)) ?_; clear b4; intro b4)); (try (refine use_of (fun i => (hc _ i (by omega)).trans (b5 i)) ?_; clear b5; intro b5)); (try (refine use_of (fun i => (hc _ i (by omega)).trans (b6 i)) ?_; clear b6; intro b6)); (try (refine use_of (fun i => (hc _ i (by omega)).trans (b7 i)) ?_; clear b7; intro b7)); (try (refine use_of (fun i => (hc _ i (by omega)).trans (b8 i)) ?_; clear b8; intro b8)); (try (refine use_of (fun i => (hc _ i (by omega)).trans (b9 i)) ?_; clear b9; intro b9)); clear hc hf; (try clear hc hf)
            clear ff
            have ys : w.heap.size < w11.heap.size ∧ w.heap.size + 1 < w11.heap.size ∧ w.heap.size + 1 + 1 < w11.heap.size ∧ w1.heap.size < w11.heap.size ∧ w2.heap.size < w11.heap.size ∧ w3.heap.size < w11.heap.size ∧ w4.heap.size < w11.heap.size ∧ w5.heap.size < w11.heap.size ∧ w6.heap.size < w11.heap.size ∧ w7.heap.size < w11.heap.size ∧ w8.heap.size < w11.heap.size ∧ w9.heap.size < w11.heap.size ∧ w10.heap.size < w11.heap.size := by omega
            obtain ⟨y0, y1, y2, y3, y4, y5, y6, y7, y8, y9, y10, y11, y12⟩ := ys
            by_cases he : e = 0
            · subst he
              by_cases hm : m = 0
              · subst hm
                by_cases hn : n = 0
                · subst hn
                  by_cases ho : o = 0
                  · subst ho
                    obtain ⟨rfl, rfl⟩ := HL.out rfl rfl rfl rfl
                    go_wp2_with (go_at_call 11; refine (HA.out _).mono ?_; rintro e' wz ⟨rfl, hbz⟩)
                    go_ret
                    exact ⟨rfl, by repeat (first | with_reducible exact Later.refl _ | with_reducible assumption | with_reducible refine Later.ofdrew ?_ | with_reducible refine Later.ofdrewN ?_ | with_reducible refine Later.setCell ?_ ?_ _ | with_reducible refine Later.alloc ?_ _ | with_reducible refine Later.drewN ?_ _ | with_reducible refine Later.drew ?_ | (with_reducible refine Later.trans ?_ (by assumption)) | (simp only [World.size_setCell, World.size_alloc, World.heap_drewN]; omega) | (simp; done) | (simp; omega))⟩
                  · have ho' : (o != 0) = true := by simpa using ho
                    go_wp2_with (go_at_call 11; refine (HA.out _).mono ?_; rintro e' wz ⟨rfl, hbz⟩)
                    go_ret
                    exact ⟨rfl, by repeat (first | with_reducible exact Later.refl _ | with_reducible assumption | with_reducible refine Later.ofdrew ?_ | with_reducible refine Later.ofdrewN ?_ | with_reducible refine Later.setCell ?_ ?_ _ | with_reducible refine Later.alloc ?_ _ | with_reducible refine Later.drewN ?_ _ | with_reducible refine Later.drew ?_ | (with_reducible refine Later.trans ?_ (by assumption)) | (simp only [World.size_setCell, World.size_alloc, World.heap_drewN]; omega) | (simp; done) | (simp; omega))⟩
                · have hn' : (n != 0) = true := by simpa using hn
                  go_wp2_with (go_at_call 11; refine (HA.out _).mono ?_; rintro e' wz ⟨rfl, hbz⟩)
                  go_ret
                  exact ⟨rfl, by repeat (first | with_reducible exact Later.refl _ | with_reducible assumption | with_reducible refine Later.ofdrew ?_ | with_reducible refine Later.ofdrewN ?_ | with_reducible refine Later.setCell ?_ ?_ _ | with_reducible refine Later.alloc ?_ _ | with_reducible refine Later.drewN ?_ _ | with_reducible refine Later.drew ?_ | (with_reducible refine Later.trans ?_ (by assumption)) | (simp only [World.size_setCell, World.size_alloc, World.heap_drewN]; omega) | (simp; done) | (simp; omega))⟩
              · have hm' : (m != 0) = true := by simpa using hm
                go_wp2_with (go_at_call 11; refine (HA.out _).mono ?_; rintro e' wz ⟨rfl, hbz⟩)
                go_ret
                exact ⟨rfl, by repeat (first | with_reducible exact Later.refl _ | with_reducible assumption | with_reducible refine Later.ofdrew ?_ | with_reducible refine Later.ofdrewN ?_ | with_reducible refine Later.setCell ?_ ?_ _ | with_reducible refine Later.alloc ?_ _ | with_reducible refine Later.drewN ?_ _ | with_reducible refine Later.drew ?_ | (with_reducible refine Later.trans ?_ (by assumption)) | (simp only [World.size_setCell, World.size_alloc, World.heap_drewN]; omega) | (simp; done) | (simp; omega))⟩
            · have he' : (e != 0) = true := by simpa using he
              go_wp2_with (go_at_call 11; refine (HA.out _).mono ?_; rintro e' wz ⟨rfl, hbz⟩)
              go_ret
              exact ⟨rfl, by repeat (first | with_reducible exact Later.refl _ | with_reducible assumption | with_reducible refine Later.ofdrew ?_ | with_reducible refine Later.ofdrewN ?_ | with_reducible refine Later.setCell ?_ ?_ _ | with_reducible refine Later.alloc ?_ _ | with_reducible refine Later.drewN ?_ _ | with_reducible refine Later.drew ?_ | (with_reducible refine Later.trans ?_ (by assumption)) | (simp only [World.size_setCell, World.size_alloc, World.heap_drewN]; omega) | (simp; done) | (simp; omega))⟩

end Go.Proofs.Ytnnjjaknkiklpaa
