/- what is told: Tell, Made, Plain -/
import Derived.Test.YtkpadahpepeaoaaDoorJo
set_option linter.all false
namespace Go.Proofs.YtkpadahpepeaoaaDoor
open Go.RowKit
set_option maxRecDepth 100000

abbrev FxL := List ((Int × Int) × (Int × Int))
abbrev ChL := List ((Int × Int) × Int)
/-- Facts behind one that is told. -/
def tellFx (fx : FxL) (x : Td) : FxL := if x.c then fx else fixL fx x.k x.d x.n x.m
def tellCh (ch : ChL) (x : Td) : ChL := if x.c then chooseL ch x.k x.d x.p else ch
def madeFx (l : List Td) : FxL := l.foldl tellFx []
def madeCh (l : List Td) : ChL := l.foldl tellCh []
theorem tellFx_nodup {fx : FxL} {x : Td} (h : (fx.map (·.1)).Nodup) : ((tellFx fx x).map (·.1)).Nodup := by
  unfold tellFx fixL
  split
  · exact h
  · split
    · exact putA_keys _ _ _ h
    · exact h
theorem madeFx_nodup (l : List Td) : ∀ (fx : FxL), (fx.map (·.1)).Nodup → ((l.foldl tellFx fx).map (·.1)).Nodup := by
  induction l with
  | nil => exact fun _ h => h
  | cons x r ih => exact fun fx h => ih _ (tellFx_nodup h)

set_option maxHeartbeats 1600000 in
theorem tell_any (p m1 m2 : Nat) (fx : FxL) (ch : ChL) (x : Td) (w : World) (hF : FactsAt w p m1 m2 fx ch) (hx : x.ok) :
    Calls Tryd.prog 15 #[.pointer (some ⟨p, 0, none⟩), x.val] w fun e w' => e = .returned (.int .i64 (wrongT x)) ∧ FactsAt w' p m1 m2 (tellFx fx x) (tellCh ch x) ∧ ∃ mm, (mm = m1 ∨ mm = m2) ∧ w.grownBy w' (some mm) := by
  obtain ⟨c, k, d, n, m, q⟩ := x
  obtain ⟨hk, hd, hn, hm, hp⟩ := hx
  have HF := Lib.hid (fun W (hl : Later w W) => fix_any p m1 m2 fx ch k d n m W (hF.later hl) hk hd hn hm)
  have HC := Lib.hid (fun W (hl : Later w W) => choose_any p m1 m2 fx ch k d q W (hF.later hl) hk hd)
  unfold Td.val
  simp only
  clear hF hk hd hn hm hp
  cases c
  · show Calls _ _ _ w fun e w' => e = .returned (.int .i64 (fixE k d n m)) ∧ FactsAt w' p m1 m2 (fixL fx k d n m) ch ∧ ∃ mm, (mm = m1 ∨ mm = m2) ∧ w.grownBy w' (some mm)
    clear HC
    generalize fixE k d n m = r at *
    generalize fixL fx k d n m = fx' at *
    go_enter Tryd.func15, Tryd.ntmps15
    go_wp2_with (go_at_call 23; go_must (refine (HF.out _ (by repeat (first | with_reducible exact Later.refl _ | with_reducible assumption | with_reducible refine Later.ofdrew ?_ | with_reducible refine Later.ofdrewN ?_ | with_reducible refine Later.setCell ?_ ?_ _ | with_reducible refine Later.alloc ?_ _ | with_reducible refine Later.drewN ?_ _ | with_reducible refine Later.drew ?_ | (with_reducible refine Later.trans ?_ (by assumption)) | (simp only [World.size_setCell, World.size_alloc, World.heap_drewN]; omega) | (simp; done) | (simp; omega)))).mono ?_; rintro e w1 ⟨rfl, hF1, hg1⟩))
    go_ret
    exact ⟨rfl, hF1, m1, .inl rfl, grownBy_trans (grownBy_later (by repeat (first | with_reducible exact Later.refl _ | with_reducible assumption | with_reducible refine Later.ofdrew ?_ | with_reducible refine Later.ofdrewN ?_ | with_reducible refine Later.setCell ?_ ?_ _ | with_reducible refine Later.alloc ?_ _ | with_reducible refine Later.drewN ?_ _ | with_reducible refine Later.drew ?_ | (with_reducible refine Later.trans ?_ (by assumption)) | (simp only [World.size_setCell, World.size_alloc, World.heap_drewN]; omega) | (simp; done) | (simp; omega))) _) hg1⟩
  · show Calls _ _ _ w fun e w' => e = .returned (.int .i64 (chooseE k d q)) ∧ FactsAt w' p m1 m2 fx (chooseL ch k d q) ∧ ∃ mm, (mm = m1 ∨ mm = m2) ∧ w.grownBy w' (some mm)
    clear HF
    generalize chooseE k d q = r at *
    generalize chooseL ch k d q = ch' at *
    go_enter Tryd.func15, Tryd.ntmps15
    go_wp2_with (go_at_call 37; go_must (refine (HC.out _ (by repeat (first | with_reducible exact Later.refl _ | with_reducible assumption | with_reducible refine Later.ofdrew ?_ | with_reducible refine Later.ofdrewN ?_ | with_reducible refine Later.setCell ?_ ?_ _ | with_reducible refine Later.alloc ?_ _ | with_reducible refine Later.drewN ?_ _ | with_reducible refine Later.drew ?_ | (with_reducible refine Later.trans ?_ (by assumption)) | (simp only [World.size_setCell, World.size_alloc, World.heap_drewN]; omega) | (simp; done) | (simp; omega)))).mono ?_; rintro e w1 ⟨rfl, hF1, hg1⟩))
    go_ret
    exact ⟨rfl, hF1, m2, .inr rfl, grownBy_trans (grownBy_later (by repeat (first | with_reducible exact Later.refl _ | with_reducible assumption | with_reducible refine Later.ofdrew ?_ | with_reducible refine Later.ofdrewN ?_ | with_reducible refine Later.setCell ?_ ?_ _ | with_reducible refine Later.alloc ?_ _ | with_reducible refine Later.drewN ?_ _ | with_reducible refine Later.drew ?_ | (with_reducible refine Later.trans ?_ (by assumption)) | (simp only [World.size_setCell, World.size_alloc, World.heap_drewN]; omega) | (simp; done) | (simp; omega))) _) hg1⟩

set_option maxHeartbeats 1600000 in
theorem made_any (l : List Td) (hlen : l.length ≤ 100000) (hok : ∀ x ∈ l, x.ok) (v : Value) (w : World) (hN : IsTolds w v l) :
    Calls Tryd.prog 9 #[v] w fun e w' => ∃ p m1 m2, e = .returned (.pointer (some ⟨p, 0, none⟩)) ∧ FactsAt w' p m1 m2 (madeFx l) (madeCh l) ∧ w.heap.size ≤ m1 ∧ w.heap.size ≤ m2 ∧ Later w w' := by
  obtain ⟨p0, cp, rfl⟩ := hN.form
  have HN := Lib.hid hN
  have HNEW := Lib.hid (fnew_any w)
  have HTL := Lib.hid (fun (j : Nat) (h : j < l.length) p m1 m2 fx ch W hF => tell_any p m1 m2 fx ch l[j] W hF (hok _ (List.getElem_mem _)))
  clear hok hN
  obtain ⟨L, hL⟩ : ∃ L, l.length = L := ⟨_, rfl⟩
  rw [hL] at HN hlen ⊢
  have HL := Lib.hid hL
  clear hL
  go_enter Tryd.func9, Tryd.ntmps9
  go_wp2_with (go_at_call 22; go_must (refine HNEW.out.mono ?_; rintro e w1 ⟨p, m1, m2, rfl, hF1, h1, h2, hb1⟩))
  have HF1 := Lib.hid hF1
  clear hF1 HNEW
  go_loopw [4] (fun s4 wr => ∃ j : Nat, j ≤ L ∧ s4 = .int .i64 j ∧ Hid (FactsAt wr p m1 m2 ((l.take j).foldl tellFx []) ((l.take j).foldl tellCh [])) ∧ Later w wr) (fun s4 _ => L - (intOf s4).toNat)
  case atStart => exact ⟨0, Nat.zero_le _, rfl, HF1, hb1⟩
  case round =>
    obtain ⟨j, hj, rfl, hF, hlat⟩ := hrel
    by_cases hlt : j < L
    · have hjl : j < l.length := by rw [HL.out]; exact hlt
      obtain ⟨b, o, cp2, hv, hb, gg⟩ := HN.out.full (i := j) hjl
      rw [HL.out] at hv
      cases hv
      have g0 := ((bcell hlat).1 _ _ hb).trans (gg 0 (by omega))
      have g1 := ((bcell hlat).1 _ _ hb).trans (gg 1 (by omega))
      have g2 := ((bcell hlat).1 _ _ hb).trans (gg 2 (by omega))
      have g3 := ((bcell hlat).1 _ _ hb).trans (gg 3 (by omega))
      have g4 := ((bcell hlat).1 _ _ hb).trans (gg 4 (by omega))
      have g5 := ((bcell hlat).1 _ _ hb).trans (gg 5 (by omega))
      have HC := Lib.hid (HTL.out j hjl p m1 m2 _ _ wr hF.out)
      have ht : l.take (j + 1) = l.take j ++ [l[j]] := List.take_succ_eq_append_getElem hjl
      have HT1 := Lib.hid (show (l.take (j + 1)).foldl tellFx [] = tellFx ((l.take j).foldl tellFx []) l[j] by rw [ht, List.foldl_append]; rfl)
      have HT2 := Lib.hid (show (l.take (j + 1)).foldl tellCh [] = tellCh ((l.take j).foldl tellCh []) l[j] by rw [ht, List.foldl_append]; rfl)
      unfold Td.val at HC
      simp only [Td.cell, Nat.add_zero] at g0 g1 g2 g3 g4 g5
      generalize (l[j]).c = x0 at g0 HC
      generalize (l[j]).k = x1 at g1 HC
      generalize (l[j]).d = x2 at g2 HC
      generalize (l[j]).n = x3 at g3 HC
      generalize (l[j]).m = x4 at g4 HC
      generalize (l[j]).p = x5 at g5 HC
      clear gg ht hF HTL
      go_wp2_with (go_at_call 15; go_must (refine HC.out.mono ?_; rintro e w3 ⟨rfl, hF3, mm, hmm, hg3⟩))
      go_roundw
      case rel => exact ⟨j + 1, by omega, by go_num, Lib.hid (by rw [HT1.out, HT2.out]; exact hF3), Later.grown hlat hg3 (fun k e => by cases e; rcases hmm with rfl | rfl <;> assumption)⟩
      case measure => simp [intOf]; omega
    · have hfin : l.take j = l := List.take_of_length_le (by rw [HL.out]; omega)
      have hFF := hF.out
      rw [hfin] at hFF
      have HFF := Lib.hid hFF
      clear hF hFF hfin
      go_wp2
      go_ret
      exact ⟨p, m1, m2, rfl, HFF.out, h1, h2, hlat⟩

/-- The reference's fixings, and choices. -/
def plainA (a : List Fa) (x : Td) : List Fa := if wrongT x = 0 ∧ x.c = false then putR ⟨x.k, x.d, x.n, x.m, 0⟩ false a else a
def plainB (b : List Fa) (x : Td) : List Fa := if wrongT x = 0 ∧ x.c = true then putR ⟨x.k, x.d, 0, 0, x.p⟩ false b else b
theorem plainA_len (a : List Fa) (x : Td) : (plainA a x).length ≤ a.length + 1 := by unfold plainA; split; exact putR_len _ _ _; omega
theorem plainB_len (b : List Fa) (x : Td) : (plainB b x).length ≤ b.length + 1 := by unfold plainB; split; exact putR_len _ _ _; omega

set_option maxHeartbeats 3200000 in
theorem plain_any (l : List Td) (hlen : l.length ≤ 90000) (hok : ∀ x ∈ l, x.ok) (v : Value) (w : World) (hN : IsTolds w v l) :
    Calls Tryd.prog 12 #[v] w fun e w' => ∃ a b, e = .returned (.tuple #[a, b]) ∧ IsFacts w' a (l.foldl plainA []) ∧ IsFacts w' b (l.foldl plainB []) ∧ Later w w' := by
  obtain ⟨p0, cp, rfl⟩ := hN.form
  have HN := Lib.hid hN
  have HWR := Lib.hid (fun (j : Nat) (h : j < l.length) W => twrong_any l[j] W (hok _ (List.getElem_mem _)))
  clear hok hN
  obtain ⟨L, hL⟩ : ∃ L, l.length = L := ⟨_, rfl⟩
  rw [hL] at HN hlen ⊢
  have HL := Lib.hid hL
  clear hL
  go_enter Tryd.func12, Tryd.ntmps12
  go_wp2
  go_loopw [4, 5, 6] (fun s4 s5 s6 wr => ∃ (j : Nat) (a b : List Fa), j ≤ L ∧ s6 = .int .i64 j ∧ a.length ≤ j ∧ b.length ≤ j ∧ Hid (a = (l.take j).foldl plainA [] ∧ b = (l.take j).foldl plainB []) ∧ IsFacts wr s4 a ∧ IsFacts wr s5 b ∧ Later w wr) (fun _ _ s6 _ => L - (intOf s6).toNat)
  case atStart => exact ⟨0, [], [], Nat.zero_le _, rfl, by simp, by simp, Lib.hid ⟨rfl, rfl⟩, IsRow.nil _, IsRow.nil _, Later.refl _⟩
  case round =>
    obtain ⟨j, a, b, hj, rfl, hal, hbl, hab, hA, hB, hlat⟩ := hrel
    obtain ⟨pa, ca, rfl⟩ := hA.form
    obtain ⟨pb, cb, rfl⟩ := hB.form
    have HA := Lib.hid hA
    have HB := Lib.hid hB
    by_cases hlt : j < L
    · have hjl : j < l.length := by rw [HL.out]; exact hlt
      obtain ⟨bb, o, cp2, hv, hb, gg⟩ := HN.out.full (i := j) hjl
      rw [HL.out] at hv
      cases hv
      have g0 := ((bcell hlat).1 _ _ hb).trans (gg 0 (by omega))
      have g1 := ((bcell hlat).1 _ _ hb).trans (gg 1 (by omega))
      have g2 := ((bcell hlat).1 _ _ hb).trans (gg 2 (by omega))
      have g3 := ((bcell hlat).1 _ _ hb).trans (gg 3 (by omega))
      have g4 := ((bcell hlat).1 _ _ hb).trans (gg 4 (by omega))
      have g5 := ((bcell hlat).1 _ _ hb).trans (gg 5 (by omega))
      have HC := Lib.hid (HWR.out j hjl)
      have ht : l.take (j + 1) = l.take j ++ [l[j]] := List.take_succ_eq_append_getElem hjl
      have HT1 := Lib.hid (show (l.take (j + 1)).foldl plainA [] = plainA a l[j] by rw [ht, List.foldl_append, hab.out.1]; rfl)
      have HT2 := Lib.hid (show (l.take (j + 1)).foldl plainB [] = plainB b l[j] by rw [ht, List.foldl_append, hab.out.2]; rfl)
      have hla := plainA_len a l[j]
      have hlb := plainB_len b l[j]
      simp only [Td.cell, Nat.add_zero] at g0 g1 g2 g3 g4 g5
      obtain ⟨X, hX⟩ : ∃ X, l[j] = X := ⟨_, rfl⟩
      rw [hX] at HC HT1 HT2 g0 g1 g2 g3 g4 g5 hla hlb
      have hO := fun W => own_alloc W #[.bool X.c, .int .i64 X.k, .int .i64 X.d, .int .i64 X.n, .int .i64 X.m, .int .i64 X.p] 44
      obtain ⟨xc, xk, xd, xn, xm, xp⟩ := X
      simp only at g0 g1 g2 g3 g4 g5 hO
      unfold Td.val at HC
      simp only at HC
      have HO := Lib.hid (hO wr)
      clear gg ht hab hX hA hB HWR hO
      obtain ⟨wr0, hwr0⟩ : ∃ r, wrongT ⟨xc, xk, xd, xn, xm, xp⟩ = r := ⟨_, rfl⟩
      rw [hwr0] at HC
      by_cases hw0 : wr0 = 0
      · subst hw0
        cases xc
        · have hpa : plainA a ⟨false, xk, xd, xn, xm, xp⟩ = putR ⟨xk, xd, xn, xm, 0⟩ false a := by unfold plainA; rw [if_pos ⟨hwr0, rfl⟩]
          have hpb : plainB b ⟨false, xk, xd, xn, xm, xp⟩ = b := by unfold plainB; rw [if_neg (by simp)]
          rw [hpa] at HT1 hla
          rw [hpb] at HT2 hlb
          have HP := Lib.hid (fun W (hl : Later wr W) => put_any a (by omega) ⟨xk, xd, xn, xm, 0⟩ _ W (HA.out.later hl))
          clear hpa hpb hwr0
          go_wp2_with (first
            | (go_at_call 27; go_must (refine (HC.out _).mono ?_; rintro e w3 ⟨rfl, hb3⟩; have hl3 : Later wr w3 := Later.un1 hb3; obtain ⟨z3, c3, -⟩ := own_get (HO.out.later hb3); have i0 := c3 0; have i1 := c3 1; have i2 := c3 2; have i3 := c3 3; have i4 := c3 4; have i5 := c3 5; simp only [List.getElem?_toArray, List.getElem?_cons_zero, List.getElem?_cons_succ] at i0 i1 i2 i3 i4 i5; clear c3))
            | (go_at_call 28; go_must (refine (HP.out _ (by repeat (first | with_reducible exact Later.refl _ | with_reducible assumption | with_reducible refine Later.ofdrew ?_ | with_reducible refine Later.ofdrewN ?_ | with_reducible refine Later.setCell ?_ ?_ _ | with_reducible refine Later.alloc ?_ _ | with_reducible refine Later.drewN ?_ _ | with_reducible refine Later.drew ?_ | (with_reducible refine Later.trans ?_ (by assumption)) | (simp only [World.size_setCell, World.size_alloc, World.heap_drewN]; omega) | (simp; done) | (simp; omega)))).mono ?_; rintro e w4 ⟨v4, rfl, hN4, hb4⟩)))
          go_roundw
          case rel => exact ⟨j + 1, _, b, by omega, by go_num, Nat.le_trans hla (by omega), by omega, Lib.hid ⟨HT1.out.symm, HT2.out.symm⟩, hN4, HB.out.later (by repeat (first | with_reducible exact Later.refl _ | with_reducible assumption | with_reducible refine Later.ofdrew ?_ | with_reducible refine Later.ofdrewN ?_ | with_reducible refine Later.setCell ?_ ?_ _ | with_reducible refine Later.alloc ?_ _ | with_reducible refine Later.drewN ?_ _ | with_reducible refine Later.drew ?_ | (with_reducible refine Later.trans ?_ (by assumption)) | (simp only [World.size_setCell, World.size_alloc, World.heap_drewN]; omega) | (simp; done) | (simp; omega))), hlat.trans (by repeat (first | with_reducible exact Later.refl _ | with_reducible assumption | with_reducible refine Later.ofdrew ?_ | with_reducible refine Later.ofdrewN ?_ | with_reducible refine Later.setCell ?_ ?_ _ | with_reducible refine Later.alloc ?_ _ | with_reducible refine Later.drewN ?_ _ | with_reducible refine Later.drew ?_ | (with_reducible refine Later.trans ?_ (by assumption)) | (simp only [World.size_setCell, World.size_alloc, World.heap_drewN]; omega) | (simp; done) | (simp; omega)))⟩
          case measure => simp [intOf]; omega
        · have hpa : plainA a ⟨true, xk, xd, xn, xm, xp⟩ = a := by unfold plainA; rw [if_neg (by simp)]
          have hpb : plainB b ⟨true, xk, xd, xn, xm, xp⟩ = putR ⟨xk, xd, 0, 0, xp⟩ false b := by unfold plainB; rw [if_pos ⟨hwr0, rfl⟩]
          rw [hpa] at HT1 hla
          rw [hpb] at HT2 hlb
          have HP := Lib.hid (fun W (hl : Later wr W) => put_any b (by omega) ⟨xk, xd, 0, 0, xp⟩ _ W (HB.out.later hl))
          clear hpa hpb hwr0
          go_wp2_with (first
            | (go_at_call 27; go_must (refine (HC.out _).mono ?_; rintro e w3 ⟨rfl, hb3⟩; have hl3 : Later wr w3 := Later.un1 hb3; obtain ⟨z3, c3, -⟩ := own_get (HO.out.later hb3); have i0 := c3 0; have i1 := c3 1; have i2 := c3 2; have i3 := c3 3; have i4 := c3 4; have i5 := c3 5; simp only [List.getElem?_toArray, List.getElem?_cons_zero, List.getElem?_cons_succ] at i0 i1 i2 i3 i4 i5; clear c3))
            | (go_at_call 28; go_must (refine (HP.out _ (by repeat (first | with_reducible exact Later.refl _ | with_reducible assumption | with_reducible refine Later.ofdrew ?_ | with_reducible refine Later.ofdrewN ?_ | with_reducible refine Later.setCell ?_ ?_ _ | with_reducible refine Later.alloc ?_ _ | with_reducible refine Later.drewN ?_ _ | with_reducible refine Later.drew ?_ | (with_reducible refine Later.trans ?_ (by assumption)) | (simp only [World.size_setCell, World.size_alloc, World.heap_drewN]; omega) | (simp; done) | (simp; omega)))).mono ?_; rintro e w4 ⟨v4, rfl, hN4, hb4⟩)))
          go_roundw
          case rel => exact ⟨j + 1, a, _, by omega, by go_num, by omega, Nat.le_trans hlb (by omega), Lib.hid ⟨HT1.out.symm, HT2.out.symm⟩, HA.out.later (by repeat (first | with_reducible exact Later.refl _ | with_reducible assumption | with_reducible refine Later.ofdrew ?_ | with_reducible refine Later.ofdrewN ?_ | with_reducible refine Later.setCell ?_ ?_ _ | with_reducible refine Later.alloc ?_ _ | with_reducible refine Later.drewN ?_ _ | with_reducible refine Later.drew ?_ | (with_reducible refine Later.trans ?_ (by assumption)) | (simp only [World.size_setCell, World.size_alloc, World.heap_drewN]; omega) | (simp; done) | (simp; omega))), hN4, hlat.trans (by repeat (first | with_reducible exact Later.refl _ | with_reducible assumption | with_reducible refine Later.ofdrew ?_ | with_reducible refine Later.ofdrewN ?_ | with_reducible refine Later.setCell ?_ ?_ _ | with_reducible refine Later.alloc ?_ _ | with_reducible refine Later.drewN ?_ _ | with_reducible refine Later.drew ?_ | (with_reducible refine Later.trans ?_ (by assumption)) | (simp only [World.size_setCell, World.size_alloc, World.heap_drewN]; omega) | (simp; done) | (simp; omega)))⟩
          case measure => simp [intOf]; omega
      · have hpa : plainA a ⟨xc, xk, xd, xn, xm, xp⟩ = a := by unfold plainA; rw [if_neg (fun e => hw0 (hwr0.symm.trans e.1))]
        have hpb : plainB b ⟨xc, xk, xd, xn, xm, xp⟩ = b := by unfold plainB; rw [if_neg (fun e => hw0 (hwr0.symm.trans e.1))]
        rw [hpa] at HT1 hla
        rw [hpb] at HT2 hlb
        have h1 : (wr0 == 0) = false := by simpa using hw0
        have h2 : (wr0 != 0) = true := by simpa using hw0
        clear hpa hpb hwr0 hw0
        go_wp2_with (go_at_call 27; go_must (refine (HC.out _).mono ?_; rintro e w3 ⟨rfl, hb3⟩; have hl3 : Later wr w3 := Later.un1 hb3))
        go_roundw
        case rel => exact ⟨j + 1, a, b, by omega, by go_num, by omega, by omega, Lib.hid ⟨HT1.out.symm, HT2.out.symm⟩, HA.out.later hl3, HB.out.later hl3, hlat.trans hl3⟩
        case measure => simp [intOf]; omega
    · have hfin : l.take j = l := List.take_of_length_le (by rw [HL.out]; omega)
      have h2 := hab.out
      rw [hfin] at h2
      have HAB := Lib.hid h2
      clear hab hfin h2 hA hB
      go_wp2
      go_ret2
      exact ⟨_, _, rfl, by rw [← HAB.out.1]; exact HA.out, by rw [← HAB.out.2]; exact HB.out, hlat⟩
end Go.Proofs.YtkpadahpepeaoaaDoor

/- value: what a number is; right; the law's wrong -/
namespace Go.Proofs.YtkpadahpepeaoaaDoor
open Go.RowKit
set_option maxRecDepth 100000

/-- What is wrong with a place of a term. -/
noncomputable def wrongV (ts : List Nd) (k : Int) : Int := if ofE ts ≠ 0 then ofE ts else if k < 0 ∨ (ts.length : Int) ≤ k then 10 else if makesI ((ts[k.toNat]?).getD default).op = 1 then 0 else 14

theorem wrongV_zero {ts : List Nd} {k : Int} (h : wrongV ts k = 0) : ∃ T j s, k = (j : Nat) ∧ Good ts T ∧ j < ts.length ∧ TmAt ts j s ∧ makesI s.root.op = 1 ∧ s.sorted = true := by
  unfold wrongV at h
  split at h
  · rename_i h1; exact absurd h h1
  · rename_i h1
    have h1 : ofE ts = 0 := by apply Classical.byContradiction; exact fun e => h1 e
    split at h
    · cases h
    · rename_i h2
      split at h
      · rename_i h3
        obtain ⟨T, hT⟩ := good_of h1
        obtain ⟨j, rfl⟩ := Int.eq_ofNat_of_zero_le (show 0 ≤ k by omega)
        have hj : j < ts.length := by omega
        obtain ⟨a1, a2⟩ := hT.at
        obtain ⟨s, hs, _⟩ := tm_at_all a1 (Nat.zero_le j) (by omega)
        refine ⟨T, j, s, rfl, hT, hj, hs, ?_, ?_⟩
        · obtain ⟨x, l⟩ := s
          have := hs.root.1
          rw [Int.toNat_natCast, this] at h3
          exact h3
        · have key : ∀ (t : Tm) (k j : Nat) (s : Tm), TmAt ts k t → t.sorted = true → k ≤ j → j < k + t.size → TmAt ts j s → s.sorted = true := by
            intro t k j s ht hts h5 h6 hs
            cases hss : s.sorted with
            | true => rfl
            | false =>
              obtain ⟨i, r, b1, b2, b3, b4⟩ := unsorted_at hs hss
              have hle : i < k + t.size := by
                obtain ⟨s', c1, c2⟩ := tm_at_all ht h5 h6
                rw [TmAt.unique hs c1] at b2
                omega
              have := sorted_at ht hts (by omega) hle b3
              rw [this] at b4; cases b4
          exact key T 0 j s a1 hT.sorted (Nat.zero_le _) (by omega) hs
      · cases h

set_option maxHeartbeats 1600000 in
theorem right_any (ts : List Nd) (hlen : ts.length ≤ 100000) (hok : ∀ x ∈ ts, x.ok) (v : Value) (k : Int) (w : World) (hS : Shapes w) (hN : IsNodes w v ts) :
    Calls Tryd.prog 24 #[v, .int .i64 k] w fun e w' => e = .returned (.int .i64 (wrongV ts k)) ∧ Later w w' := by
  have HC := Lib.hid (tterm_any ts hlen hok v w hS hN)
  obtain ⟨p, cp, rfl⟩ := hN.form
  obtain ⟨E, hE⟩ : ∃ E, ofE ts = E := ⟨_, rfl⟩
  obtain ⟨s0, hs0⟩ : ∃ E, ofS ts = E := ⟨_, rfl⟩
  rw [hE, hs0] at HC
  have hW : wrongV ts k = if E ≠ 0 then E else if k < 0 ∨ (ts.length : Int) ≤ k then 10 else if makesI ((ts[k.toNat]?).getD default).op = 1 then 0 else 14 := by unfold wrongV; rw [hE]
  rw [hW]
  clear hW hE hs0
  by_cases h0 : E = 0
  · subst h0
    rw [if_neg (by simp)]
    by_cases h1 : k < 0
    · rw [if_pos (.inl h1)]
      clear hN hS
      generalize ts.length = L at *
      go_enter Tryd.func24, Tryd.ntmps24
      go_wp2_with (go_at_call 43; go_must (refine HC.out.mono ?_; rintro e w1 ⟨rfl, hb1⟩))
      go_ret
      exact ⟨rfl, hb1⟩
    · by_cases h2 : (ts.length : Int) ≤ k
      · rw [if_pos (.inr h2)]
        clear hN hS
        generalize ts.length = L at *
        go_enter Tryd.func24, Tryd.ntmps24
        go_wp2_with (go_at_call 43; go_must (refine HC.out.mono ?_; rintro e w1 ⟨rfl, hb1⟩))
        go_ret
        exact ⟨rfl, hb1⟩
      · rw [if_neg (by omega)]
        obtain ⟨j, rfl⟩ := Int.eq_ofNat_of_zero_le (show 0 ≤ k by omega)
        have hj : j < ts.length := by omega
        have hx : (ts[(j : Int).toNat]?).getD default = ts[j] := by rw [Int.toNat_natCast, List.getElem?_eq_getElem hj]; rfl
        rw [hx]
        obtain ⟨b, o, cp', hv, hb, hcap, g0, -⟩ := hN.full hj
        have HSO := Lib.hid (fun W (hl : Later w W) => sort_any (ts[j]).op W (hS.later hl))
        generalize (ts[j]).op = op at *
        obtain ⟨mk, hmk⟩ : ∃ m, makesI op = m := ⟨_, rfl⟩
        rw [hmk] at HSO ⊢
        clear hN hS hx hmk
        generalize ts.length = L at *
        cases hv
        by_cases h3 : mk = 1
        · subst h3
          rw [if_pos rfl]
          go_enter Tryd.func24, Tryd.ntmps24
          go_wp2_with (first
            | (go_at_call 43; go_must (refine HC.out.mono ?_; rintro e w1 ⟨rfl, hb1⟩; have e0 := ((bcell hb1).1 _ _ hb).trans g0))
            | (go_at_call 44; go_must (refine (HSO.out _ hb1).mono ?_; rintro e w2 ⟨rfl, hb2⟩)))
          go_ret
          exact ⟨rfl, hb1.trans hb2⟩
        · rw [if_neg h3]
          have h4 : (mk != 1) = true := by simpa using h3
          have h5 : (mk == 1) = false := by simpa using h3
          clear h3
          go_enter Tryd.func24, Tryd.ntmps24
          go_wp2_with (first
            | (go_at_call 43; go_must (refine HC.out.mono ?_; rintro e w1 ⟨rfl, hb1⟩; have e0 := ((bcell hb1).1 _ _ hb).trans g0))
            | (go_at_call 44; go_must (refine (HSO.out _ hb1).mono ?_; rintro e w2 ⟨rfl, hb2⟩)))
          go_ret
          exact ⟨rfl, hb1.trans hb2⟩
  · rw [if_pos h0]
    have h4 : (E != 0) = true := by simpa using h0
    clear hN hS h0
    go_enter Tryd.func24, Tryd.ntmps24
    go_wp2_with (go_at_call 43; go_must (refine HC.out.mono ?_; rintro e w1 ⟨rfl, hb1⟩))
    go_ret
    exact ⟨rfl, hb1⟩

set_option maxHeartbeats 1600000 in
theorem vwrong_any (ts : List Nd) (hlen : ts.length ≤ 100000) (hok : ∀ x ∈ ts, x.ok) (v : Value) (k : Int) (w : World) (hN : IsNodes w v ts) :
    Calls Tryd.prog 11 #[v, .int .i64 k] w fun e w' => e = .returned (.int .i64 (wrongV ts k)) ∧ Later w w' := by
  have HC := Lib.hid (rterm_any ts hlen hok v w hN)
  obtain ⟨p, cp, rfl⟩ := hN.form
  obtain ⟨E, hE⟩ : ∃ E, ofE ts = E := ⟨_, rfl⟩
  obtain ⟨s0, hs0⟩ : ∃ E, rofS ts = E := ⟨_, rfl⟩
  rw [hE, hs0] at HC
  have hW : wrongV ts k = if E ≠ 0 then E else if k < 0 ∨ (ts.length : Int) ≤ k then 10 else if makesI ((ts[k.toNat]?).getD default).op = 1 then 0 else 14 := by unfold wrongV; rw [hE]
  rw [hW]
  clear hW hE hs0
  by_cases h0 : E = 0
  · subst h0
    rw [if_neg (by simp)]
    by_cases h1 : k < 0
    · rw [if_pos (.inl h1)]
      clear hN
      generalize ts.length = L at *
      go_enter Tryd.func11, Tryd.ntmps11
      go_wp2_with (go_at_call 16; go_must (refine HC.out.mono ?_; rintro e w1 ⟨rfl, hb1⟩))
      go_ret
      exact ⟨rfl, hb1⟩
    · by_cases h2 : (ts.length : Int) ≤ k
      · rw [if_pos (.inr h2)]
        clear hN
        generalize ts.length = L at *
        go_enter Tryd.func11, Tryd.ntmps11
        go_wp2_with (go_at_call 16; go_must (refine HC.out.mono ?_; rintro e w1 ⟨rfl, hb1⟩))
        go_ret
        exact ⟨rfl, hb1⟩
      · rw [if_neg (by omega)]
        obtain ⟨j, rfl⟩ := Int.eq_ofNat_of_zero_le (show 0 ≤ k by omega)
        have hj : j < ts.length := by omega
        have hx : (ts[(j : Int).toNat]?).getD default = ts[j] := by rw [Int.toNat_natCast, List.getElem?_eq_getElem hj]; rfl
        rw [hx]
        obtain ⟨b, o, cp', hv, hb, hcap, g0, -⟩ := hN.full hj
        have HSO := Lib.hid (fun W => rsort_any (ts[j]).op W)
        generalize (ts[j]).op = op at *
        have hcs := sort_cases op
        obtain ⟨mk, hmk⟩ : ∃ m, makesI op = m := ⟨_, rfl⟩
        obtain ⟨st, hst⟩ : ∃ m, sortS op = m := ⟨_, rfl⟩
        rw [hmk, hst] at hcs
        rw [hst] at HSO
        rw [hmk]
        clear hN hx hmk hst
        generalize ts.length = L at *
        cases hv
        rcases hcs with ⟨rfl, rfl⟩ | ⟨rfl, rfl⟩ | ⟨rfl, rfl⟩
        all_goals
          first | rw [if_pos rfl] | rw [if_neg (by decide)]
          go_enter Tryd.func11, Tryd.ntmps11
          go_wp2_with (first
            | (go_at_call 16; go_must (refine HC.out.mono ?_; rintro e w1 ⟨rfl, hb1⟩; have e0 := ((bcell hb1).1 _ _ hb).trans g0))
            | (go_at_call 26; go_must (refine (HSO.out _).mono ?_; rintro e w2 ⟨rfl, rfl⟩)))
          go_ret
          exact ⟨rfl, hb1⟩
  · rw [if_pos h0]
    have h4 : (E != 0) = true := by simpa using h0
    clear hN h0
    go_enter Tryd.func11, Tryd.ntmps11
    go_wp2_with (go_at_call 16; go_must (refine HC.out.mono ?_; rintro e w1 ⟨rfl, hb1⟩))
    go_ret
    exact ⟨rfl, hb1⟩
end Go.Proofs.YtkpadahpepeaoaaDoor
