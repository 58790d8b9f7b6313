/- audit's reference: Check -/
import Derived.Test.YtckeaibamgkegaaGreatDoorQ23
import Derived.Test.YtckeaibamgkegaaGreatDoorQ26
import Derived.Test.YtckeaibamgkegaaGreatDoorQ24
set_option linter.all false
set_option linter.all false
section
/- audit's reference: back, Check -/
namespace Go.Proofs.YtckeaibamgkegaaGreatDoor
open Go.RowKit
set_option maxRecDepth 100000

theorem mirR_idx {a b : List Rw} (h : a.length = b.length) : mirR a b = true ↔ ∀ i (h1 : i < a.length) (h2 : i < b.length), mirB a[i] b[i] = true := by
  rw [mirR_eq, decide_eq_true h, Bool.true_and, List.all_eq_true]
  constructor
  · intro hp i h1 h2
    exact hp (a[i], b[i]) (by
      have hz : i < (a.zip b).length := by rw [List.length_zip]; omega
      have := List.getElem_mem hz
      rwa [List.getElem_zip] at this)
  · intro hp p hpm
    obtain ⟨i, hi, rfl⟩ := List.getElem_of_mem hpm
    rw [List.length_zip] at hi
    rw [List.getElem_zip]
    exact hp i (by omega) (by omega)
theorem mirR_len {a b : List Rw} (h : a.length ≠ b.length) : mirR a b = false := by rw [mirR_eq, decide_eq_false h, Bool.false_and]
/-- What is wrong with what an entry reverses, said over rows' places. -/
theorem backG_at (l : List Rw) {n : Nat} (hn : n < (groups l).length) (x : Rw) (hx : l.getD (offG (groups l) n) rw0 = x) :
    backG (groups l) n = (if x.ref = -1 then 0 else if x.ref < 0 ∨ (n : Int) ≤ x.ref then 16
      else if ((groups l).take n).any (fun g => decide ((hd g).ref = x.ref)) then 17
      else if (hd ((groups l).getD x.ref.toNat [])).ref ≠ -1 then 24 else if mirR ((groups l).getD x.ref.toNat []) ((groups l).getD n []) = false then 20 else 0) := by
  unfold backG
  have e : hd ((groups l).getD n []) = x := by rw [getD_at hn, (group_rows l hn).2.1, hx]
  rw [e]
theorem any_ref (l : List Rw) {n : Nat} (hn : n ≤ (groups l).length) (ref : Int) : ((groups l).take n).any (fun g => decide ((hd g).ref = ref)) = true ↔ ∃ i, i < n ∧ (l.getD (offG (groups l) i) rw0).ref = ref := by
  rw [List.any_eq_true]
  constructor
  · rintro ⟨g, hg, hr⟩
    obtain ⟨i, hi, rfl⟩ := List.getElem_of_mem hg
    rw [List.length_take] at hi
    refine ⟨i, by omega, ?_⟩
    rw [List.getElem_take] at hr
    rw [← (group_rows l (n := i) (by omega)).2.1]
    exact of_decide_eq_true hr
  · rintro ⟨i, hi, hr⟩
    refine ⟨(groups l)[i]'(by omega), ?_, ?_⟩
    · rw [List.mem_take_iff_getElem]
      exact ⟨i, by omega, rfl⟩
    · rw [(group_rows l (n := i) (by omega)).2.1, hr]; simp
theorem mir_at (l : List Rw) {k n : Nat} (hk : k < (groups l).length) (hn : n < (groups l).length) :
    (offG (groups l) (k + 1) - offG (groups l) k ≠ offG (groups l) (n + 1) - offG (groups l) n → mirR ((groups l).getD k []) ((groups l).getD n []) = false) ∧
    (offG (groups l) (k + 1) - offG (groups l) k = offG (groups l) (n + 1) - offG (groups l) n →
      (mirR ((groups l).getD k []) ((groups l).getD n []) = true ↔ ∀ i, i < offG (groups l) (n + 1) - offG (groups l) n → mirB (l.getD (offG (groups l) k + i) rw0) (l.getD (offG (groups l) n + i) rw0) = true)) := by
  rw [getD_at hk, getD_at hn]
  obtain ⟨e1, -, f1⟩ := group_rows l hk
  obtain ⟨e2, -, f2⟩ := group_rows l hn
  refine ⟨fun h => mirR_len (by omega), fun h => ?_⟩
  rw [mirR_idx (by omega)]
  constructor
  · intro hp i hi
    obtain ⟨h3, h4⟩ := f1 (offG (groups l) k + i) (by omega) (by omega)
    obtain ⟨h5, h6⟩ := f2 (offG (groups l) n + i) (by omega) (by omega)
    rw [← h4, ← h6]
    have := hp i (by omega) (by omega)
    simp only [Nat.add_sub_cancel_left]
    exact this
  · intro hp i h1 h2
    have := hp i (by omega)
    obtain ⟨h3, h4⟩ := f1 (offG (groups l) k + i) (by omega) (by omega)
    obtain ⟨h5, h6⟩ := f2 (offG (groups l) n + i) (by omega) (by omega)
    rw [← h4, ← h6] at this
    simp only [Nat.add_sub_cancel_left] at this
    exact this

set_option maxHeartbeats 8000000 in
theorem rback_any (l : List Rw) (hlen : l.length ≤ 10000) (n : Nat) (hn : n < (groups l).length) (v vs : Value) (w : World) (hN : IsRow 9 rwF w v l) (hS : IsInts w vs (startsG l)) :
    Calls Tryz.prog 23 #[v, vs, .int .i64 n] w fun e w' => e = .returned (.int .i64 (backG (groups l) n)) ∧ Later w w' := by
  have hGL : (groups l).length ≤ l.length := by
    have := groups_bd l []
    simpa [groups] using this
  have hlt := offG_lt l hn
  have hsl := startsG_len l
  have HSP := Lib.hid (fun k (hk : k < (groups l).length) W (hl : Later w W) => rspan_any l (by omega) _ _ (seg_groups l hk) v W (hN.later hl))
  obtain ⟨gb, go, gc, rfl, hgb, hC⟩ := rows_cells hN (by omega)
  obtain ⟨sb, so, sc, rfl, hsb, hSC⟩ := ints_cells hS (by omega)
  have hSA2 : ∀ i, i < (groups l).length → (startsG l).getD i 0 = ((offG (groups l) i : Nat) : Int) := fun i hi => by
    have hi' : i < (startsG l).length := by rw [hsl]; exact hi
    rw [getD_at hi']
    exact startsG_at l hi'
  have HSC := Lib.hid (fun W (hl : Later w W) i (hi : i < (groups l).length) => (hSC W hl i (by rw [hsl]; exact hi)).trans (by rw [hSA2 i hi]))
  have HC := Lib.hid hC
  have HLT := Lib.hid (fun k (hk : k < (groups l).length) => offG_lt l hk)
  obtain ⟨x, hx⟩ : ∃ x, l.getD (offG (groups l) n) rw0 = x := ⟨_, rfl⟩
  have hB := backG_at l hn x hx
  have HANY := Lib.hid (any_ref l (n := n) (by omega) x.ref)
  have HMIR := Lib.hid (fun k (hk : k < (groups l).length) => mir_at l hk hn)
  have HHD := Lib.hid (fun k (hk : k < (groups l).length) => (show hd ((groups l).getD k []) = l.getD (offG (groups l) k) rw0 by rw [getD_at hk]; exact (group_rows l hk).2.1))
  have hc5 := fun W (hl : Later w W) => hC W hl _ hlt.1 5 (by omega)
  rw [hx] at hc5
  simp only [Rw.nums, List.getD_cons_zero, List.getD_cons_succ] at hc5
  clear hN hS hSA2 hSC hC hx
  rw [hsl]
  clear hsl
  obtain ⟨bk, hbk⟩ : ∃ b, backG (groups l) n = b := ⟨_, rfl⟩
  rw [hbk] at hB ⊢
  have HB := Lib.hid hB
  clear hB hbk
  generalize groups l = gs at *
  obtain ⟨off, hoff⟩ : ∃ off, offG gs = off := ⟨_, rfl⟩
  simp only [hoff] at hlt HSP HSC HLT HANY HMIR HHD hc5
  clear hoff
  obtain ⟨G, hG⟩ : ∃ G, gs.length = G := ⟨_, rfl⟩
  simp only [hG] at hn hGL HSP HSC HLT HMIR HHD ⊢
  clear hG
  obtain ⟨L, hLL⟩ : ∃ L, l.length = L := ⟨_, rfl⟩
  simp only [hLL] at HC hGL hlen hlt HSP HLT ⊢
  clear hLL
  obtain ⟨ref, href⟩ : ∃ r, x.ref = r := ⟨_, rfl⟩
  rw [href] at HB HANY hc5
  clear href
  have hsn0 := HSC.out w (Later.refl _) n hn
  have hc50 := hc5 w (Later.refl _)
  obtain ⟨a, ha⟩ : ∃ a, off n = a := ⟨_, rfl⟩
  obtain ⟨b, hb⟩ : ∃ b, off (n + 1) = b := ⟨_, rfl⟩
  simp only [ha] at hsn0 hc50 hlt
  simp only [hb] at hlt
  clear hc5
  obtain ⟨ha1, ha2, ha3⟩ := hlt
  have HAB := Lib.hid (And.intro ha hb)
  clear ha hb
  by_cases h1 : ref = -1
  · have hB := HB.out
    rw [if_pos h1] at hB
    have HOWN := Lib.hid hB
    subst h1
    clear HB HSC HC HLT HANY HMIR HHD HSP hB
    go_enter Tryz.func23, Tryz.ntmps23
    go_wp2
    go_ret
    exact ⟨ret_int HOWN.out.symm, Later.refl _⟩
  have h1b : (ref == -1) = false := by simpa using h1
  by_cases h2 : ref < 0 ∨ (n : Int) ≤ ref
  · have hB := HB.out
    rw [if_neg h1, if_pos h2] at hB
    have HOWN := Lib.hid hB
    clear HB HSC HC HLT HANY HMIR HHD HSP hB h1
    by_cases h3 : ref < 0
    · clear h2
      go_enter Tryz.func23, Tryz.ntmps23
      go_wp2
      go_ret
      exact ⟨ret_int HOWN.out.symm, Later.refl _⟩
    · have h4 : (n : Int) ≤ ref := by omega
      clear h2
      go_enter Tryz.func23, Tryz.ntmps23
      go_wp2
      go_ret
      exact ⟨ret_int HOWN.out.symm, Later.refl _⟩
  obtain ⟨k, rfl⟩ : ∃ k : Nat, ref = k := ⟨ref.toNat, by omega⟩
  have hkn : k < n := by omega
  have hB := HB.out
  rw [if_neg h1, if_neg h2, Int.toNat_natCast] at hB
  have HB := Lib.hid hB
  have h3a : ¬ ((k : Int) < 0) := by omega
  have h3b : ¬ ((n : Int) ≤ (k : Int)) := by omega
  clear hB h1 h2
  go_enter Tryz.func23, Tryz.ntmps23
  go_wp2
  go_loop [9] (fun s9 => ∃ i : Nat, i ≤ n ∧ s9 = .int .i64 i ∧ Hid (∀ j, j < i → (l.getD (off j) rw0).ref ≠ (k : Int))) (fun s9 => n - (intOf s9).toNat)
  case atStart => exact ⟨0, Nat.zero_le _, rfl, Lib.hid (fun j h => by omega)⟩
  case round =>
    obtain ⟨i, hi, rfl, hall⟩ := hrel
    by_cases hin : i < n
    · have hiG : i < G := by omega
      have ho := HLT.out i hiG
      have cs := HSC.out w (Later.refl _) i hiG
      have c5 := HC.out w (Later.refl _) (off i) ho.1 5 (by omega)
      simp only [Rw.nums, List.getD_cons_zero, List.getD_cons_succ] at c5
      by_cases hr : (l.getD (off i) rw0).ref = (k : Int)
      · have hB := HB.out
        rw [if_pos (HANY.out.2 ⟨i, hin, hr⟩)] at hB
        have HOWN := Lib.hid hB
        rw [hr] at c5
        clear HB HSC HC HLT HANY HMIR HHD HSP hB hall hr
        generalize off i = oi at *
        go_wp2
        go_ret
        exact ⟨ret_int HOWN.out.symm, Later.refl _⟩
      · have hA : Hid (∀ j, j < i + 1 → (l.getD (off j) rw0).ref ≠ (k : Int)) := Lib.hid (fun j h => by
          by_cases h2 : j = i
          · subst h2; exact hr
          · exact hall.out j (by omega))
        have hrb : ((l.getD (off i) rw0).ref == (k : Int)) = false := by simpa using hr
        clear HB HSC HC HLT HANY HMIR HHD HSP hall hr
        generalize (l.getD (off i) rw0).ref = r5 at *
        generalize off i = oi at *
        go_wp2
        go_round
        case rel => exact ⟨i + 1, by omega, by go_num, hA⟩
        case measure => simp [intOf]; omega
    · have hin' : i = n := by omega
      subst hin'
      have hno : ¬ (List.any (List.take i gs) (fun g => decide ((hd g).ref = (k : Int))) = true) := fun h => by
        obtain ⟨j, hj, hr⟩ := HANY.out.1 h
        exact hall.out j hj hr
      have hB := HB.out
      rw [if_neg hno] at hB
      have hkG : k < G := by omega
      have ho := HLT.out k hkG
      have cs := HSC.out w (Later.refl _) k hkG
      have c5 := HC.out w (Later.refl _) (off k) ho.1 5 (by omega)
      simp only [Rw.nums, List.getD_cons_zero, List.getD_cons_succ] at c5
      rw [HHD.out k hkG] at hB
      have HM := Lib.hid (HMIR.out k hkG)
      rw [HAB.out.1, HAB.out.2] at HM
      have HSK := Lib.hid (fun W hl => HSP.out k hkG W hl)
      have HSN := Lib.hid (fun W hl => HSP.out i (by omega) W hl)
      rw [HAB.out.1, HAB.out.2] at HSN
      clear HB HSC HLT HANY HMIR HHD HSP hall hno hsn0 hc50
      obtain ⟨o1, ho1⟩ : ∃ z, off k = z := ⟨_, rfl⟩
      obtain ⟨e1, he1⟩ : ∃ z, off (k + 1) = z := ⟨_, rfl⟩
      simp only [ho1, he1] at ho cs c5 hB HM HSK
      clear ho1 he1
      by_cases hlive : (l.getD o1 rw0).ref = -1
      · rw [if_neg (fun e => e hlive)] at hB
        rw [hlive] at c5
        have HB := Lib.hid hB
        clear hB hlive
        obtain ⟨m1, hm1⟩ : ∃ z : Nat, e1 - o1 = z := ⟨_, rfl⟩
        obtain ⟨m2, hm2⟩ : ∃ z : Nat, b - a = z := ⟨_, rfl⟩
        have hd1 : (e1 : Int) - (o1 : Int) = (m1 : Int) := by omega
        have hd2 : (b : Int) - (a : Int) = (m2 : Int) := by omega
        have hmb1 : m1 ≤ 10000 := by omega
        have hmb2 : m2 ≤ 10000 := by omega
        rw [hm1, hm2] at HM
        have tok1 : True := trivial
        by_cases hm : m1 = m2
        · have hmb : ((m1 : Int) != (m2 : Int)) = false := by rw [bne_eq_false_iff_eq]; omega
          have HMI := Lib.hid (HM.out.2 hm)
          have hm2' := hm2
          clear HM hm1 hm2
          go_wp2_with (first | (go_at_call 53; clear tok1; go_must (refine (HSK.out _ (by repeat (first | with_reducible exact Later.refl _ | with_reducible assumption | with_reducible refine Later.ofdrew ?_ | with_reducible refine Later.ofdrewN ?_ | with_reducible refine Later.setCell ?_ ?_ _ | with_reducible refine Later.alloc ?_ _ | with_reducible refine Later.drewN ?_ _ | with_reducible refine Later.drew ?_ | (with_reducible refine Later.trans ?_ (by assumption)) | (simp only [World.size_setCell, World.size_alloc, World.heap_drewN]; omega) | (simp; done) | (simp; omega)))).mono ?_; rintro e w4 ⟨rfl, hb4⟩)) | (go_at_call 53; go_must (refine (HSN.out _ (by repeat (first | with_reducible exact Later.refl _ | with_reducible assumption | with_reducible refine Later.ofdrew ?_ | with_reducible refine Later.ofdrewN ?_ | with_reducible refine Later.setCell ?_ ?_ _ | with_reducible refine Later.alloc ?_ _ | with_reducible refine Later.drewN ?_ _ | with_reducible refine Later.drew ?_ | (with_reducible refine Later.trans ?_ (by assumption)) | (simp only [World.size_setCell, World.size_alloc, World.heap_drewN]; omega) | (simp; done) | (simp; omega)))).mono ?_; rintro e w5 ⟨rfl, hb5⟩)))
          have hl5 : Later w w5 := by repeat (first | with_reducible exact Later.refl _ | with_reducible assumption | with_reducible refine Later.ofdrew ?_ | with_reducible refine Later.ofdrewN ?_ | with_reducible refine Later.setCell ?_ ?_ _ | with_reducible refine Later.alloc ?_ _ | with_reducible refine Later.drewN ?_ _ | with_reducible refine Later.drew ?_ | (with_reducible refine Later.trans ?_ (by assumption)) | (simp only [World.size_setCell, World.size_alloc, World.heap_drewN]; omega) | (simp; done) | (simp; omega))
          go_loopw [11] (fun s11 wr => ∃ j : Nat, j ≤ m2 ∧ s11 = .int .i64 j ∧ Hid (∀ q, q < j → mirB (l.getD (o1 + q) rw0) (l.getD (a + q) rw0) = true) ∧ Later w wr) (fun s11 _ => m2 - (intOf s11).toNat)
          case atStart => exact ⟨0, Nat.zero_le _, rfl, Lib.hid (fun q h => by omega), hl5⟩
          case round =>
            obtain ⟨j, hj, rfl, hall, hlat⟩ := hrel
            by_cases hjm : j < m2
            · obtain ⟨p, hp⟩ : ∃ z : Nat, o1 + j = z := ⟨_, rfl⟩
              obtain ⟨u, hu⟩ : ∃ z : Nat, a + j = z := ⟨_, rfl⟩
              have hp1 : (o1 : Int) + (j : Int) = (p : Int) := by omega
              have hu1 : (a : Int) + (j : Int) = (u : Int) := by omega
              have hpL : p < L := by omega
              have huL : u < L := by omega
              have hub : (u : Int) < (b : Int) := by omega
              have HCP := Lib.hid (fun W (hl : Later w W) j hj => HC.out W hl p hpL j hj)
              have HCU := Lib.hid (fun W (hl : Later w W) j hj => HC.out W hl u huL j hj)
              have hstep : mirB (l.getD p rw0) (l.getD u rw0) = true → Hid (∀ q, q < j + 1 → mirB (l.getD (o1 + q) rw0) (l.getD (a + q) rw0) = true) := fun h => Lib.hid (fun q hq => by
                by_cases hqj : q = j
                · subst hqj; rw [hp, hu]; exact h
                · exact hall.out q (by omega))
              have hbad : mirB (l.getD p rw0) (l.getD u rw0) = false → Hid (bk = 20) := fun h => Lib.hid (by
                have hB := HB.out
                rw [if_pos] at hB
                · exact hB
                · refine Bool.eq_false_iff.2 (fun e => ?_)
                  have := HMI.out.1 e j hjm
                  rw [hp, hu, h] at this
                  cases this)
              have HSTEP := Lib.hid hstep
              have HBAD := Lib.hid hbad
              clear HB HMI hall hstep hbad HC hp hu
              generalize l.getD p rw0 = X at *
              generalize l.getD u rw0 = Y at *
              obtain ⟨x0, x1, x2, x3, x4, x5, x6, x7, x8⟩ := X
              obtain ⟨y0, y1, y2, y3, y4, y5, y6, y7, y8⟩ := Y
              clear HSK
              go_upto_region 20 with (go_at_call 53; go_must (refine (HSN.out _ (by repeat (first | with_reducible exact Later.refl _ | with_reducible assumption | with_reducible refine Later.ofdrew ?_ | with_reducible refine Later.ofdrewN ?_ | with_reducible refine Later.setCell ?_ ?_ _ | with_reducible refine Later.alloc ?_ _ | with_reducible refine Later.drewN ?_ _ | with_reducible refine Later.drew ?_ | (with_reducible refine Later.trans ?_ (by assumption)) | (simp only [World.size_setCell, World.size_alloc, World.heap_drewN]; omega) | (simp; done) | (simp; omega)))).mono ?_; rintro e w6 ⟨rfl, hb6⟩))
              refine wp_opaque (fun W8 hb8 => ?_)
              have hl8 : Later w W8 := hlat.trans (Later.trans (by repeat (first | with_reducible exact Later.refl _ | with_reducible assumption | with_reducible refine Later.ofdrew ?_ | with_reducible refine Later.ofdrewN ?_ | with_reducible refine Later.setCell ?_ ?_ _ | with_reducible refine Later.alloc ?_ _ | with_reducible refine Later.drewN ?_ _ | with_reducible refine Later.drew ?_ | (with_reducible refine Later.trans ?_ (by assumption)) | (simp only [World.size_setCell, World.size_alloc, World.heap_drewN]; omega) | (simp; done) | (simp; omega))) hb8)
              have hgz := Nat.lt_of_lt_of_le hgb (Later.size hl8)
              have CP := HCP.out _ hl8
              have CU := HCU.out _ hl8
              simp only [Rw.nums] at CP CU
              have c0 := CP 0 (by omega)
              have c1 := CP 1 (by omega)
              have c2 := CP 2 (by omega)
              have c3 := CP 3 (by omega)
              have c4 := CP 4 (by omega)
              have c5 := CP 5 (by omega)
              have c6 := CP 6 (by omega)
              have c7 := CP 7 (by omega)
              have c8 := CP 8 (by omega)
              have d0 := CU 0 (by omega)
              have d1 := CU 1 (by omega)
              have d2 := CU 2 (by omega)
              have d3 := CU 3 (by omega)
              have d4 := CU 4 (by omega)
              have d5 := CU 5 (by omega)
              have d6 := CU 6 (by omega)
              have d7 := CU 7 (by omega)
              have d8 := CU 8 (by omega)
              simp only [List.getD_cons_zero, List.getD_cons_succ, Nat.add_zero] at c0 c1 c2 c3 c4 c5 c6 c7 c8 d0 d1 d2 d3 d4 d5 d6 d7 d8
              clear CP CU HCP HCU
              go_upto_region 22 with (fail)
              obtain ⟨am, ham⟩ : ∃ m, wrap64 (-y8) = m := ⟨_, rfl⟩
              by_cases h3 : x3 = y3
              rotate_left
              · have hb1 : (x3 == y3) = false := by simpa using h3
                have hb2 : (x3 != y3) = true := by simpa using h3
                have HBK := (HBAD.out (by unfold mirB; simp [ng, i64_wrap, *]))
                clear HSTEP HBAD h3
                go_wp2
                go_ret
                exact ⟨ret_int HBK.out.symm, hl8.trans (by repeat (first | with_reducible exact Later.refl _ | with_reducible assumption | with_reducible refine Later.ofdrew ?_ | with_reducible refine Later.ofdrewN ?_ | with_reducible refine Later.setCell ?_ ?_ _ | with_reducible refine Later.alloc ?_ _ | with_reducible refine Later.drewN ?_ _ | with_reducible refine Later.drew ?_ | (with_reducible refine Later.trans ?_ (by assumption)) | (simp only [World.size_setCell, World.size_alloc, World.heap_drewN]; omega) | (simp; done) | (simp; omega)))⟩
              subst h3
              by_cases h4 : x4 = y4
              rotate_left
              · have hb1 : (x4 == y4) = false := by simpa using h4
                have hb2 : (x4 != y4) = true := by simpa using h4
                have HBK := (HBAD.out (by unfold mirB; simp [ng, i64_wrap, *]))
                clear HSTEP HBAD h4
                go_wp2
                go_ret
                exact ⟨ret_int HBK.out.symm, hl8.trans (by repeat (first | with_reducible exact Later.refl _ | with_reducible assumption | with_reducible refine Later.ofdrew ?_ | with_reducible refine Later.ofdrewN ?_ | with_reducible refine Later.setCell ?_ ?_ _ | with_reducible refine Later.alloc ?_ _ | with_reducible refine Later.drewN ?_ _ | with_reducible refine Later.drew ?_ | (with_reducible refine Later.trans ?_ (by assumption)) | (simp only [World.size_setCell, World.size_alloc, World.heap_drewN]; omega) | (simp; done) | (simp; omega)))⟩
              subst h4
              by_cases h6 : x6 = y6
              rotate_left
              · have hb1 : (x6 == y6) = false := by simpa using h6
                have hb2 : (x6 != y6) = true := by simpa using h6
                have HBK := (HBAD.out (by unfold mirB; simp [ng, i64_wrap, *]))
                clear HSTEP HBAD h6
                go_wp2
                go_ret
                exact ⟨ret_int HBK.out.symm, hl8.trans (by repeat (first | with_reducible exact Later.refl _ | with_reducible assumption | with_reducible refine Later.ofdrew ?_ | with_reducible refine Later.ofdrewN ?_ | with_reducible refine Later.setCell ?_ ?_ _ | with_reducible refine Later.alloc ?_ _ | with_reducible refine Later.drewN ?_ _ | with_reducible refine Later.drew ?_ | (with_reducible refine Later.trans ?_ (by assumption)) | (simp only [World.size_setCell, World.size_alloc, World.heap_drewN]; omega) | (simp; done) | (simp; omega)))⟩
              subst h6
              by_cases h7 : x7 = y7
              rotate_left
              · have hb1 : (x7 == y7) = false := by simpa using h7
                have hb2 : (x7 != y7) = true := by simpa using h7
                have HBK := (HBAD.out (by unfold mirB; simp [ng, i64_wrap, *]))
                clear HSTEP HBAD h7
                go_wp2
                go_ret
                exact ⟨ret_int HBK.out.symm, hl8.trans (by repeat (first | with_reducible exact Later.refl _ | with_reducible assumption | with_reducible refine Later.ofdrew ?_ | with_reducible refine Later.ofdrewN ?_ | with_reducible refine Later.setCell ?_ ?_ _ | with_reducible refine Later.alloc ?_ _ | with_reducible refine Later.drewN ?_ _ | with_reducible refine Later.drew ?_ | (with_reducible refine Later.trans ?_ (by assumption)) | (simp only [World.size_setCell, World.size_alloc, World.heap_drewN]; omega) | (simp; done) | (simp; omega)))⟩
              subst h7
              by_cases h8 : x8 = am
              rotate_left
              · have hb1 : (x8 == am) = false := by simpa using h8
                have hb2 : (x8 != am) = true := by simpa using h8
                have HBK := (HBAD.out (by unfold mirB; simp [ng, i64_wrap, *]))
                clear HSTEP HBAD h8
                go_wp2
                go_ret
                exact ⟨ret_int HBK.out.symm, hl8.trans (by repeat (first | with_reducible exact Later.refl _ | with_reducible assumption | with_reducible refine Later.ofdrew ?_ | with_reducible refine Later.ofdrewN ?_ | with_reducible refine Later.setCell ?_ ?_ _ | with_reducible refine Later.alloc ?_ _ | with_reducible refine Later.drewN ?_ _ | with_reducible refine Later.drew ?_ | (with_reducible refine Later.trans ?_ (by assumption)) | (simp only [World.size_setCell, World.size_alloc, World.heap_drewN]; omega) | (simp; done) | (simp; omega)))⟩
              have HA := HSTEP.out (by unfold mirB; simp [ng, i64_wrap, *])
              subst h8
              clear HSTEP HBAD
              go_wp2
              go_roundw
              case rel => exact ⟨j + 1, by omega, by go_num, HA, hl8.trans (by repeat (first | with_reducible exact Later.refl _ | with_reducible assumption | with_reducible refine Later.ofdrew ?_ | with_reducible refine Later.ofdrewN ?_ | with_reducible refine Later.setCell ?_ ?_ _ | with_reducible refine Later.alloc ?_ _ | with_reducible refine Later.drewN ?_ _ | with_reducible refine Later.drew ?_ | (with_reducible refine Later.trans ?_ (by assumption)) | (simp only [World.size_setCell, World.size_alloc, World.heap_drewN]; omega) | (simp; done) | (simp; omega)))⟩
              case measure => simp [intOf]; omega
            · have hjm' : j = m2 := by omega
              have HOWN : Hid (bk = 0) := Lib.hid (by
                have hB := HB.out
                rw [if_neg] at hB
                · exact hB
                · intro e
                  have := HMI.out.2 (fun q hq => hall.out q (by omega))
                  rw [this] at e; cases e)
              subst hjm'
              have hu1 : (a : Int) + (j : Int) = (b : Int) := by omega
              clear HB HMI hall HC HSK
              go_wp2_with (go_at_call 53; go_must (refine (HSN.out _ (by repeat (first | with_reducible exact Later.refl _ | with_reducible assumption | with_reducible refine Later.ofdrew ?_ | with_reducible refine Later.ofdrewN ?_ | with_reducible refine Later.setCell ?_ ?_ _ | with_reducible refine Later.alloc ?_ _ | with_reducible refine Later.drewN ?_ _ | with_reducible refine Later.drew ?_ | (with_reducible refine Later.trans ?_ (by assumption)) | (simp only [World.size_setCell, World.size_alloc, World.heap_drewN]; omega) | (simp; done) | (simp; omega)))).mono ?_; rintro e w6 ⟨rfl, hb6⟩))
              go_ret
              exact ⟨ret_int HOWN.out.symm, hlat.trans (by repeat (first | with_reducible exact Later.refl _ | with_reducible assumption | with_reducible refine Later.ofdrew ?_ | with_reducible refine Later.ofdrewN ?_ | with_reducible refine Later.setCell ?_ ?_ _ | with_reducible refine Later.alloc ?_ _ | with_reducible refine Later.drewN ?_ _ | with_reducible refine Later.drew ?_ | (with_reducible refine Later.trans ?_ (by assumption)) | (simp only [World.size_setCell, World.size_alloc, World.heap_drewN]; omega) | (simp; done) | (simp; omega)))⟩
        · have hmb : ((m1 : Int) != (m2 : Int)) = true := by rw [bne_iff_ne]; omega
          have hB := HB.out
          rw [if_pos (HM.out.1 hm)] at hB
          have HOWN := Lib.hid hB
          clear HB HM hB hm1 hm2 hm HC
          go_wp2_with (first | (go_at_call 53; clear tok1; go_must (refine (HSK.out _ (by repeat (first | with_reducible exact Later.refl _ | with_reducible assumption | with_reducible refine Later.ofdrew ?_ | with_reducible refine Later.ofdrewN ?_ | with_reducible refine Later.setCell ?_ ?_ _ | with_reducible refine Later.alloc ?_ _ | with_reducible refine Later.drewN ?_ _ | with_reducible refine Later.drew ?_ | (with_reducible refine Later.trans ?_ (by assumption)) | (simp only [World.size_setCell, World.size_alloc, World.heap_drewN]; omega) | (simp; done) | (simp; omega)))).mono ?_; rintro e w4 ⟨rfl, hb4⟩)) | (go_at_call 53; go_must (refine (HSN.out _ (by repeat (first | with_reducible exact Later.refl _ | with_reducible assumption | with_reducible refine Later.ofdrew ?_ | with_reducible refine Later.ofdrewN ?_ | with_reducible refine Later.setCell ?_ ?_ _ | with_reducible refine Later.alloc ?_ _ | with_reducible refine Later.drewN ?_ _ | with_reducible refine Later.drew ?_ | (with_reducible refine Later.trans ?_ (by assumption)) | (simp only [World.size_setCell, World.size_alloc, World.heap_drewN]; omega) | (simp; done) | (simp; omega)))).mono ?_; rintro e w5 ⟨rfl, hb5⟩)))
          go_ret
          exact ⟨ret_int HOWN.out.symm, by repeat (first | with_reducible exact Later.refl _ | with_reducible assumption | with_reducible refine Later.ofdrew ?_ | with_reducible refine Later.ofdrewN ?_ | with_reducible refine Later.setCell ?_ ?_ _ | with_reducible refine Later.alloc ?_ _ | with_reducible refine Later.drewN ?_ _ | with_reducible refine Later.drew ?_ | (with_reducible refine Later.trans ?_ (by assumption)) | (simp only [World.size_setCell, World.size_alloc, World.heap_drewN]; omega) | (simp; done) | (simp; omega))⟩
      · rw [if_pos hlive] at hB
        have HOWN := Lib.hid hB
        have hb2 : ((l.getD o1 rw0).ref != -1) = true := by rw [bne_iff_ne]; exact hlive
        have hb3 : ((l.getD o1 rw0).ref == -1) = false := by simpa using hlive
        clear hlive hB HM HSK HSN HC
        generalize (l.getD o1 rw0).ref = r5 at *
        go_wp2
        go_ret
        exact ⟨ret_int HOWN.out.symm, Later.refl _⟩
end Go.Proofs.YtckeaibamgkegaaGreatDoor
end
section
/- audit's reference: Check -/
namespace Go.Proofs.YtckeaibamgkegaaGreatDoor
open Go.RowKit
set_option maxRecDepth 100000

set_option maxHeartbeats 4000000 in
theorem rcheck_any (l : List Rw) (hlen : l.length ≤ 10000) (hw : ∀ r ∈ l, I64 r.amt) (v : Value) (w : World) (hN : IsRow 9 rwF w v l) :
    Calls Tryz.prog 7 #[v] w fun e w' => e = .returned (.int .i64 (checkG (groups l))) ∧ Later w w' := by
  have HST := Lib.hid (starts_any l (by omega) v w hN)
  have HOW := Lib.hid (fun n (hn : n < (groups l).length) u W (hl : Later w W) hS => rown_any l hlen hw n hn v u W (hN.later hl) hS)
  have HBA := Lib.hid (fun n (hn : n < (groups l).length) u W (hl : Later w W) hS => rback_any l hlen n hn v u W (hN.later hl) hS)
  have HF := Lib.hid (fun k (hk : k < (groups l).length) h hr => checkG_first (gs := groups l) (k := k) hk h hr)
  have HZ := Lib.hid (checkG_zero (gs := groups l))
  have hgl : (groups l).length ≤ l.length := by
    have := groups_bd l []
    simpa [groups] using this
  have hsl := startsG_len l
  obtain ⟨p, cp, rfl⟩ := hN.form
  clear hN
  obtain ⟨Z, hZ⟩ : ∃ Z, startsG l = Z := ⟨_, rfl⟩
  rw [hZ] at HST HOW HBA hsl
  clear hZ
  obtain ⟨C, hC⟩ : ∃ c, checkG (groups l) = c := ⟨_, rfl⟩
  simp only [hC] at HF HZ ⊢
  clear hC
  have hr : ∀ n, ruleG (groups l) n = if ownG (groups l) n ≠ 0 then ownG (groups l) n else backG (groups l) n := fun n => rfl
  simp only [hr] at HF HZ
  clear hr
  obtain ⟨OW, how⟩ : ∃ f, ownG (groups l) = f := ⟨_, rfl⟩
  obtain ⟨BA, hba⟩ : ∃ f, backG (groups l) = f := ⟨_, rfl⟩
  simp only [how, hba] at HF HZ HOW HBA
  clear how hba
  generalize (groups l).length = G at *
  generalize l.length = L at *
  go_enter Tryz.func7, Tryz.ntmps7
  go_upto_region 2 with (go_at_call 21; go_must (refine HST.out.mono ?_; rintro e w4 ⟨u4, rfl, hI4, hb4⟩))
  refine wp_opaque (fun W8 hb8 => ?_)
  have HI8 := Lib.hid (hI4.later hb8)
  have hw8 : Later w W8 := hb4.trans hb8
  obtain ⟨p4, c4, rfl⟩ := hI4.form
  rw [hsl] at HI8 ⊢
  clear hI4 hb4 hb8 HST hsl
  go_wp2
  go_loopw [4, 5] (fun s4 s5 wr => ∃ n : Nat, n ≤ G ∧ s4 = .int .i64 n ∧ Hid (∀ j, j < n → (if OW j ≠ 0 then OW j else BA j) = 0) ∧ Later W8 wr) (fun s4 _ _ => G - (intOf s4).toNat)
  case atStart => exact ⟨0, Nat.zero_le _, rfl, Lib.hid (fun j h => by omega), Later.refl _⟩
  case round =>
    obtain ⟨n, hn, rfl, hall, hlat⟩ := hrel
    by_cases hlt : n < G
    · have HO2 := Lib.hid (fun W (hl : Later W8 W) => HOW.out n hlt _ W (hw8.trans hl) (HI8.out.later hl))
      have HB2 := Lib.hid (fun W (hl : Later W8 W) => HBA.out n hlt _ W (hw8.trans hl) (HI8.out.later hl))
      have HFN := Lib.hid (fun h hr => HF.out n hlt h hr)
      clear HOW HBA HF HZ HI8
      by_cases ho : OW n = 0
      · simp only [ho] at HO2
        by_cases hb : BA n = 0
        · have HA : Hid (∀ j, j < n + 1 → (if OW j ≠ 0 then OW j else BA j) = 0) := Lib.hid (fun j hj => by
            by_cases h : j = n
            · subst h; rw [if_neg (fun e => e ho)]; exact hb
            · exact hall.out j (by omega))
          simp only [hb] at HB2
          clear HFN hall ho hb
          go_wp2_with (first | (go_at_call 22; go_must (refine (HO2.out _ (by repeat (first | with_reducible exact Later.refl _ | with_reducible assumption | with_reducible refine Later.ofdrew ?_ | with_reducible refine Later.ofdrewN ?_ | with_reducible refine Later.setCell ?_ ?_ _ | with_reducible refine Later.alloc ?_ _ | with_reducible refine Later.drewN ?_ _ | with_reducible refine Later.drew ?_ | (with_reducible refine Later.trans ?_ (by assumption)) | (simp only [World.size_setCell, World.size_alloc, World.heap_drewN]; omega) | (simp; done) | (simp; omega)))).mono ?_; rintro e w5 ⟨rfl, hb5⟩)) | (go_at_call 23; go_must (refine (HB2.out _ (by repeat (first | with_reducible exact Later.refl _ | with_reducible assumption | with_reducible refine Later.ofdrew ?_ | with_reducible refine Later.ofdrewN ?_ | with_reducible refine Later.setCell ?_ ?_ _ | with_reducible refine Later.alloc ?_ _ | with_reducible refine Later.drewN ?_ _ | with_reducible refine Later.drew ?_ | (with_reducible refine Later.trans ?_ (by assumption)) | (simp only [World.size_setCell, World.size_alloc, World.heap_drewN]; omega) | (simp; done) | (simp; omega)))).mono ?_; rintro e w6 ⟨rfl, hb6⟩)))
          go_roundw
          case rel => exact ⟨n + 1, by omega, by go_num, HA, by repeat (first | with_reducible exact Later.refl _ | with_reducible assumption | with_reducible refine Later.ofdrew ?_ | with_reducible refine Later.ofdrewN ?_ | with_reducible refine Later.setCell ?_ ?_ _ | with_reducible refine Later.alloc ?_ _ | with_reducible refine Later.drewN ?_ _ | with_reducible refine Later.drew ?_ | (with_reducible refine Later.trans ?_ (by assumption)) | (simp only [World.size_setCell, World.size_alloc, World.heap_drewN]; omega) | (simp; done) | (simp; omega))⟩
          case measure => simp [intOf]; omega
        · have hC := HFN.out (fun j hj => hall.out j hj) (by rw [if_neg (fun e => e ho)]; exact hb)
          rw [if_neg (fun e => e ho)] at hC
          have HC := Lib.hid hC
          have hb1 : (BA n == 0) = false := by simpa using hb
          have hb2 : (BA n != 0) = true := by simpa using hb
          clear HFN hall ho hb hC
          generalize BA n = bn at *
          go_wp2_with (first | (go_at_call 22; go_must (refine (HO2.out _ (by repeat (first | with_reducible exact Later.refl _ | with_reducible assumption | with_reducible refine Later.ofdrew ?_ | with_reducible refine Later.ofdrewN ?_ | with_reducible refine Later.setCell ?_ ?_ _ | with_reducible refine Later.alloc ?_ _ | with_reducible refine Later.drewN ?_ _ | with_reducible refine Later.drew ?_ | (with_reducible refine Later.trans ?_ (by assumption)) | (simp only [World.size_setCell, World.size_alloc, World.heap_drewN]; omega) | (simp; done) | (simp; omega)))).mono ?_; rintro e w5 ⟨rfl, hb5⟩)) | (go_at_call 23; go_must (refine (HB2.out _ (by repeat (first | with_reducible exact Later.refl _ | with_reducible assumption | with_reducible refine Later.ofdrew ?_ | with_reducible refine Later.ofdrewN ?_ | with_reducible refine Later.setCell ?_ ?_ _ | with_reducible refine Later.alloc ?_ _ | with_reducible refine Later.drewN ?_ _ | with_reducible refine Later.drew ?_ | (with_reducible refine Later.trans ?_ (by assumption)) | (simp only [World.size_setCell, World.size_alloc, World.heap_drewN]; omega) | (simp; done) | (simp; omega)))).mono ?_; rintro e w6 ⟨rfl, hb6⟩)))
          go_ret
          exact ⟨ret_int HC.out.symm, hw8.trans (by repeat (first | with_reducible exact Later.refl _ | with_reducible assumption | with_reducible refine Later.ofdrew ?_ | with_reducible refine Later.ofdrewN ?_ | with_reducible refine Later.setCell ?_ ?_ _ | with_reducible refine Later.alloc ?_ _ | with_reducible refine Later.drewN ?_ _ | with_reducible refine Later.drew ?_ | (with_reducible refine Later.trans ?_ (by assumption)) | (simp only [World.size_setCell, World.size_alloc, World.heap_drewN]; omega) | (simp; done) | (simp; omega)))⟩
      · have hC := HFN.out (fun j hj => hall.out j hj) (by rw [if_pos ho]; exact ho)
        rw [if_pos ho] at hC
        have HC := Lib.hid hC
        have hb1 : (OW n == 0) = false := by simpa using ho
        have hb2 : (OW n != 0) = true := by simpa using ho
        clear HFN hall ho hC HB2
        generalize OW n = bn at *
        go_wp2_with (go_at_call 22; go_must (refine (HO2.out _ (by repeat (first | with_reducible exact Later.refl _ | with_reducible assumption | with_reducible refine Later.ofdrew ?_ | with_reducible refine Later.ofdrewN ?_ | with_reducible refine Later.setCell ?_ ?_ _ | with_reducible refine Later.alloc ?_ _ | with_reducible refine Later.drewN ?_ _ | with_reducible refine Later.drew ?_ | (with_reducible refine Later.trans ?_ (by assumption)) | (simp only [World.size_setCell, World.size_alloc, World.heap_drewN]; omega) | (simp; done) | (simp; omega)))).mono ?_; rintro e w5 ⟨rfl, hb5⟩))
        go_ret
        exact ⟨ret_int HC.out.symm, hw8.trans (by repeat (first | with_reducible exact Later.refl _ | with_reducible assumption | with_reducible refine Later.ofdrew ?_ | with_reducible refine Later.ofdrewN ?_ | with_reducible refine Later.setCell ?_ ?_ _ | with_reducible refine Later.alloc ?_ _ | with_reducible refine Later.drewN ?_ _ | with_reducible refine Later.drew ?_ | (with_reducible refine Later.trans ?_ (by assumption)) | (simp only [World.size_setCell, World.size_alloc, World.heap_drewN]; omega) | (simp; done) | (simp; omega)))⟩
    · have hnG : n = G := by omega
      subst hnG
      have HC := Lib.hid (HZ.out (fun j hj => hall.out j hj))
      clear HOW HBA HF HZ HI8 hall
      go_wp2
      go_ret
      exact ⟨ret_int HC.out.symm, hw8.trans hlat⟩
end Go.Proofs.YtckeaibamgkegaaGreatDoor
end
