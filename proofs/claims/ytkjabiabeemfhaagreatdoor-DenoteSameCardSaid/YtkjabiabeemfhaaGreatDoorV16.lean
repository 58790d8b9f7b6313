/- facts: their maps; New, may, Fix, Choose, Fixing, Choice -/
import Derived.Test.YtkjabiabeemfhaaGreatDoorV15
import Derived.Lib.Strings
import Derived.Test.YtkjabiabeemfhaaGreatDoorV3
set_option linter.all false
set_option linter.all false
section
namespace Go.Proofs.YtkjabiabeemfhaaGreatDoor
open Go.RowKit
set_option maxRecDepth 100000
noncomputable def rofS (ts : List Nd) : ByteArray := if ofE ts = 0 then (match treeOf ts with | none => ⟨#[]⟩ | some T => sortS T.root.op) else ⟨#[]⟩
theorem sort_cases (op : Int) : (makesI op = 0 ∧ sortS op = ⟨#[]⟩) ∨ (makesI op = 1 ∧ sortS op = ⟨#[111]⟩) ∨ (makesI op = 2 ∧ sortS op = ⟨#[99]⟩) := by
  unfold sortS makesI
  by_cases h : op < 1 ∨ 17 < op
  · rw [if_pos h, if_pos h]; exact .inl ⟨rfl, rfl⟩
  · rw [if_neg h, if_neg h]
    by_cases h2 : op < 9
    · rw [if_pos h2, if_pos (by omega)]; exact .inr (.inl ⟨rfl, rfl⟩)
    · rw [if_neg h2, if_neg (by omega)]; exact .inr (.inr ⟨rfl, rfl⟩)
theorem kids_cases (op : Int) (k : Nat) (hk : k < manyN op) : (belI op k = 1 ∧ (kidsS op).extract k (k + 1) = ⟨#[111]⟩) ∨ (belI op k = 2 ∧ (kidsS op).extract k (k + 1) = ⟨#[99]⟩) := by
  have h4 := many_le op
  revert hk h4
  revert op
  refine ops17 ?_ ?_ ?_ ?_ ?_ ?_ ?_ ?_ ?_ ?_ ?_ ?_ ?_ ?_ ?_ ?_ ?_ ?_
  · intro op h hk _; unfold manyN at hk; rw [if_pos h] at hk; omega
  all_goals
    intro hk h4
    have hk' : k < 4 := Nat.lt_of_lt_of_le hk h4
    rcases k with _ | _ | _ | _ | k
    all_goals first | (exfalso; revert hk; decide) | (left; exact ⟨by decide +kernel, by decide +kernel⟩) | (right; exact ⟨by decide +kernel, by decide +kernel⟩) | omega
theorem ret_se {s t : ByteArray} {m n : Int} (h : s = t) (h' : m = n) : Ending.returned (.tuple #[.string s, .int .i64 m]) = Ending.returned (.tuple #[.string t, .int .i64 n]) := by rw [h, h']
set_option maxHeartbeats 1600000 in
theorem rof_great (ts : List Nd) (v : Value) (w : World) (hN : IsNodes w v ts) (hg : 64 < ts.length) (hlen : ts.length ≤ 100000) :
    Calls Tryz.prog 73 #[v] w fun e w' => e = .returned (.tuple #[.string ⟨#[]⟩, .int .i64 15]) ∧ Later w w' := by
  obtain ⟨p, cp, rfl⟩ := hN.form
  clear hN
  generalize ts.length = L at *
  go_enter Tryz.func73, Tryz.ntmps73
  go_wp2
  go_ret2
  exact ⟨rfl, Later.refl _⟩
set_option maxHeartbeats 1600000 in
theorem rof_form (ts : List Nd) (v : Value) (w : World) (hN : IsNodes w v ts) (hg : ts.length ≤ 64) (h : treeOf ts = none) :
    Calls Tryz.prog 73 #[v] w fun e w' => e = .returned (.tuple #[.string ⟨#[]⟩, .int .i64 13]) ∧ Later w w' := by
  have HE := Lib.hid (fun W (hl : Later w W) => rsize_any ts 0 v W (by omega) (by omega) (hN.later hl))
  have hd : ts.length = 0 ∨ sizeN ts 0 ≠ ts.length := by
    by_cases hne : ts.length = 0
    · exact .inl hne
    · right
      unfold sizeN
      cases he : endN ts 0 with
      | none => simp only; omega
      | some r => have := treeOf_none h r he; simp only; omega
  obtain ⟨p, cp, rfl⟩ := hN.form
  clear hN h
  generalize sizeN ts 0 = en at *
  generalize ts.length = L at *
  by_cases h0 : L = 0
  · subst h0
    clear hd
    go_enter Tryz.func73, Tryz.ntmps73
    go_wp2
    go_ret2
    exact ⟨rfl, Later.refl _⟩
  · have h1 : ((L : Int) == 0) = false := by simp; omega
    have h2 : ((en : Int) != (L : Int)) = true := by simp; omega
    clear hd h0
    go_enter Tryz.func73, Tryz.ntmps73
    go_wp2_with (go_at_call 100; go_must (refine (HE.out _ (Later.refl _)).mono ?_; rintro e w2 ⟨rfl, hb2⟩))
    go_ret2
    exact ⟨rfl, hb2⟩
theorem slice_one (ks : ByteArray) (i : Nat) (h : i + 1 ≤ ks.size) (W : World) : (Instr.sliceAt 9 (.string ks) (some (.int .i64 (i : Int))) (some (.int .i64 ((i : Int) + 1))) none).run Tryz.prog W = .ok (.string (ks.extract i (i + 1))) W := by
  have h1 : (i : Int) ≤ (i : Int) + 1 := by omega
  have h2 : (i : Int) + 1 ≤ (ks.size : Int) := by omega
  have h3 : ((i : Int) + 1).toNat = i + 1 := by omega
  have h4 : (0 : Int) ≤ (i : Int) + 1 := by omega
  rw [run_sliceAt_string (P := Tryz.prog) (w := W) 9 _ _ _ _ Tryz.underlying9]
  simp [go_sem, h1, h2, h3, h4]
set_option maxHeartbeats 3200000 in
theorem rof_good (ts : List Nd) (T : Tm) (v : Value) (w : World) (hN : IsNodes w v ts) (hok : ∀ x ∈ ts, x.ok) (hg : ts.length ≤ 64) (h : treeOf ts = some T) :
    Calls Tryz.prog 73 #[v] w fun e w' => e = .returned (.tuple #[.string (rofS ts), .int .i64 (ofE ts)]) ∧ Later w w' := by
  have HE := Lib.hid (fun W (hl : Later w W) => rsize_any ts 0 v W (by omega) (by omega) (hN.later hl))
  rw [(treeOf_at h).1.size_, (treeOf_at h).2] at HE
  have hne : ts.length ≠ 0 := by have := (treeOf_at h).2; have := T.size_pos; omega
  have HOK := Lib.hid hok
  have HT := Lib.hid h
  have HN := Lib.hid hN
  obtain ⟨p, cp, rfl⟩ := hN.form
  have HFI := Lib.hid (fun (j : Nat) (hj : j < ts.length) W => rfields_any ts[j] W (hok _ (List.getElem_mem _)))
  have HBE := Lib.hid (fun j x l W (hT : TmAt ts j (.node x l)) (hl : Later w W) => rbelow_any ts (by omega) x l j (.slice p ts.length cp) W hT (hN.later hl))
  have HDE := Lib.hid (fun W (hl : Later w W) => rdepth_any ts (by omega) T 0 (.slice p ts.length cp) W (treeOf_at h).1 (hN.later hl))
  clear hN h hok
  obtain ⟨L, hL⟩ : ∃ L, ts.length = L := ⟨_, rfl⟩
  rw [hL] at hne hg HE HN HBE HDE ⊢
  have HL := Lib.hid hL
  clear hL
  have h1 : ((L : Int) == 0) = false := by simp; omega
  go_enter Tryz.func73, Tryz.ntmps73
  go_wp2_with (go_at_call 100; go_must (refine (HE.out _ (Later.refl _)).mono ?_; rintro e w2 ⟨rfl, hb2⟩))
  go_loopw [4] (fun s4 wr => ∃ j : Nat, j ≤ L ∧ s4 = .int .i64 j ∧ Hid (∀ i (h : i < ts.length), i < j → fieldsB ts[i] = true) ∧ Later w wr) (fun s4 _ => L - (intOf s4).toNat)
  case atStart => exact ⟨0, Nat.zero_le _, rfl, Lib.hid (fun i _ h => by omega), hb2⟩
  case round =>
    obtain ⟨j, hj, rfl, hall, hlat⟩ := hrel
    by_cases hlt : j < L
    · have hjl : j < ts.length := by rw [HL.out]; exact hlt
      obtain ⟨b, o, cp', hv, hb, hcap, g0, g1, g2, g3, g4⟩ := HN.out.full (i := j) hjl
      rw [HL.out] at hv
      cases hv
      have e0 := ((bcell hlat).1 _ _ hb).trans g0
      have e1 := ((bcell hlat).1 _ _ hb).trans g1
      have e2 := ((bcell hlat).1 _ _ hb).trans g2
      have e3 := ((bcell hlat).1 _ _ hb).trans g3
      have e4 := ((bcell hlat).1 _ _ hb).trans g4
      have HC := Lib.hid (HFI.out j hjl)
      unfold Nd.val at HC
      clear g0 g1 g2 g3 g4
      cases hf : fieldsB ts[j] with
      | true =>
        have HA : Hid (∀ i (h : i < ts.length), i < j + 1 → fieldsB ts[i] = true) := Lib.hid (fun i h1 h2 => by
          by_cases h : i = j
          · subst h; exact hf
          · exact hall.out i h1 (by omega))
        rw [hf] at HC
        clear hf hall
        generalize (ts[j]).op = x0 at *
        generalize (ts[j]).a = x1 at *
        generalize (ts[j]).b = x2 at *
        generalize (ts[j]).n = x3 at *
        generalize (ts[j]).d = x4 at *
        go_wp2_with (go_at_call 113; go_must (refine (HC.out _).mono ?_; rintro e w3 ⟨rfl, hb3⟩))
        go_roundw
        case rel => exact ⟨j + 1, by omega, by go_num, HA, hlat.trans hb3⟩
        case measure => simp [intOf]; omega
      | false =>
        have HF : Hid (ts.all fieldsB = false) := Lib.hid (by rw [List.all_eq_false]; exact ⟨ts[j], List.getElem_mem _, by simp [hf]⟩)
        rw [hf] at HC
        clear hf hall
        generalize (ts[j]).op = x0 at *
        generalize (ts[j]).a = x1 at *
        generalize (ts[j]).b = x2 at *
        generalize (ts[j]).n = x3 at *
        generalize (ts[j]).d = x4 at *
        go_wp2_with (go_at_call 113; go_must (refine (HC.out _).mono ?_; rintro e w3 ⟨rfl, hb3⟩))
        go_ret2
        have h1 : ofE ts = 10 := by unfold ofE; rw [if_neg (by rw [HL.out]; omega), HT.out]; simp [HF.out]
        have h2 : rofS ts = ⟨#[]⟩ := by unfold rofS; rw [if_neg (by rw [h1]; decide)]
        exact ⟨ret_se h2.symm h1.symm, hlat.trans hb3⟩
    · have HF : Hid (ts.all fieldsB = true) := Lib.hid (by
        rw [List.all_eq_true]
        intro x hx
        obtain ⟨i, hi, rfl⟩ := List.getElem_of_mem hx
        exact hall.out i hi (by rw [HL.out] at hi; omega))
      clear hall
      go_wp2
      have HO1 : Hid (ofE ts = (if T.sorted = true then (if T.depth ≤ 12 then 0 else 15) else 14)) := Lib.hid (by unfold ofE; rw [if_neg (by rw [HL.out]; omega), HT.out]; simp only [HF.out, if_true])
      obtain ⟨wq, hwq⟩ : ∃ W, wr = W := ⟨_, rfl⟩
      rw [hwq] at hlat ⊢
      clear hwq HE hb2
      go_loopw [5] (fun s5 wr => ∃ j : Nat, j ≤ L ∧ s5 = .int .i64 j ∧ Hid (∀ i s, i < j → TmAt ts i s → s.top = true) ∧ Later w wr) (fun s5 _ => L - (intOf s5).toNat)
      case atStart => exact ⟨0, Nat.zero_le _, rfl, Lib.hid (fun _ _ h => by omega), hlat⟩
      case round =>
        obtain ⟨j2, hj2, rfl, htop, hlat2⟩ := hrel
        by_cases hlt2 : j2 < L
        · obtain ⟨hT1, hT2⟩ := treeOf_at HT.out
          obtain ⟨s, hs1, hs2⟩ := tm_at_all hT1 (Nat.zero_le j2) (by rw [hT2, HL.out]; omega)
          obtain ⟨x, l⟩ := s
          obtain ⟨hr1, hr2, hr3, hr4⟩ := hs1.root
          have hjl : j2 < ts.length := by rw [HL.out]; exact hlt2
          have hx0 : ts[j2] = x := by rw [List.getElem?_eq_getElem hjl] at hr1; exact Option.some.inj hr1
          obtain ⟨b, o, cp', hv, hb, hcap, g0, -⟩ := HN.out.full (i := j2) hjl
          rw [HL.out] at hv
          cases hv
          rw [hx0] at g0
          have HBL := Lib.hid (HBE.out j2 x l wr hs1 hlat2)
          have hpl := placesI_length j2 l l.length
          have HPG := Lib.hid (fun i (hi : i < l.length) => (show (placesI j2 l l.length)[i]? = some (placeN j2 l i : Int) by unfold placesI; simp [hi]))
          obtain ⟨op, hop⟩ : ∃ op, x.op = op := ⟨_, rfl⟩
          rw [hop] at g0 hr4
          have HS1 := Lib.hid hs1
          have HOP := Lib.hid hop
          have HX := Lib.hid hr4
          clear hT1 hT2 hs1 hs2 hr1 hr2 hr3 hr4 hx0 hop
          generalize placesI j2 l l.length = zs at *
          obtain ⟨m, hm⟩ : ∃ m, l.length = m := ⟨_, rfl⟩
          rw [hm] at hpl HX
          have HM := Lib.hid hm
          have hm4 : m ≤ 4 := by have := many_le op; have := HX.out; omega
          clear hm
          go_wp2_with (go_at_call 58; go_must (refine HBL.out.mono ?_; rintro e w1 ⟨v1, rfl, hI1, hb1⟩; obtain ⟨p1, cp1, rfl⟩ := hI1.form))
          have HI1 := Lib.hid hI1
          have hlat3 := hlat2.trans hb1
          have hz3 := Later.size hlat3
          clear hI1 HBL hlat2 hb1
          go_loopw [7] (fun s7 wi => ∃ i : Nat, i ≤ m ∧ s7 = .int .i64 i ∧ Hid (∀ q (h : q < l.length), q < i → makesI (l[q]).root.op = belI op q) ∧ Later w1 wi) (fun s7 _ => m - (intOf s7).toNat)
          case atStart => exact ⟨0, Nat.zero_le _, rfl, Lib.hid (fun _ _ h => by omega), Later.refl _⟩
          case round =>
            obtain ⟨i, hi, rfl, hbel, hlat4⟩ := hrel
            by_cases hlt4 : i < m
            · obtain ⟨b1, o1, c1, hv1, hb1', g1⟩ := HI1.out.full (j := i) (by rw [hpl]; exact hlt4)
              rw [hpl] at hv1
              cases hv1
              have g2 := ((bcell hlat4).1 _ _ hb1').trans g1
              have hil : i < l.length := by rw [HM.out]; exact hlt4
              have hz : zs[i]'(by rw [hpl]; exact hlt4) = (placeN j2 l i : Int) := by
                have := HPG.out i hil
                rw [List.getElem?_eq_getElem (by rw [hpl]; exact hlt4)] at this
                exact Option.some.inj this
              rw [hz] at g2
              obtain ⟨y, hro⟩ : ∃ r, (l[i]).root.op = r := ⟨_, rfl⟩
              have HRO := Lib.hid hro
              have hpa := placeN_at HS1.out hil
              have hple := hpa.le
              have hpp := (l[i]).size_pos
              have hplt : placeN j2 l i < ts.length := by omega
              obtain ⟨b2, o2, cp2, hv2, hb2', -, g0', -⟩ := HN.out.full (i := placeN j2 l i) hplt
              rw [HL.out] at hv2
              cases hv2
              have hy0 : (ts[placeN j2 l i]).op = y := by
                rw [← hro]
                have h9 := hpa
                obtain ⟨tt, htt⟩ : ∃ t, l[i] = t := ⟨_, rfl⟩
                rw [htt] at h9 ⊢
                obtain ⟨y0, l0⟩ := tt
                have h10 := h9.root.1
                rw [List.getElem?_eq_getElem hplt] at h10
                rw [Option.some.inj h10]
                rfl
              rw [hy0] at g0'
              have gY := ((bcell (hlat3.trans hlat4)).1 _ _ hb).trans g0'
              have gO := ((bcell (hlat3.trans hlat4)).1 _ _ hb).trans g0
              have hplL : placeN j2 l i < L := by rw [HL.out] at hplt; exact hplt
              have HSO := Lib.hid (fun W => rsort_any y W)
              have HKI := Lib.hid (fun W => rkids_any op W)
              have hks := kids_size op
              rw [← HX.out] at hks
              obtain ⟨ks, hke⟩ : ∃ k, kidsS op = k := ⟨_, rfl⟩
              obtain ⟨st, hst⟩ : ∃ k, sortS y = k := ⟨_, rfl⟩
              have hcmp : (makesI y = belI op i) ↔ st = ks.extract i (i + 1) := by
                rw [← hst, ← hke]
                rcases sort_cases y with ⟨a1, a2⟩ | ⟨a1, a2⟩ | ⟨a1, a2⟩ <;> rcases kids_cases op i (by rw [← HX.out]; exact hlt4) with ⟨a3, a4⟩ | ⟨a3, a4⟩ <;> rw [a1, a2, a3, a4] <;> decide +kernel
              rw [hke] at HKI hks
              rw [hst] at HSO
              have HCM := Lib.hid hcmp
              have HBB := Lib.hid hbel
              have hlw := hlat3.trans hlat4
              generalize placeN j2 l i = pj at *
              clear hz g1 hro hpa hple hpp hplt hy0 g0' hke hst hcmp hbel g0
              have hzw := Later.size hlw
              have hw1 : IntKind.i64.wrap ((i : Int) + 1) = (i : Int) + 1 := IntWalk.i64_in _ (by omega)
              have hsl := fun W => slice_one ks i (by rw [hks]; omega) W
              by_cases heq : st = ks.extract i (i + 1)
              · have HEQ := Lib.hid heq
                subst heq
                go_wp2
                refine wp_region_plan 20 (.one [0, 1, 2, 3, 4, 5, 6, 7, 9, 10, 11, 12, 13, 15, 16, 17] 8 (.one [] 14 (.done [18, 19]))) (by kernel_rfl) (by kernel_rfl) (fun _ _ d _ _ h => by cases d <;> exact h) ?_
                repeat' (first
                  | (refine plan_done (fun K hK => ?_); (first | (simp only [pick_cons, pick_nil, toList_some_append, List.getElem?_toArray, List.getElem?_cons_zero, List.getElem?_cons_succ]; repeat (go_big_quiet_step (fail))) | simp only [pick_nil]); refine wpQuiet_nil (hK _ ?_); clear hK K)
                  | (refine plan_one (by rfl) (fun K hK => ?_); (first | (simp only [pick_cons, pick_nil, toList_some_append, List.getElem?_toArray, List.getElem?_cons_zero, List.getElem?_cons_succ]; repeat (go_big_quiet_step (fail))) | simp only [pick_nil]); refine wpQuiet_nil (hK _ ?_); clear hK K)
                  | ((with_reducible refine at_list ?_); go_wp2_with (first | (go_at_call 114; go_must (refine (HSO.out _).mono ?_; rintro e wa ⟨rfl, rfl⟩)) | (go_at_call 99; go_must (refine (HKI.out _).mono ?_; rintro e wb ⟨rfl, hbb⟩))); first | refine behind_store (t := 20) (by decide) ?_ | refine behind (by repeat (first | with_reducible exact Later.refl _ | with_reducible assumption | with_reducible refine Later.ofdrew ?_ | with_reducible refine Later.ofdrewN ?_ | with_reducible refine Later.alloc ?_ _ | with_reducible refine Later.drewN ?_ _ | with_reducible refine Later.drew ?_ | (with_reducible refine Later.trans ?_ (by assumption)))) ?_))
                go_wp2
                have HB2 : Hid (∀ q (h : q < l.length), q < i + 1 → makesI (l[q]).root.op = belI op q) := Lib.hid (fun q h hq => by
                  by_cases hqi : q = i
                  · subst hqi; rw [HRO.out]; exact HCM.out.2 trivial
                  · exact HBB.out.out q h (by omega))
                exact ⟨⟨i + 1, by omega, by simp, HB2, hlat4.trans (by repeat (first | with_reducible exact Later.refl _ | with_reducible assumption | with_reducible refine Later.ofdrew ?_ | with_reducible refine Later.ofdrewN ?_ | with_reducible refine Later.setCell ?_ ?_ _ | with_reducible refine Later.alloc ?_ _ | with_reducible refine Later.drewN ?_ _ | with_reducible refine Later.drew ?_ | (with_reducible refine Later.trans ?_ (by assumption)) | (simp only [World.size_setCell, World.size_alloc, World.heap_drewN]; omega) | (simp; done) | (simp; omega)))⟩, by simp [intOf]; omega⟩
              · have hne2 : (st.toList == (ks.extract i (i + 1)).toList) = false := by
                  simp only [beq_eq_false_iff_ne, ne_eq]
                  intro h
                  rw [Lib.toList_data, Lib.toList_data] at h
                  exact heq (ByteArray.ext (Array.ext' h))
                go_wp2
                refine wp_region_plan 20 (.one [0, 1, 2, 3, 4, 5, 6, 7, 9, 10, 11, 12, 13, 15, 16, 17] 8 (.one [] 14 (.done [18, 19]))) (by kernel_rfl) (by kernel_rfl) (fun _ _ d _ _ h => by cases d <;> exact h) ?_
                repeat' (first
                  | (refine plan_done (fun K hK => ?_); (first | (simp only [pick_cons, pick_nil, toList_some_append, List.getElem?_toArray, List.getElem?_cons_zero, List.getElem?_cons_succ]; repeat (go_big_quiet_step (fail))) | simp only [pick_nil]); refine wpQuiet_nil (hK _ ?_); clear hK K)
                  | (refine plan_one (by rfl) (fun K hK => ?_); (first | (simp only [pick_cons, pick_nil, toList_some_append, List.getElem?_toArray, List.getElem?_cons_zero, List.getElem?_cons_succ]; repeat (go_big_quiet_step (fail))) | simp only [pick_nil]); refine wpQuiet_nil (hK _ ?_); clear hK K)
                  | ((with_reducible refine at_list ?_); go_wp2_with (first | (go_at_call 114; go_must (refine (HSO.out _).mono ?_; rintro e wa ⟨rfl, rfl⟩)) | (go_at_call 99; go_must (refine (HKI.out _).mono ?_; rintro e wb ⟨rfl, hbb⟩))); first | refine behind_store (t := 20) (by decide) ?_ | refine behind (by repeat (first | with_reducible exact Later.refl _ | with_reducible assumption | with_reducible refine Later.ofdrew ?_ | with_reducible refine Later.ofdrewN ?_ | with_reducible refine Later.alloc ?_ _ | with_reducible refine Later.drewN ?_ _ | with_reducible refine Later.drew ?_ | (with_reducible refine Later.trans ?_ (by assumption)))) ?_))
                go_wp2
                · go_ret2
                  have hs : T.sorted = false := by
                    cases hs : T.sorted with
                    | false => rfl
                    | true =>
                      obtain ⟨hT1, hT2⟩ := treeOf_at HT.out
                      have h8 := sorted_at hT1 hs (Nat.zero_le j2) (by rw [hT2, HL.out]; omega) HS1.out
                      unfold Tm.top at h8
                      simp only [decide_eq_true_eq] at h8
                      exact absurd (HCM.out.1 (by rw [← HRO.out, h8 i hil, HOP.out])) heq
                  have h1 : ofE ts = 14 := by rw [HO1.out, if_neg (by rw [hs]; decide)]
                  have h2 : rofS ts = ⟨#[]⟩ := by unfold rofS; rw [if_neg (by rw [h1]; decide)]
                  exact ⟨ret_se h2.symm h1.symm, hlw.trans (by repeat (first | with_reducible exact Later.refl _ | with_reducible assumption | with_reducible refine Later.ofdrew ?_ | with_reducible refine Later.ofdrewN ?_ | with_reducible refine Later.setCell ?_ ?_ _ | with_reducible refine Later.alloc ?_ _ | with_reducible refine Later.drewN ?_ _ | with_reducible refine Later.drew ?_ | (with_reducible refine Later.trans ?_ (by assumption)) | (simp only [World.size_setCell, World.size_alloc, World.heap_drewN]; omega) | (simp; done) | (simp; omega)))⟩
            · have HT2 : Hid (∀ i s, i < j2 + 1 → TmAt ts i s → s.top = true) := Lib.hid (fun i' s hi' hs' => by
                by_cases hij : i' = j2
                · subst hij
                  rw [← TmAt.unique HS1.out hs']
                  unfold Tm.top
                  simp only [decide_eq_true_eq]
                  intro q hq
                  rw [HOP.out]
                  exact hbel.out q hq (by rw [HM.out] at hq; omega)
                · exact htop.out i' s (by omega) hs')
              clear hbel htop
              go_wp2
              go_roundw
              case rel => exact ⟨j2 + 1, by omega, by go_num, HT2, hlat3.trans hlat4⟩
              case measure => simp [intOf]; omega
        · have hs : T.sorted = true := by
            cases hs : T.sorted with
            | true => rfl
            | false =>
              obtain ⟨hT1, hT2⟩ := treeOf_at HT.out
              obtain ⟨i, s, a1, a2, a3, a4⟩ := unsorted_at hT1 hs
              rw [htop.out i s (by rw [HL.out] at hT2; omega) a3] at a4
              cases a4
          have HSS := Lib.hid hs
          obtain ⟨b, o, cp', hv, hb, hcap, g0, -⟩ := HN.out.full (i := 0) (by rw [HL.out]; omega)
          rw [HL.out] at hv
          cases hv
          have hr : (ts[0]'(by rw [HL.out]; omega)) = T.root := by
            have hT1 := (treeOf_at HT.out).1
            obtain ⟨x, l⟩ := T
            have := hT1.root.1
            rw [List.getElem?_eq_getElem (by rw [HL.out]; omega)] at this
            exact Option.some.inj this
          rw [hr] at g0
          simp only [Nat.zero_mul, Nat.add_zero] at g0
          have e0 := ((bcell hlat2).1 _ _ hb).trans g0
          have hsz := Later.size hlat2
          have HSO := Lib.hid (fun W => rsort_any T.root.op W)
          clear hs g0 hr htop
          obtain ⟨sk, hsk⟩ : ∃ m, sortS T.root.op = m := ⟨_, rfl⟩
          rw [hsk] at HSO
          have HSK := Lib.hid hsk
          clear hsk
          generalize T.root.op = rop at HSO e0
          obtain ⟨dp, hdp⟩ : ∃ m, T.depth = m := ⟨_, rfl⟩
          rw [hdp] at HDE
          have HDP := Lib.hid hdp
          clear hdp
          go_wp2_with (first
            | (go_at_call 28; go_must (refine (HDE.out _ hlat2).mono ?_; rintro e w5 ⟨rfl, hb5⟩; have e5 := ((bcell hb5).1 _ _ (Nat.lt_of_lt_of_le hb hsz)).trans e0))
            | (go_at_call 114; go_must (refine (HSO.out _).mono ?_; rintro e w6 ⟨rfl, rfl⟩)))
          · go_ret2
            have hd12 : ¬ dp ≤ 12 := by omega
            have h1 : ofE ts = 15 := by rw [HO1.out, HSS.out, HDP.out, if_pos rfl, if_neg hd12]
            have h2 : rofS ts = ⟨#[]⟩ := by unfold rofS; rw [if_neg (by rw [h1]; decide)]
            exact ⟨ret_se h2.symm h1.symm, hlat2.trans hb5⟩
          · go_ret2
            have hd12 : dp ≤ 12 := by omega
            have h1 : ofE ts = 0 := by rw [HO1.out, HSS.out, HDP.out, if_pos rfl, if_pos hd12]
            have h2 : rofS ts = sk := by unfold rofS; rw [if_pos h1, HT.out]; exact HSK.out
            exact ⟨ret_se h2.symm h1.symm, hlat2.trans hb5⟩
theorem rterm_any (ts : List Nd) (hlen : ts.length ≤ 100000) (hok : ∀ x ∈ ts, x.ok) (v : Value) (w : World) (hN : IsNodes w v ts) :
    Calls Tryz.prog 73 #[v] w fun e w' => e = .returned (.tuple #[.string (rofS ts), .int .i64 (ofE ts)]) ∧ Later w w' := by
  by_cases hg : 64 < ts.length
  · have h1 : ofE ts = 15 := by unfold ofE; rw [if_pos hg]
    have h2 : rofS ts = ⟨#[]⟩ := by unfold rofS; rw [if_neg (by rw [h1]; decide)]
    rw [h1, h2]
    exact rof_great ts v w hN hg hlen
  · cases ht : treeOf ts with
    | none =>
      have h1 : ofE ts = 13 := by unfold ofE; rw [if_neg hg, ht]
      have h2 : rofS ts = ⟨#[]⟩ := by unfold rofS; rw [if_neg (by rw [h1]; decide)]
      rw [h1, h2]
      exact rof_form ts v w hN (by omega) ht
    | some T => exact rof_good ts T v w hN hok (by omega) ht
end Go.Proofs.YtkjabiabeemfhaaGreatDoor
end
section
namespace Go.Proofs.YtkjabiabeemfhaaGreatDoor
open Go.RowKit
set_option maxRecDepth 100000
open Go.WideMaps Go.ChangeMaps
theorem laid_out : laidOutB Tryz.prog = true := by kernel_rfl
theorem place_deep : Tryz.prog.keyTypeAt 3 150 = true := by kernel_rfl
theorem place_row : (150 : TypeId) < Tryz.prog.types.size := of_decide_eq_true (by kernel_rfl)
theorem place_wide : (match Tryz.prog.underlying 150 with | some (.array _ _) | some (.struct _) => true | _ => false) = true := by kernel_rfl
theorem place_law : KL Tryz.prog 150 := KL.of (deep_law_laid laid_out (m := 3) (by omega) place_row place_deep place_wide)
def placeV (p : Int × Int) : Value := .agg #[.int .i64 p.1, .int .i64 p.2]
theorem placeV_inj (x y : Int × Int) (h : placeV x = placeV y) : x = y := by
  unfold placeV at h
  simp only [Value.agg.injEq, Array.mk.injEq, List.cons.injEq, Value.int.injEq, true_and, and_true] at h
  exact Prod.ext h.1 h.2
theorem wf_of {x : Int} (h : I64 x) : (Lit.int .i64 x).wf = true := WalkArith.wf_i64 h
theorem place_key (p : Int × Int) (h1 : I64 p.1) (h2 : I64 p.2) : ∃ lit, keyOf Tryz.prog 150 (placeV p) = some lit := by
  have hk : Tryz.prog.keyType 150 = true := by kernel_rfl
  have hc : Tryz.prog.cellsOf 150 = 2 := by kernel_rfl
  have hci : Tryz.prog.cellsOf 3 = 1 := by kernel_rfl
  have hf : (placeV p).formed Tryz.prog 150 = true := by simp [placeV, Value.formed, Tryz.underlying150, hc]
  obtain ⟨n, hn⟩ : ∃ n, Tryz.prog.types.size + 1 = n + 2 := ⟨Tryz.prog.types.size - 1, by have : 1 ≤ Tryz.prog.types.size := of_decide_eq_true (by kernel_rfl); omega⟩
  unfold keyOf
  rw [Tryz.underlying150]
  simp only [hk, hf, Bool.and_self, if_true, hn]
  simp [placeV, Value.cells, Program.keyLits, Tryz.underlying150, hc, hci, Tryz.underlying3, wf_of h1, wf_of h2]
def fixV (p : Int × Int) (v : Int × Int) : Value := .agg #[.int .i64 p.1, .int .i64 p.2, .int .i64 v.1, .int .i64 v.2]
def chV (p : Int × Int) (v : Int) : Value := .agg #[.int .i64 p.1, .int .i64 p.2, .int .i64 v]
abbrev FxMap (w : World) (b : Nat) (l : List ((Int × Int) × (Int × Int))) : Prop := MapL Tryz.prog 150 placeV fixV w b l
abbrev ChMap (w : World) (b : Nat) (l : List ((Int × Int) × Int)) : Prop := MapL Tryz.prog 150 placeV chV w b l
structure FactsAt (w : World) (p m1 m2 : Nat) (fx : List ((Int × Int) × (Int × Int))) (ch : List ((Int × Int) × Int)) : Prop where
  c0 : w.cell? ⟨p, 0, none⟩ = some (.map (some m1))
  c1 : w.cell? ⟨p, 1, none⟩ = some (.map (some m2))
  x1 : FxMap w m1 fx
  x2 : ChMap w m2 ch
  ne : m1 ≠ m2
theorem FactsAt.later {w w' : World} {p m1 m2 : Nat} {fx : List ((Int × Int) × (Int × Int))} {ch : List ((Int × Int) × Int)} (h : FactsAt w p m1 m2 fx ch) (hb : Later w w') : FactsAt w' p m1 m2 fx ch :=
  ⟨((bcell hb).1 _ _ (World.block_lt_of_cell? _ _ h.c0)).trans h.c0, ((bcell hb).1 _ _ (World.block_lt_of_cell? _ _ h.c1)).trans h.c1, h.x1.later hb, h.x2.later hb, h.ne⟩
theorem MapL.obj {κ β : Type} {P : Program} {k : TypeId} {ek : κ → Value} {ev : κ → β → Value} {w : World} {b : Nat} {l : List (κ × β)} (h : MapL P k ek ev w b l) : ∀ r, some b = some r → ∃ o : Obj, w.heap[r]? = some o ∧ o.isCells = false := by
  intro r e; cases e; obtain ⟨es, cl, h1, _⟩ := h; exact ⟨_, h1, rfl⟩
theorem grownBy_trans {w w' w'' : World} {row : Option Nat} (h : w.grownBy w' row) (k : w'.grownBy w'' row) : w.grownBy w'' row :=
  ⟨k.os.trans h.os, k.tape.trans h.tape, k.output.trans h.output, Nat.le_trans h.size k.size, fun i hi hn => (k.block i (Nat.lt_of_lt_of_le hi h.size) hn).trans (h.block i hi hn)⟩
theorem grownBy_later {w w' : World} (hb : Later w w') (row : Option Nat) : w.grownBy w' row := ⟨hb.os, hb.tape, hb.output, hb.size, fun k hk _ => hb.block k hk⟩
set_option maxHeartbeats 800000 in
theorem fnew_any (w : World) : Calls Tryz.prog 36 #[] w fun e w' => ∃ p m1 m2, e = .returned (.pointer (some ⟨p, 0, none⟩)) ∧ FactsAt w' p m1 m2 [] [] ∧ w.heap.size ≤ m1 ∧ w.heap.size ≤ m2 ∧ Later w w' := by
  have hmm := @run_makeMap Tryz.prog
  go_enter Tryz.func36, Tryz.ntmps36
  go_wp2
  go_ret
  refine ⟨w.heap.size + 1 + 1, w.heap.size, w.heap.size + 1, rfl, ?_, by omega, by omega, by repeat (first | with_reducible exact Later.refl _ | with_reducible assumption | with_reducible refine Later.ofdrew ?_ | with_reducible refine Later.ofdrewN ?_ | with_reducible refine Later.setCell ?_ ?_ _ | with_reducible refine Later.alloc ?_ _ | with_reducible refine Later.drewN ?_ _ | with_reducible refine Later.drew ?_ | (with_reducible refine Later.trans ?_ (by assumption)) | (simp only [World.size_setCell, World.size_alloc, World.heap_drewN]; omega) | (simp; done) | (simp; omega))⟩
  have h1 : FxMap (w.alloc (.map #[] 0)) w.heap.size [] := MapL.made w
  have h2 : ChMap ((w.alloc (.map #[] 0)).alloc (.map #[] 0)) (w.heap.size + 1) [] := by have := MapL.made (P := Tryz.prog) (k := 150) (ek := placeV) (ev := chV) (w.alloc (.map #[] 0)); rwa [World.size_alloc] at this
  have h3 := own_alloc ((w.alloc (.map #[] 0)).alloc (.map #[] 0)) #[.map (some w.heap.size), .map (some (w.heap.size + 1))] 148
  simp only [World.size_alloc] at h3
  obtain ⟨z, c, -⟩ := own_get h3
  exact ⟨c 0, c 1, h1.later (((Later.refl _).alloc _).alloc _), h2.later ((Later.refl _).alloc _), by omega⟩
def mayI (key day : Int) (right : Bool) : Int := if (decide (0 ≤ key) && decide (key ≤ 63) && right) = false then 10 else if (decide (0 ≤ day) && decide (day ≤ 73048)) = false then 18 else 0
set_option maxHeartbeats 1600000 in
theorem may_any (p : Addr) (key day : Int) (right : Bool) (w : World) : Calls Tryz.prog 111 #[.pointer (some p), .int .i64 key, .int .i64 day, .bool right] w fun e w' => e = .returned (.int .i64 (mayI key day right)) ∧ w = w' := by
  obtain ⟨r, hr⟩ : ∃ r, mayI key day right = r := ⟨_, rfl⟩
  rw [hr]
  unfold mayI at hr
  have HR := Lib.hid hr
  clear hr
  cases right
  all_goals
    go_enter Tryz.func111, Tryz.ntmps111
    go_wp2
    all_goals
      go_ret
      refine ⟨ret_int ?_, rfl⟩
      rw [← HR.out]
      clear HR
      simp
      try omega
end Go.Proofs.YtkjabiabeemfhaaGreatDoor
end
