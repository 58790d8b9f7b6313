/- reference of term: Of -/
import Derived.Test.YtkpadahpepeaoaaDoorJl
import Derived.Lib.Strings
import Derived.DeepKeys4
import Derived.Maps.Own
set_option linter.all false
namespace Go.Proofs.YtkpadahpepeaoaaDoor
open Go.RowKit
set_option maxRecDepth 100000

/-- What a term makes, as a string. -/
noncomputable def rofS (ts : List Nd) : ByteArray := if ofE ts = 0 then (match treeOf ts with | none => ⟨#[]⟩ | some T => sortS T.root.op) else ⟨#[]⟩

theorem sort_cases (op : Int) : (makesI op = 0 ∧ sortS op = ⟨#[]⟩) ∨ (makesI op = 1 ∧ sortS op = ⟨#[111]⟩) ∨ (makesI op = 2 ∧ sortS op = ⟨#[99]⟩) := by
  unfold sortS makesI
  by_cases h : op < 1 ∨ 17 < op
  · rw [if_pos h, if_pos h]; exact .inl ⟨rfl, rfl⟩
  · rw [if_neg h, if_neg h]
    by_cases h2 : op < 9
    · rw [if_pos h2, if_pos (by omega)]; exact .inr (.inl ⟨rfl, rfl⟩)
    · rw [if_neg h2, if_neg (by omega)]; exact .inr (.inr ⟨rfl, rfl⟩)
theorem kids_cases (op : Int) (k : Nat) (hk : k < manyN op) : (belI op k = 1 ∧ (kidsS op).extract k (k + 1) = ⟨#[111]⟩) ∨ (belI op k = 2 ∧ (kidsS op).extract k (k + 1) = ⟨#[99]⟩) := by
  have h4 := many_le op
  revert hk h4
  revert op
  refine ops17 ?_ ?_ ?_ ?_ ?_ ?_ ?_ ?_ ?_ ?_ ?_ ?_ ?_ ?_ ?_ ?_ ?_ ?_
  · intro op h hk _; unfold manyN at hk; rw [if_pos h] at hk; omega
  all_goals
    intro hk h4
    have hk' : k < 4 := Nat.lt_of_lt_of_le hk h4
    rcases k with _ | _ | _ | _ | k
    all_goals first | (exfalso; revert hk; decide) | (left; exact ⟨by decide +kernel, by decide +kernel⟩) | (right; exact ⟨by decide +kernel, by decide +kernel⟩) | omega

theorem ret_se {s t : ByteArray} {m n : Int} (h : s = t) (h' : m = n) : Ending.returned (.tuple #[.string s, .int .i64 m]) = Ending.returned (.tuple #[.string t, .int .i64 n]) := by rw [h, h']
set_option maxHeartbeats 1600000 in
theorem rof_great (ts : List Nd) (v : Value) (w : World) (hN : IsNodes w v ts) (hg : 64 < ts.length) (hlen : ts.length ≤ 100000) :
    Calls Tryd.prog 16 #[v] w fun e w' => e = .returned (.tuple #[.string ⟨#[]⟩, .int .i64 15]) ∧ Later w w' := by
  obtain ⟨p, cp, rfl⟩ := hN.form
  clear hN
  generalize ts.length = L at *
  go_enter Tryd.func16, Tryd.ntmps16
  go_wp2
  go_ret2
  exact ⟨rfl, Later.refl _⟩
set_option maxHeartbeats 1600000 in
theorem rof_form (ts : List Nd) (v : Value) (w : World) (hN : IsNodes w v ts) (hg : ts.length ≤ 64) (h : treeOf ts = none) :
    Calls Tryd.prog 16 #[v] w fun e w' => e = .returned (.tuple #[.string ⟨#[]⟩, .int .i64 13]) ∧ Later w w' := by
  have HE := Lib.hid (fun W (hl : Later w W) => rsize_any ts 0 v W (by omega) (by omega) (hN.later hl))
  have hd : ts.length = 0 ∨ sizeN ts 0 ≠ ts.length := by
    by_cases hne : ts.length = 0
    · exact .inl hne
    · right
      unfold sizeN
      cases he : endN ts 0 with
      | none => simp only; omega
      | some r => have := treeOf_none h r he; simp only; omega
  obtain ⟨p, cp, rfl⟩ := hN.form
  clear hN h
  generalize sizeN ts 0 = en at *
  generalize ts.length = L at *
  by_cases h0 : L = 0
  · subst h0
    clear hd
    go_enter Tryd.func16, Tryd.ntmps16
    go_wp2
    go_ret2
    exact ⟨rfl, Later.refl _⟩
  · have h1 : ((L : Int) == 0) = false := by simp; omega
    have h2 : ((en : Int) != (L : Int)) = true := by simp; omega
    clear hd h0
    go_enter Tryd.func16, Tryd.ntmps16
    go_wp2_with (go_at_call 19; go_must (refine (HE.out _ (Later.refl _)).mono ?_; rintro e w2 ⟨rfl, hb2⟩))
    go_ret2
    exact ⟨rfl, hb2⟩
theorem slice_one (ks : ByteArray) (i : Nat) (h : i + 1 ≤ ks.size) (W : World) : (Instr.sliceAt 9 (.string ks) (some (.int .i64 (i : Int))) (some (.int .i64 ((i : Int) + 1))) none).run Tryd.prog W = .ok (.string (ks.extract i (i + 1))) W := by
  have h1 : (i : Int) ≤ (i : Int) + 1 := by omega
  have h2 : (i : Int) + 1 ≤ (ks.size : Int) := by omega
  have h3 : ((i : Int) + 1).toNat = i + 1 := by omega
  have h4 : (0 : Int) ≤ (i : Int) + 1 := by omega
  rw [run_sliceAt_string (P := Tryd.prog) (w := W) 9 _ _ _ _ Tryd.underlying9]
  simp [go_sem, h1, h2, h3, h4]

set_option maxHeartbeats 3200000 in
theorem rof_good (ts : List Nd) (T : Tm) (v : Value) (w : World) (hN : IsNodes w v ts) (hok : ∀ x ∈ ts, x.ok) (hg : ts.length ≤ 64) (h : treeOf ts = some T) :
    Calls Tryd.prog 16 #[v] w fun e w' => e = .returned (.tuple #[.string (rofS ts), .int .i64 (ofE ts)]) ∧ Later w w' := by
  have HE := Lib.hid (fun W (hl : Later w W) => rsize_any ts 0 v W (by omega) (by omega) (hN.later hl))
  rw [(treeOf_at h).1.size_, (treeOf_at h).2] at HE
  have hne : ts.length ≠ 0 := by have := (treeOf_at h).2; have := T.size_pos; omega
  have HOK := Lib.hid hok
  have HT := Lib.hid h
  have HN := Lib.hid hN
  obtain ⟨p, cp, rfl⟩ := hN.form
  have HFI := Lib.hid (fun (j : Nat) (hj : j < ts.length) W => rfields_any ts[j] W (hok _ (List.getElem_mem _)))
  have HBE := Lib.hid (fun j x l W (hT : TmAt ts j (.node x l)) (hl : Later w W) => rbelow_any ts (by omega) x l j (.slice p ts.length cp) W hT (hN.later hl))
  have HDE := Lib.hid (fun W (hl : Later w W) => rdepth_any ts (by omega) T 0 (.slice p ts.length cp) W (treeOf_at h).1 (hN.later hl))
  clear hN h hok
  obtain ⟨L, hL⟩ : ∃ L, ts.length = L := ⟨_, rfl⟩
  rw [hL] at hne hg HE HN HBE HDE ⊢
  have HL := Lib.hid hL
  clear hL
  have h1 : ((L : Int) == 0) = false := by simp; omega
  go_enter Tryd.func16, Tryd.ntmps16
  go_wp2_with (go_at_call 19; go_must (refine (HE.out _ (Later.refl _)).mono ?_; rintro e w2 ⟨rfl, hb2⟩))
  go_loopw [4] (fun s4 wr => ∃ j : Nat, j ≤ L ∧ s4 = .int .i64 j ∧ Hid (∀ i (h : i < ts.length), i < j → fieldsB ts[i] = true) ∧ Later w wr) (fun s4 _ => L - (intOf s4).toNat)
  case atStart => exact ⟨0, Nat.zero_le _, rfl, Lib.hid (fun i _ h => by omega), hb2⟩
  case round =>
    obtain ⟨j, hj, rfl, hall, hlat⟩ := hrel
    by_cases hlt : j < L
    · have hjl : j < ts.length := by rw [HL.out]; exact hlt
      obtain ⟨b, o, cp', hv, hb, hcap, g0, g1, g2, g3, g4⟩ := HN.out.full (i := j) hjl
      rw [HL.out] at hv
      cases hv
      have e0 := ((bcell hlat).1 _ _ hb).trans g0
      have e1 := ((bcell hlat).1 _ _ hb).trans g1
      have e2 := ((bcell hlat).1 _ _ hb).trans g2
      have e3 := ((bcell hlat).1 _ _ hb).trans g3
      have e4 := ((bcell hlat).1 _ _ hb).trans g4
      have HC := Lib.hid (HFI.out j hjl)
      unfold Nd.val at HC
      clear g0 g1 g2 g3 g4
      cases hf : fieldsB ts[j] with
      | true =>
        have HA : Hid (∀ i (h : i < ts.length), i < j + 1 → fieldsB ts[i] = true) := Lib.hid (fun i h1 h2 => by
          by_cases h : i = j
          · subst h; exact hf
          · exact hall.out i h1 (by omega))
        rw [hf] at HC
        clear hf hall
        generalize (ts[j]).op = x0 at *
        generalize (ts[j]).a = x1 at *
        generalize (ts[j]).b = x2 at *
        generalize (ts[j]).n = x3 at *
        generalize (ts[j]).d = x4 at *
        go_wp2_with (go_at_call 38; go_must (refine (HC.out _).mono ?_; rintro e w3 ⟨rfl, hb3⟩))
        go_roundw
        case rel => exact ⟨j + 1, by omega, by go_num, HA, hlat.trans hb3⟩
        case measure => simp [intOf]; omega
      | false =>
        have HF : Hid (ts.all fieldsB = false) := Lib.hid (by rw [List.all_eq_false]; exact ⟨ts[j], List.getElem_mem _, by simp [hf]⟩)
        rw [hf] at HC
        clear hf hall
        generalize (ts[j]).op = x0 at *
        generalize (ts[j]).a = x1 at *
        generalize (ts[j]).b = x2 at *
        generalize (ts[j]).n = x3 at *
        generalize (ts[j]).d = x4 at *
        go_wp2_with (go_at_call 38; go_must (refine (HC.out _).mono ?_; rintro e w3 ⟨rfl, hb3⟩))
        go_ret2
        have h1 : ofE ts = 10 := by unfold ofE; rw [if_neg (by rw [HL.out]; omega), HT.out]; simp [HF.out]
        have h2 : rofS ts = ⟨#[]⟩ := by unfold rofS; rw [if_neg (by rw [h1]; decide)]
        exact ⟨ret_se h2.symm h1.symm, hlat.trans hb3⟩
    · have HF : Hid (ts.all fieldsB = true) := Lib.hid (by
        rw [List.all_eq_true]
        intro x hx
        obtain ⟨i, hi, rfl⟩ := List.getElem_of_mem hx
        exact hall.out i hi (by rw [HL.out] at hi; omega))
      clear hall
      go_wp2
      have HO1 : Hid (ofE ts = (if T.sorted = true then (if T.depth ≤ 12 then 0 else 15) else 14)) := Lib.hid (by unfold ofE; rw [if_neg (by rw [HL.out]; omega), HT.out]; simp only [HF.out, if_true])
      obtain ⟨wq, hwq⟩ : ∃ W, wr = W := ⟨_, rfl⟩
      rw [hwq] at hlat ⊢
      clear hwq HE hb2
      go_loopw [5] (fun s5 wr => ∃ j : Nat, j ≤ L ∧ s5 = .int .i64 j ∧ Hid (∀ i s, i < j → TmAt ts i s → s.top = true) ∧ Later w wr) (fun s5 _ => L - (intOf s5).toNat)
      case atStart => exact ⟨0, Nat.zero_le _, rfl, Lib.hid (fun _ _ h => by omega), hlat⟩
      case round =>
        obtain ⟨j2, hj2, rfl, htop, hlat2⟩ := hrel
        by_cases hlt2 : j2 < L
        · obtain ⟨hT1, hT2⟩ := treeOf_at HT.out
          obtain ⟨s, hs1, hs2⟩ := tm_at_all hT1 (Nat.zero_le j2) (by rw [hT2, HL.out]; omega)
          obtain ⟨x, l⟩ := s
          obtain ⟨hr1, hr2, hr3, hr4⟩ := hs1.root
          have hjl : j2 < ts.length := by rw [HL.out]; exact hlt2
          have hx0 : ts[j2] = x := by rw [List.getElem?_eq_getElem hjl] at hr1; exact Option.some.inj hr1
          obtain ⟨b, o, cp', hv, hb, hcap, g0, -⟩ := HN.out.full (i := j2) hjl
          rw [HL.out] at hv
          cases hv
          rw [hx0] at g0
          have HBL := Lib.hid (HBE.out j2 x l wr hs1 hlat2)
          have hpl := placesI_length j2 l l.length
          have HPG := Lib.hid (fun i (hi : i < l.length) => (show (placesI j2 l l.length)[i]? = some (placeN j2 l i : Int) by unfold placesI; simp [hi]))
          obtain ⟨op, hop⟩ : ∃ op, x.op = op := ⟨_, rfl⟩
          rw [hop] at g0 hr4
          have HS1 := Lib.hid hs1
          have HOP := Lib.hid hop
          have HX := Lib.hid hr4
          clear hT1 hT2 hs1 hs2 hr1 hr2 hr3 hr4 hx0 hop
          generalize placesI j2 l l.length = zs at *
          obtain ⟨m, hm⟩ : ∃ m, l.length = m := ⟨_, rfl⟩
          rw [hm] at hpl HX
          have HM := Lib.hid hm
          have hm4 : m ≤ 4 := by have := many_le op; have := HX.out; omega
          clear hm
          go_wp2_with (go_at_call 30; go_must (refine HBL.out.mono ?_; rintro e w1 ⟨v1, rfl, hI1, hb1⟩; obtain ⟨p1, cp1, rfl⟩ := hI1.form))
          have HI1 := Lib.hid hI1
          have hlat3 := hlat2.trans hb1
          have hz3 := Later.size hlat3
          clear hI1 HBL hlat2 hb1
          go_loopw [7] (fun s7 wi => ∃ i : Nat, i ≤ m ∧ s7 = .int .i64 i ∧ Hid (∀ q (h : q < l.length), q < i → makesI (l[q]).root.op = belI op q) ∧ Later w1 wi) (fun s7 _ => m - (intOf s7).toNat)
          case atStart => exact ⟨0, Nat.zero_le _, rfl, Lib.hid (fun _ _ h => by omega), Later.refl _⟩
          case round =>
            obtain ⟨i, hi, rfl, hbel, hlat4⟩ := hrel
            by_cases hlt4 : i < m
            · obtain ⟨b1, o1, c1, hv1, hb1', g1⟩ := HI1.out.full (j := i) (by rw [hpl]; exact hlt4)
              rw [hpl] at hv1
              cases hv1
              have g2 := ((bcell hlat4).1 _ _ hb1').trans g1
              have hil : i < l.length := by rw [HM.out]; exact hlt4
              have hz : zs[i]'(by rw [hpl]; exact hlt4) = (placeN j2 l i : Int) := by
                have := HPG.out i hil
                rw [List.getElem?_eq_getElem (by rw [hpl]; exact hlt4)] at this
                exact Option.some.inj this
              rw [hz] at g2
              obtain ⟨y, hro⟩ : ∃ r, (l[i]).root.op = r := ⟨_, rfl⟩
              have HRO := Lib.hid hro
              have hpa := placeN_at HS1.out hil
              have hple := hpa.le
              have hpp := (l[i]).size_pos
              have hplt : placeN j2 l i < ts.length := by omega
              obtain ⟨b2, o2, cp2, hv2, hb2', -, g0', -⟩ := HN.out.full (i := placeN j2 l i) hplt
              rw [HL.out] at hv2
              cases hv2
              have hy0 : (ts[placeN j2 l i]).op = y := by
                rw [← hro]
                have h9 := hpa
                obtain ⟨tt, htt⟩ : ∃ t, l[i] = t := ⟨_, rfl⟩
                rw [htt] at h9 ⊢
                obtain ⟨y0, l0⟩ := tt
                have h10 := h9.root.1
                rw [List.getElem?_eq_getElem hplt] at h10
                rw [Option.some.inj h10]
                rfl
              rw [hy0] at g0'
              have gY := ((bcell (hlat3.trans hlat4)).1 _ _ hb).trans g0'
              have gO := ((bcell (hlat3.trans hlat4)).1 _ _ hb).trans g0
              have hplL : placeN j2 l i < L := by rw [HL.out] at hplt; exact hplt
              have HSO := Lib.hid (fun W => rsort_any y W)
              have HKI := Lib.hid (fun W => rkids_any op W)
              have hks := kids_size op
              rw [← HX.out] at hks
              obtain ⟨ks, hke⟩ : ∃ k, kidsS op = k := ⟨_, rfl⟩
              obtain ⟨st, hst⟩ : ∃ k, sortS y = k := ⟨_, rfl⟩
              have hcmp : (makesI y = belI op i) ↔ st = ks.extract i (i + 1) := by
                rw [← hst, ← hke]
                rcases sort_cases y with ⟨a1, a2⟩ | ⟨a1, a2⟩ | ⟨a1, a2⟩ <;> rcases kids_cases op i (by rw [← HX.out]; exact hlt4) with ⟨a3, a4⟩ | ⟨a3, a4⟩ <;> rw [a1, a2, a3, a4] <;> decide +kernel
              rw [hke] at HKI hks
              rw [hst] at HSO
              have HCM := Lib.hid hcmp
              have HBB := Lib.hid hbel
              have hlw := hlat3.trans hlat4
              generalize placeN j2 l i = pj at *
              clear hz g1 hro hpa hple hpp hplt hy0 g0' hke hst hcmp hbel g0
              have hzw := Later.size hlw
              have hw1 : IntKind.i64.wrap ((i : Int) + 1) = (i : Int) + 1 := IntWalk.i64_in _ (by omega)
              have hsl := fun W => slice_one ks i (by rw [hks]; omega) W
              by_cases heq : st = ks.extract i (i + 1)
              · have HEQ := Lib.hid heq
                subst heq
                go_wp2
                refine wp_region_plan 20 (.one [0, 1, 2, 3, 4, 5, 6, 7, 9, 10, 11, 12, 13, 15, 16, 17] 8 (.one [] 14 (.done [18, 19]))) (by kernel_rfl) (by kernel_rfl) (fun _ _ d _ _ h => by cases d <;> exact h) ?_
                repeat' (first
                  | (refine plan_done (fun K hK => ?_); (first | (simp only [pick_cons, pick_nil, toList_some_append, List.getElem?_toArray, List.getElem?_cons_zero, List.getElem?_cons_succ]; repeat (go_big_quiet_step (fail))) | simp only [pick_nil]); refine wpQuiet_nil (hK _ ?_); clear hK K)
                  | (refine plan_one (by rfl) (fun K hK => ?_); (first | (simp only [pick_cons, pick_nil, toList_some_append, List.getElem?_toArray, List.getElem?_cons_zero, List.getElem?_cons_succ]; repeat (go_big_quiet_step (fail))) | simp only [pick_nil]); refine wpQuiet_nil (hK _ ?_); clear hK K)
                  | ((with_reducible refine at_list ?_); go_wp2_with (first | (go_at_call 26; go_must (refine (HSO.out _).mono ?_; rintro e wa ⟨rfl, rfl⟩)) | (go_at_call 39; go_must (refine (HKI.out _).mono ?_; rintro e wb ⟨rfl, hbb⟩))); first | refine behind_store (t := 20) (by decide) ?_ | refine behind (by repeat (first | with_reducible exact Later.refl _ | with_reducible assumption | with_reducible refine Later.ofdrew ?_ | with_reducible refine Later.ofdrewN ?_ | with_reducible refine Later.alloc ?_ _ | with_reducible refine Later.drewN ?_ _ | with_reducible refine Later.drew ?_ | (with_reducible refine Later.trans ?_ (by assumption)))) ?_))
                go_wp2
                have HB2 : Hid (∀ q (h : q < l.length), q < i + 1 → makesI (l[q]).root.op = belI op q) := Lib.hid (fun q h hq => by
                  by_cases hqi : q = i
                  · subst hqi; rw [HRO.out]; exact HCM.out.2 trivial
                  · exact HBB.out.out q h (by omega))
                exact ⟨⟨i + 1, by omega, by simp, HB2, hlat4.trans (by repeat (first | with_reducible exact Later.refl _ | with_reducible assumption | with_reducible refine Later.ofdrew ?_ | with_reducible refine Later.ofdrewN ?_ | with_reducible refine Later.setCell ?_ ?_ _ | with_reducible refine Later.alloc ?_ _ | with_reducible refine Later.drewN ?_ _ | with_reducible refine Later.drew ?_ | (with_reducible refine Later.trans ?_ (by assumption)) | (simp only [World.size_setCell, World.size_alloc, World.heap_drewN]; omega) | (simp; done) | (simp; omega)))⟩, by simp [intOf]; omega⟩
              · have hne2 : (st.toList == (ks.extract i (i + 1)).toList) = false := by
                  simp only [beq_eq_false_iff_ne, ne_eq]
                  intro h
                  rw [Lib.toList_data, Lib.toList_data] at h
                  exact heq (ByteArray.ext (Array.ext' h))
                go_wp2
                refine wp_region_plan 20 (.one [0, 1, 2, 3, 4, 5, 6, 7, 9, 10, 11, 12, 13, 15, 16, 17] 8 (.one [] 14 (.done [18, 19]))) (by kernel_rfl) (by kernel_rfl) (fun _ _ d _ _ h => by cases d <;> exact h) ?_
                repeat' (first
                  | (refine plan_done (fun K hK => ?_); (first | (simp only [pick_cons, pick_nil, toList_some_append, List.getElem?_toArray, List.getElem?_cons_zero, List.getElem?_cons_succ]; repeat (go_big_quiet_step (fail))) | simp only [pick_nil]); refine wpQuiet_nil (hK _ ?_); clear hK K)
                  | (refine plan_one (by rfl) (fun K hK => ?_); (first | (simp only [pick_cons, pick_nil, toList_some_append, List.getElem?_toArray, List.getElem?_cons_zero, List.getElem?_cons_succ]; repeat (go_big_quiet_step (fail))) | simp only [pick_nil]); refine wpQuiet_nil (hK _ ?_); clear hK K)
                  | ((with_reducible refine at_list ?_); go_wp2_with (first | (go_at_call 26; go_must (refine (HSO.out _).mono ?_; rintro e wa ⟨rfl, rfl⟩)) | (go_at_call 39; go_must (refine (HKI.out _).mono ?_; rintro e wb ⟨rfl, hbb⟩))); first | refine behind_store (t := 20) (by decide) ?_ | refine behind (by repeat (first | with_reducible exact Later.refl _ | with_reducible assumption | with_reducible refine Later.ofdrew ?_ | with_reducible refine Later.ofdrewN ?_ | with_reducible refine Later.alloc ?_ _ | with_reducible refine Later.drewN ?_ _ | with_reducible refine Later.drew ?_ | (with_reducible refine Later.trans ?_ (by assumption)))) ?_))
                go_wp2
                · go_ret2
                  have hs : T.sorted = false := by
                    cases hs : T.sorted with
                    | false => rfl
                    | true =>
                      obtain ⟨hT1, hT2⟩ := treeOf_at HT.out
                      have h8 := sorted_at hT1 hs (Nat.zero_le j2) (by rw [hT2, HL.out]; omega) HS1.out
                      unfold Tm.top at h8
                      simp only [decide_eq_true_eq] at h8
                      exact absurd (HCM.out.1 (by rw [← HRO.out, h8 i hil, HOP.out])) heq
                  have h1 : ofE ts = 14 := by rw [HO1.out, if_neg (by rw [hs]; decide)]
                  have h2 : rofS ts = ⟨#[]⟩ := by unfold rofS; rw [if_neg (by rw [h1]; decide)]
                  exact ⟨ret_se h2.symm h1.symm, hlw.trans (by repeat (first | with_reducible exact Later.refl _ | with_reducible assumption | with_reducible refine Later.ofdrew ?_ | with_reducible refine Later.ofdrewN ?_ | with_reducible refine Later.setCell ?_ ?_ _ | with_reducible refine Later.alloc ?_ _ | with_reducible refine Later.drewN ?_ _ | with_reducible refine Later.drew ?_ | (with_reducible refine Later.trans ?_ (by assumption)) | (simp only [World.size_setCell, World.size_alloc, World.heap_drewN]; omega) | (simp; done) | (simp; omega)))⟩
            · have HT2 : Hid (∀ i s, i < j2 + 1 → TmAt ts i s → s.top = true) := Lib.hid (fun i' s hi' hs' => by
                by_cases hij : i' = j2
                · subst hij
                  rw [← TmAt.unique HS1.out hs']
                  unfold Tm.top
                  simp only [decide_eq_true_eq]
                  intro q hq
                  rw [HOP.out]
                  exact hbel.out q hq (by rw [HM.out] at hq; omega)
                · exact htop.out i' s (by omega) hs')
              clear hbel htop
              go_wp2
              go_roundw
              case rel => exact ⟨j2 + 1, by omega, by go_num, HT2, hlat3.trans hlat4⟩
              case measure => simp [intOf]; omega
        · have hs : T.sorted = true := by
            cases hs : T.sorted with
            | true => rfl
            | false =>
              obtain ⟨hT1, hT2⟩ := treeOf_at HT.out
              obtain ⟨i, s, a1, a2, a3, a4⟩ := unsorted_at hT1 hs
              rw [htop.out i s (by rw [HL.out] at hT2; omega) a3] at a4
              cases a4
          have HSS := Lib.hid hs
          obtain ⟨b, o, cp', hv, hb, hcap, g0, -⟩ := HN.out.full (i := 0) (by rw [HL.out]; omega)
          rw [HL.out] at hv
          cases hv
          have hr : (ts[0]'(by rw [HL.out]; omega)) = T.root := by
            have hT1 := (treeOf_at HT.out).1
            obtain ⟨x, l⟩ := T
            have := hT1.root.1
            rw [List.getElem?_eq_getElem (by rw [HL.out]; omega)] at this
            exact Option.some.inj this
          rw [hr] at g0
          simp only [Nat.zero_mul, Nat.add_zero] at g0
          have e0 := ((bcell hlat2).1 _ _ hb).trans g0
          have hsz := Later.size hlat2
          have HSO := Lib.hid (fun W => rsort_any T.root.op W)
          clear hs g0 hr htop
          obtain ⟨sk, hsk⟩ : ∃ m, sortS T.root.op = m := ⟨_, rfl⟩
          rw [hsk] at HSO
          have HSK := Lib.hid hsk
          clear hsk
          generalize T.root.op = rop at HSO e0
          obtain ⟨dp, hdp⟩ : ∃ m, T.depth = m := ⟨_, rfl⟩
          rw [hdp] at HDE
          have HDP := Lib.hid hdp
          clear hdp
          go_wp2_with (first
            | (go_at_call 17; go_must (refine (HDE.out _ hlat2).mono ?_; rintro e w5 ⟨rfl, hb5⟩; have e5 := ((bcell hb5).1 _ _ (Nat.lt_of_lt_of_le hb hsz)).trans e0))
            | (go_at_call 26; go_must (refine (HSO.out _).mono ?_; rintro e w6 ⟨rfl, rfl⟩)))
          · go_ret2
            have hd12 : ¬ dp ≤ 12 := by omega
            have h1 : ofE ts = 15 := by rw [HO1.out, HSS.out, HDP.out, if_pos rfl, if_neg hd12]
            have h2 : rofS ts = ⟨#[]⟩ := by unfold rofS; rw [if_neg (by rw [h1]; decide)]
            exact ⟨ret_se h2.symm h1.symm, hlat2.trans hb5⟩
          · go_ret2
            have hd12 : dp ≤ 12 := by omega
            have h1 : ofE ts = 0 := by rw [HO1.out, HSS.out, HDP.out, if_pos rfl, if_pos hd12]
            have h2 : rofS ts = sk := by unfold rofS; rw [if_pos h1, HT.out]; exact HSK.out
            exact ⟨ret_se h2.symm h1.symm, hlat2.trans hb5⟩

theorem rterm_any (ts : List Nd) (hlen : ts.length ≤ 100000) (hok : ∀ x ∈ ts, x.ok) (v : Value) (w : World) (hN : IsNodes w v ts) :
    Calls Tryd.prog 16 #[v] w fun e w' => e = .returned (.tuple #[.string (rofS ts), .int .i64 (ofE ts)]) ∧ Later w w' := by
  by_cases hg : 64 < ts.length
  · have h1 : ofE ts = 15 := by unfold ofE; rw [if_pos hg]
    have h2 : rofS ts = ⟨#[]⟩ := by unfold rofS; rw [if_neg (by rw [h1]; decide)]
    rw [h1, h2]
    exact rof_great ts v w hN hg hlen
  · cases ht : treeOf ts with
    | none =>
      have h1 : ofE ts = 13 := by unfold ofE; rw [if_neg hg, ht]
      have h2 : rofS ts = ⟨#[]⟩ := by unfold rofS; rw [if_neg (by rw [h1]; decide)]
      rw [h1, h2]
      exact rof_form ts v w hN (by omega) ht
    | some T => exact rof_good ts T v w hN hok (by omega) ht
end Go.Proofs.YtkpadahpepeaoaaDoor

/- maps whose keys are structs: look up, put -/
namespace Go.Proofs.YtkpadahpepeaoaaDoor
open Go.RowKit
set_option maxRecDepth 100000
open Go.WideMaps Go.ChangeMaps

section
variable {κ β : Type} [DecidableEq κ]
/-- The first entry of a key. -/
def getA (l : List (κ × β)) (k : κ) : Option β := (l.find? (fun p => decide (p.1 = k))).map (·.2)
/-- With one more, in place of another one of its key. -/
def putA (l : List (κ × β)) (k : κ) (v : β) : List (κ × β) := if l.any (fun p => decide (p.1 = k)) then l.map (fun p => if p.1 = k then (k, v) else p) else l ++ [(k, v)]
theorem getA_none {l : List (κ × β)} {k : κ} (h : ∀ p ∈ l, p.1 ≠ k) : getA l k = none := by
  unfold getA
  rw [List.find?_eq_none.2 (by simpa using h)]; rfl
theorem getA_some {l : List (κ × β)} (hn : (l.map (·.1)).Nodup) {p : κ × β} (hp : p ∈ l) : getA l p.1 = some p.2 := by
  unfold getA
  induction l with
  | nil => cases hp
  | cons q r ih =>
    rw [List.map_cons, List.nodup_cons] at hn
    rw [List.find?_cons]
    by_cases h : q.1 = p.1
    · rcases List.mem_cons.1 hp with rfl | hp
      · simp
      · exact absurd (List.mem_map.2 ⟨p, hp, h.symm⟩) hn.1
    · rcases List.mem_cons.1 hp with rfl | hp
      · exact absurd rfl h
      · simp only [h, decide_false]
        exact ih hn.2 hp
theorem any_key {l : List (κ × β)} {k : κ} : l.any (fun p => decide (p.1 = k)) = true ↔ ∃ p ∈ l, p.1 = k := by simp
theorem putA_keys (l : List (κ × β)) (k : κ) (v : β) (hn : (l.map (·.1)).Nodup) : ((putA l k v).map (·.1)).Nodup := by
  unfold putA
  split
  · rw [List.map_map]
    have : (l.map ((fun x : κ × β => x.1) ∘ fun p => if p.1 = k then (k, v) else p)) = l.map (·.1) := by
      apply List.map_congr_left
      intro p _
      simp only [Function.comp]
      split
      · rename_i h; exact h.symm
      · rfl
    rw [this]; exact hn
  · rename_i h
    rw [List.map_append, List.nodup_append]
    refine ⟨hn, by simp, ?_⟩
    intro a ha b hb
    simp at hb
    subst hb
    rintro rfl
    obtain ⟨p, hp, rfl⟩ := List.mem_map.1 ha
    exact h (any_key.2 ⟨p, hp, rfl⟩)
theorem putA_get (l : List (κ × β)) (k j : κ) (v : β) (hn : (l.map (·.1)).Nodup) : getA (putA l k v) j = if j = k then some v else getA l j := by
  have hn' := putA_keys l k v hn
  by_cases hj : j = k
  · subst hj
    rw [if_pos rfl]
    have hm : (j, v) ∈ putA l j v := by
      unfold putA
      split
      · rename_i h
        obtain ⟨p, hp, hk⟩ := any_key.1 h
        exact List.mem_map.2 ⟨p, hp, by rw [if_pos hk]⟩
      · simp
    exact getA_some hn' hm
  · rw [if_neg hj]
    cases hg : getA l j with
    | none =>
      apply getA_none
      intro p hp hk
      unfold putA at hp
      split at hp
      · obtain ⟨q, hq, rfl⟩ := List.mem_map.1 hp
        split at hk
        · exact hj hk.symm
        · subst hk; rw [getA_some hn hq] at hg; cases hg
      · rcases List.mem_append.1 hp with hp | hp
        · subst hk; rw [getA_some hn hp] at hg; cases hg
        · simp at hp; subst hp; exact hj hk.symm
    | some u =>
      have : ∃ p ∈ l, p.1 = j ∧ p.2 = u := by
        unfold getA at hg
        obtain ⟨p, hp, rfl⟩ := Option.map_eq_some_iff.1 hg
        have h1 := List.find?_some hp
        exact ⟨p, List.mem_of_find?_eq_some hp, by simpa using h1, rfl⟩
      obtain ⟨p, hp, rfl, rfl⟩ := this
      refine getA_some hn' (p := p) ?_
      unfold putA
      split
      · exact List.mem_map.2 ⟨p, hp, by rw [if_neg hj]⟩
      · exact List.mem_append_left _ hp

end

section
variable {κ β : Type}
variable {P : Program} {k e t : TypeId} {ek : κ → Value} {ev : κ → β → Value} {w : World} {b : Nat} {l : List (κ × β)}
/-- A block is a map that reads as a list of keys and what they hold. -/
def MapL (P : Program) (k : TypeId) (ek : κ → Value) (ev : κ → β → Value) (w : World) (b : Nat) (l : List (κ × β)) : Prop :=
  ∃ es clock, w.heap[b]? = some (.map es clock) ∧ es.toList.map (fun e => (e.key, e.val)) = l.map (fun p => (ek p.1, ev p.1 p.2)) ∧ (l.map (·.1)).Nodup ∧ ∀ p ∈ l, ∃ lit, keyOf P k (ek p.1) = some lit
theorem MapL.lt (h : MapL P k ek ev w b l) : b < w.heap.size := by obtain ⟨es, cl, h1, _⟩ := h; exact (Array.getElem?_eq_some_iff.1 h1).1
theorem MapL.later {w' : World} (h : MapL P k ek ev w b l) (hb : Later w w') : MapL P k ek ev w' b l := by
  obtain ⟨es, cl, h1, h2⟩ := h
  exact ⟨es, cl, (hb.block b (Array.getElem?_eq_some_iff.1 h1).1).trans h1, h2⟩
theorem MapL.kept {w' : World} {row : Option Nat} (h : MapL P k ek ev w b l) (hg : w.grownBy w' row) (hne : some b ≠ row) : MapL P k ek ev w' b l := by
  obtain ⟨es, cl, h1, h2⟩ := h
  exact ⟨es, cl, (hg.block b (Array.getElem?_eq_some_iff.1 h1).1 hne).trans h1, h2⟩
theorem MapL.made (w : World) : MapL P k ek ev (w.alloc (.map #[] 0)) w.heap.size ([] : List (κ × β)) :=
  ⟨#[], 0, (MapKept.heap_alloc w _).1, rfl, by simp, by simp⟩
theorem map_entry {es : Array MapEntry} {l : List (κ × β)} (h : es.toList.map (fun e => (e.key, e.val)) = l.map (fun p => (ek p.1, ev p.1 p.2))) {e : MapEntry} (he : e ∈ es.toList) : ∃ p ∈ l, e.key = ek p.1 ∧ e.val = ev p.1 p.2 := by
  have : (e.key, e.val) ∈ l.map (fun p => (ek p.1, ev p.1 p.2)) := by rw [← h]; exact List.mem_map.2 ⟨e, he, rfl⟩
  obtain ⟨p, hp, hpe⟩ := List.mem_map.1 this
  simp only [Prod.mk.injEq] at hpe
  exact ⟨p, hp, hpe.1.symm, hpe.2.symm⟩
theorem map_entry' {es : Array MapEntry} {l : List (κ × β)} (h : es.toList.map (fun e => (e.key, e.val)) = l.map (fun p => (ek p.1, ev p.1 p.2))) {p : κ × β} (hp : p ∈ l) : ∃ e ∈ es.toList, e.key = ek p.1 ∧ e.val = ev p.1 p.2 := by
  have : (ek p.1, ev p.1 p.2) ∈ es.toList.map (fun e => (e.key, e.val)) := by rw [h]; exact List.mem_map.2 ⟨p, hp, rfl⟩
  obtain ⟨e, he, hpe⟩ := List.mem_map.1 this
  simp only [Prod.mk.injEq] at hpe
  exact ⟨e, he, hpe.1, hpe.2⟩

variable [DecidableEq κ]
/-- A key is looked for. -/
theorem map_find (K : KeyLaw P k) (hek : ∀ x y, ek x = ek y → x = y) {es : Array MapEntry} (h2 : es.toList.map (fun e => (e.key, e.val)) = l.map (fun p => (ek p.1, ev p.1 p.2))) (h3 : (l.map (·.1)).Nodup) (h4 : ∀ p ∈ l, ∃ lit, keyOf P k (ek p.1) = some lit)
    (x : κ) {lit : Lit} (hx : keyOf P k (ek x) = some lit) (w : World) :
    ((Instr.findKey k (ek x) es.toList).run P w = .ok none w ∧ (∀ p ∈ l, p.1 ≠ x) ∧ getA l x = none) ∨
    ∃ j v e0, (Instr.findKey k (ek x) es.toList).run P w = .ok (some (j, ev x v)) w ∧ getA l x = some v ∧ es.toList[j]? = some e0 ∧ e0.key = ek x ∧ l[j]? = some (x, v) := by
  have hks : ∀ e ∈ es.toList, ∃ lit, keyOf P k e.key = some lit := fun e he => by
    obtain ⟨p, hp, h5, _⟩ := map_entry h2 he
    rw [h5]; exact h4 p hp
  rcases K.find w hx es.toList hks with ⟨h5, h6⟩ | ⟨j, e0, h5, h6, h7⟩
  · left
    have h8 : ∀ p ∈ l, p.1 ≠ x := fun p hp he => by
      obtain ⟨e, he1, he2, _⟩ := map_entry' h2 hp
      exact h6 e he1 (by rw [he2, he])
    exact ⟨h5, h8, getA_none h8⟩
  · right
    have hj : (l.map (fun p => (ek p.1, ev p.1 p.2)))[j]? = some (e0.key, e0.val) := by rw [← h2, List.getElem?_map, h6]; rfl
    rw [List.getElem?_map] at hj
    obtain ⟨p, hp, hpe⟩ := Option.map_eq_some_iff.1 hj
    simp only [Prod.mk.injEq] at hpe
    have hpx : p.1 = x := hek _ _ (by rw [hpe.1, h7])
    have hm := List.mem_of_getElem? hp
    refine ⟨j, p.2, e0, ?_, ?_, h6, h7, ?_⟩
    · rw [h5, ← hpe.2, hpx]
    · rw [← hpx]; exact getA_some h3 hm
    · rw [hp, ← hpx]
theorem map_lookup (K : KeyLaw P k) (hek : ∀ x y, ek x = ek y → x = y) (ht : P.underlying t = some (.map k e)) (h : MapL P k ek ev w b l) (x : κ) {lit : Lit} (hx : keyOf P k (ek x) = some lit) {z : Value} (hz : (zeroValue e).run P w = .ok z w) :
    (Instr.lookup t (.map (some b)) (ek x) true).run P w = .ok (.tuple #[(match getA l x with | none => z | some v => ev x v), .bool (getA l x).isSome]) w := by
  obtain ⟨es, cl, h1, h2, h3, h4⟩ := h
  rcases map_find K hek h2 h3 h4 x hx w with ⟨h5, -, h7⟩ | ⟨j, v, e0, h5, h6, -⟩
  · rw [h7]
    simp [Instr.lookup, run_underlying ht, MapKept.run_getObj_map h1, K.check w _ hx, h5, hz, Result.andThen]
  · rw [h6]
    simp [Instr.lookup, run_underlying ht, MapKept.run_getObj_map h1, K.check w _ hx, h5, Result.andThen]
theorem map_put (K : KeyLaw P k) (hek : ∀ x y, ek x = ek y → x = y) (ht : P.underlying t = some (.map k e)) (h : MapL P k ek ev w b l) (x : κ) (v : β) {lit : Lit} (hx : keyOf P k (ek x) = some lit) :
    ∃ w', (Instr.mapUpdate t (.map (some b)) (ek x) (ev x v)).run P w = .ok () w' ∧ MapL P k ek ev w' b (putA l x v) ∧ w.grownBy w' (some b) := by
  obtain ⟨es, cl, h1, h2, h3, h4⟩ := h
  have hgr : ∀ o : Obj, w.grownBy (setBlock w b o) (some b) := fun o => ⟨rfl, rfl, rfl, by simp [setBlock], fun i _ hi => heap_setBlock_other h1 _ (fun e => hi (by rw [e]))⟩
  rcases map_find K hek h2 h3 h4 x hx w with ⟨h5, h6, h7⟩ | ⟨j, v0, e0, h5, h6, h7, h8, h9⟩
  · refine ⟨setBlock w b (.map (es.push ⟨ek x, ev x v, cl⟩) (cl + 1)), ?_, ⟨_, _, heap_setBlock_same h1 _, ?_, putA_keys l x v h3, ?_⟩, hgr _⟩
    · simp [Instr.mapUpdate, run_underlying ht, MapKept.run_getObj_map h1, K.check w false hx, h5, MapKept.run_setObj_map _ h1, Result.andThen, setBlock]
    · have : l.any (fun p => decide (p.1 = x)) = false := by rw [List.any_eq_false]; intro p hp; simpa using h6 p hp
      unfold putA
      simp [this, h2]
    · intro p hp
      have : l.any (fun p => decide (p.1 = x)) = false := by rw [List.any_eq_false]; intro p hp; simpa using h6 p hp
      unfold putA at hp
      rw [if_neg (by simp [this])] at hp
      rcases List.mem_append.1 hp with hp | hp
      · exact h4 p hp
      · simp at hp; subst hp; exact ⟨_, hx⟩
  · have hj : es[j]? = some e0 := by simpa using h7
    have hany : l.any (fun p => decide (p.1 = x)) = true := any_key.2 ⟨_, List.mem_of_getElem? h9, rfl⟩
    refine ⟨setBlock w b (.map (es.modify j fun e => { e with key := ek x, val := ev x v }) cl), ?_, ⟨_, _, heap_setBlock_same h1 _, ?_, putA_keys l x v h3, ?_⟩, hgr _⟩
    · simp [Instr.mapUpdate, run_underlying ht, MapKept.run_getObj_map h1, K.check w false hx, h5, hj, h8, K.stays w hx, MapKept.run_setObj_map _ h1, Result.andThen, setBlock]
    · rw [Array.toList_modify, modify_eq_set _ _ _ _ h7, List.map_set, h2]
      unfold putA
      rw [if_pos hany, List.map_map]
      apply List.ext_getElem?
      intro i
      rw [List.getElem?_set, List.length_map, List.getElem?_map]
      by_cases hij : j = i
      · subst hij
        rw [if_pos rfl, if_pos (List.getElem?_eq_some_iff.1 h9).1, List.getElem?_map, h9]
        simp
      · rw [if_neg hij, List.getElem?_map]
        cases hli : l[i]? with
        | none => rfl
        | some q =>
          have hq : q.1 ≠ x := by
            intro hqx
            have hil := (List.getElem?_eq_some_iff.1 hli).1
            have hjl := (List.getElem?_eq_some_iff.1 h9).1
            have e1 : (l.map (·.1))[i]'(by simpa using hil) = x := by
              rw [List.getElem_map, ← hqx]
              have := (List.getElem?_eq_some_iff.1 hli).2
              rw [this]
            have e2 : (l.map (·.1))[j]'(by simpa using hjl) = x := by
              rw [List.getElem_map]
              have := (List.getElem?_eq_some_iff.1 h9).2
              rw [this]
            have hpw := List.pairwise_iff_getElem.1 h3
            rcases Nat.lt_or_gt_of_ne hij with hlt | hlt
            · exact hpw j i (by simpa using hjl) (by simpa using hil) hlt (e2.trans e1.symm)
            · exact hpw i j (by simpa using hil) (by simpa using hjl) hlt (e1.trans e2.symm)
          simp [hq]
    · intro p hp
      unfold putA at hp
      rw [if_pos hany] at hp
      obtain ⟨q, hq, rfl⟩ := List.mem_map.1 hp
      split
      · exact ⟨_, hx⟩
      · exact h4 q hq

/-- A store into a map, at the operation. -/
theorem wpList_put {ops : Array Oper} {rest : List Oper} {o : Oper} {a : Act} {Q : Exit → Act → World → Prop} (K : KeyLaw P k) (hek : ∀ x y, ek x = ek y → x = y) (ht : P.underlying t = some (.map k e)) (h : MapL P k ek ev w b l)
    (hg : o.guard = none) (m x v : Operand) (hop : o.op = Op.mapUpdate t m x v) (hm : a.eval m = .map (some b)) (key : κ) (val : β) (hkey : a.eval x = ek key) (hval : a.eval v = ev key val) {lit : Lit} (hx : keyOf P k (ek key) = some lit)
    (hK : ∀ w', MapL P k ek ev w' b (putA l key val) → w.grownBy w' (some b) → wpList P ops Q rest (a.put o.dst undef) w') : wpList P ops Q (o :: rest) a w := by
  refine wpList_plain hg fun K' hK' => ?_
  obtain ⟨w', hrun, r1, r2⟩ := map_put K hek ht h key val hx
  unfold Oper.wp
  simp [execOp, hop, hm, hkey, hval, hrun, Result.andThen]
  exact hK' _ _ (hK w' r1 r2)
end
end Go.Proofs.YtkpadahpepeaoaaDoor
