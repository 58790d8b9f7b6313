/- term.Of: the ways ahead of the loop -/
import Derived.Test.YtkjabiabeemfhaaGreatDoorV10
import Derived.Test.YtkjabiabeemfhaaGreatDoorV13
import Derived.Test.YtkjabiabeemfhaaGreatDoorV3
import Derived.WalkMore
set_option linter.all false
set_option linter.all false
section
namespace Go.Proofs.YtkjabiabeemfhaaGreatDoor
open Go.RowKit
set_option maxRecDepth 100000
def placesI (k : Nat) (l : List Tm) (j : Nat) : List Int := (List.range j).map (fun i => (placeN k l i : Int))
theorem placesI_succ (k : Nat) (l : List Tm) (j : Nat) : placesI k l (j + 1) = placesI k l j ++ [(placeN k l j : Int)] := by simp [placesI, List.range_succ]
theorem placesI_length (k : Nat) (l : List Tm) (j : Nat) : (placesI k l j).length = j := by simp [placesI]
set_option maxHeartbeats 2000000 in
theorem rbelow_any (ts : List Nd) (hlen : ts.length ≤ 100000) (x : Nd) (l : List Tm) (k : Nat) (v : Value) (w : World) (hT : TmAt ts k (.node x l)) (hN : IsNodes w v ts) :
    Calls Tryz.prog 58 #[v, .int .i64 k] w fun e w' => ∃ v', e = .returned v' ∧ IsInts w' v' (placesI k l l.length) ∧ Later w w' := by
  obtain ⟨hr1, hr2, hr3, hr4⟩ := hT.root
  have hk : k < ts.length := by have := hT.le; have := (Tm.node x l).size_pos; omega
  obtain ⟨b, o, cp, hv, hb, hcap, g0, -⟩ := hN.full hk
  subst hv
  have hx0 : (ts[k]).op = x.op := by rw [List.getElem?_eq_getElem hk] at hr1; cases hr1; rfl
  rw [hx0] at g0
  have HKI := Lib.hid (fun W => rkids_any x.op W)
  have hks := kids_size x.op
  obtain ⟨ks, hkse⟩ : ∃ ks, kidsS x.op = ks := ⟨_, rfl⟩
  rw [hkse] at HKI hks
  rw [← hr4] at hks
  have hml := many_le x.op
  rw [← hr4] at hml
  have HP := Lib.hid (fun j (hj : j < l.length) => placeN_at hT hj)
  have HP2 := Lib.hid (fun j (hj : j < l.length) => placeN_succ (k := k) hj)
  have HSZ := Lib.hid (fun j W h1 h2 => rsize_any ts j (.slice (some ⟨b, o, none⟩) ts.length cp) W hlen h1 h2)
  have HN := Lib.hid hN
  clear hT hr1 hr2 hr3 hr4 hx0 hkse hN
  have HPS := Lib.hid (placesI_succ k l)
  go_enter Tryz.func58, Tryz.ntmps58
  go_wp2
  go_loopw [5, 6, 7] (fun s5 s6 s7 wr => ∃ (j : Nat), j ≤ l.length ∧ s7 = .int .i64 j ∧ s6 = .int .i64 (placeN k l j) ∧ Mine w 3 1 wr s5 j ((placesI k l j).map (Value.int .i64))) (fun _ _ s7 _ => l.length - (intOf s7).toNat)
  case atStart => exact ⟨0, Nat.zero_le _, rfl, by unfold placeN; simp [Tm.size.sizes], Mine.nil (Later.refl _)⟩
  case round =>
    obtain ⟨j, hj, rfl, rfl, hM⟩ := hrel
    obtain ⟨p', cp', rfl⟩ := hM.form
    have g1 := ((bcell hM.lat).1 _ _ hb).trans g0
    have hz := Later.size hM.lat
    by_cases hlt : j < l.length
    · have HPJ := HP.out j hlt
      have hle := HPJ.le
      have HC := Lib.hid (fun W h2 => HSZ.out (placeN k l j) W (by omega) h2)
      rw [HPJ.size_] at HC
      have hp1 := HP2.out j hlt
      have hps := HPS.out j
      have hpl := (l[j]).size_pos
      obtain ⟨pj, hpj⟩ : ∃ pj, placeN k l j = pj := ⟨_, rfl⟩
      obtain ⟨pj1, hpj1⟩ : ∃ pj, placeN k l (j + 1) = pj := ⟨_, rfl⟩
      obtain ⟨sz, hsz⟩ : ∃ sz, (l[j]).size = sz := ⟨_, rfl⟩
      rw [hpj] at HC hps hle hp1 ⊢
      rw [hpj1, hsz] at hp1
      rw [hsz] at HC hle
      have HPJ1 := Lib.hid (hpj1.trans hp1)
      have HPS1 := Lib.hid hps
      have HM := Lib.hid hM
      clear HPJ hpj hpj1 hsz hps hp1 hM hpl
      have hkl : decide ((j : Int) < (ks.size : Int)) = true := by simp; omega
      have HNW := Lib.hid (fun W (h : Later wr W) => HN.out.later (HM.out.lat.trans h))
      have HMW := Lib.hid (fun W (h : Later wr W) => HM.out.later h)
      go_wp2_with (first
        | (go_at_call 99; go_must (refine (HKI.out _).mono ?_; rintro e w2 ⟨rfl, hb2⟩))
        | (at_builtin; go_must (refine wpList_push sliceInt (HMW.out _ hb2) rfl _ _ rfl rfl 1 rfl rfl (by simp [Value.oneCell']) (by omega) (by unfold maxLen; omega) ?_; intro v5 w3 hM3 hg3; have hb3 := hM3.lat; obtain ⟨p5, cp5, rfl⟩ := hM3.form))
        | (go_at_call 100; go_must (refine (HC.out _ (HN.out.later hb3)).mono ?_; rintro e w4 ⟨rfl, hb4⟩)))
      refine ⟨⟨j + 1, by omega, by simp, by rw [HPJ1.out]; simp, ?_⟩, by simp [intOf]; omega⟩
      have := hM3.later hb4
      rw [HPS1.out, List.map_append]
      exact this
    · obtain rfl : j = l.length := by omega
      have HM := Lib.hid hM
      clear hM
      go_wp2_with (go_at_call 99; go_must (refine (HKI.out _).mono ?_; rintro e w2 ⟨rfl, hb2⟩))
      go_ret
      exact ⟨_, rfl, (HM.out.later hb2).ints.1, HM.out.lat.trans hb2⟩
set_option maxHeartbeats 2000000 in
theorem rdepth_any (ts : List Nd) (hlen : ts.length ≤ 100000) : ∀ (T : Tm) (k : Nat) (v : Value) (w : World), TmAt ts k T → IsNodes w v ts →
    Calls Tryz.prog 28 #[v, .int .i64 k] w fun e w' => e = .returned (.int .i64 (T.depth : Int)) ∧ Later w w' := by
  intro T
  induction T using Tm.ind with
  | h x l ih =>
    intro k v w hT hN
    obtain ⟨p, cp, rfl⟩ := hN.form
    have HB := Lib.hid (rbelow_any ts hlen x l k (.slice p ts.length cp) w hT hN)
    have HIH := Lib.hid (fun (j : Nat) (hj : j < l.length) (W : World) (hl : Later w W) => ih l[j] (List.getElem_mem _) (placeN k l j) (.slice p ts.length cp) W (placeN_at hT hj) (hN.later hl))
    have hdl := dm_all x l
    have hdz := (Tm.node x l).depth_size
    have hle := hT.le
    have hpl := placesI_length k l l.length
    have hml := many_le x.op
    rw [← hT.root.2.2.2] at hml
    have HD := Lib.hid (show Tm.depth.depths l + 1 = (Tm.node x l).depth from rfl)
    have hdb : (Tm.node x l).depth ≤ 100000 := by omega
    have HPG := Lib.hid (fun j (hj : j < l.length) => (show (placesI k l l.length)[j]? = some (placeN k l j : Int) by unfold placesI; simp [hj]))
    clear ih hT hN hdl hdz hle
    generalize placesI k l l.length = zs at *
    go_enter Tryz.func28, Tryz.ntmps28
    go_wp2_with (go_at_call 58; go_must (refine (HB.out).mono ?_; rintro e w1 ⟨v1, rfl, hI1, hb1⟩; obtain ⟨p1, cp1, rfl⟩ := hI1.form))
    have HI1 := Lib.hid hI1
    clear hI1 HB
    go_loopw [5, 7] (fun s5 s7 wr => ∃ (j d : Nat), j ≤ l.length ∧ s7 = .int .i64 j ∧ s5 = .int .i64 d ∧ Hid (max d (Tm.depth.depths (l.drop j)) + 1 = (Tm.node x l).depth) ∧ Later w1 wr) (fun _ s7 _ => l.length - (intOf s7).toNat)
    case atStart => exact ⟨0, 0, Nat.zero_le _, rfl, rfl, Lib.hid (by simp; exact HD.out), Later.refl _⟩
    case round =>
      obtain ⟨j, d, hj, rfl, rfl, hd, hlat⟩ := hrel
      by_cases hlt : j < l.length
      · obtain ⟨b1, o1, c1, hv1, hb1', g1⟩ := HI1.out.full (j := j) (by rw [hpl]; exact hlt)
        rw [hpl] at hv1
        cases hv1
        have g2 := ((bcell hlat).1 _ _ hb1').trans g1
        have hz : zs[j]'(by rw [hpl]; exact hlt) = (placeN k l j : Int) := by
          have := HPG.out j hlt
          rw [List.getElem?_eq_getElem (by rw [hpl]; exact hlt)] at this
          exact Option.some.inj this
        rw [hz] at g2
        have hdd : max (max d (l[j]).depth) (Tm.depth.depths (l.drop (j + 1))) + 1 = (Tm.node x l).depth := by
          rw [← hd.out]
          have : l.drop j = l[j] :: l.drop (j + 1) := by rw [List.getElem_cons_drop]
          rw [this]; simp only [Tm.depth.depths]; omega
        have hdb' : max d (l[j]).depth ≤ 100000 := by omega
        have HC := Lib.hid (HIH.out j hlt wr (hb1.trans hlat))
        obtain ⟨dj, hdj⟩ : ∃ dj, (l[j]).depth = dj := ⟨_, rfl⟩
        rw [hdj] at HC hdd hdb'
        have HDD := Lib.hid hdd
        clear hdj hdd g1 hz hd
        generalize placeN k l j = pj at *
        go_wp2_with (go_at_call 28; go_must (refine (HC.out).mono ?_; rintro e w3 ⟨rfl, hb3⟩))
        exact ⟨⟨j + 1, max d dj, by omega, by simp, by rw [show ((max d dj : Nat) : Int) = max (d : Int) dj by omega], HDD, hlat.trans hb3⟩, by simp [intOf]; omega⟩
      · obtain rfl : j = l.length := by omega
        have hfin : d + 1 = (Tm.node x l).depth := by have := hd.out; rw [List.drop_eq_nil_of_le (Nat.le_refl _)] at this; simpa [Tm.depth.depths] using this
        have HF := Lib.hid hfin
        have hdb' : d ≤ 100000 := by omega
        clear hfin hd
        go_wp2
        go_ret
        exact ⟨ret_int (by rw [← HF.out]; omega), hb1.trans hlat⟩
end Go.Proofs.YtkjabiabeemfhaaGreatDoor
end
section
namespace Go.Proofs.YtkjabiabeemfhaaGreatDoor
open Go.RowKit
set_option maxRecDepth 100000
namespace Tm
def top : Tm → Bool
  | node x l => decide (∀ j (h : j < l.length), makesI (l[j]).root.op = belI x.op j)
def sorted : Tm → Bool
  | node x l => top (node x l) && sorteds l
where sorteds : List Tm → Bool
  | [] => true
  | t :: r => sorted t && sorteds r
theorem sorteds_iff (l : List Tm) : sorted.sorteds l = true ↔ ∀ t ∈ l, t.sorted = true := by
  induction l with
  | nil => simp [sorted.sorteds]
  | cons t r ih => simp [sorted.sorteds, ih]
end Tm
theorem sorted_at {ts : List Nd} : ∀ {t : Tm} {k j : Nat} {s : Tm}, TmAt ts k t → t.sorted = true → k ≤ j → j < k + t.size → TmAt ts j s → s.top = true := by
  intro t
  induction t using Tm.ind with
  | h x l ih =>
    intro k j s h hs h1 h2 h3
    unfold Tm.sorted at hs
    simp only [Bool.and_eq_true] at hs
    by_cases hj : j = k
    · subst hj; rw [← TmAt.unique h h3]; exact hs.1
    · obtain ⟨_, h4, _, _⟩ := h.root
      have key : ∀ (r : List Tm) (i : Nat), (∀ t ∈ r, ∀ {k j : Nat} {s : Tm}, TmAt ts k t → t.sorted = true → k ≤ j → j < k + t.size → TmAt ts j s → s.top = true) → Tm.sorted.sorteds r = true → TmsAt ts i r → i ≤ j → j < i + Tm.size.sizes r → s.top = true := by
        intro r
        induction r with
        | nil => intro i _ _ _ h5 h6; simp [Tm.size.sizes] at h6; omega
        | cons t r ihr =>
          intro i hr hso hi h5 h6
          obtain ⟨h7, h8⟩ := hi.cons
          simp only [Tm.size.sizes] at h6
          simp only [Tm.sorted.sorteds, Bool.and_eq_true] at hso
          by_cases hlt : j < i + t.size
          · exact hr t (by simp) h7 hso.1 h5 hlt h3
          · exact ihr _ (fun s hs => hr s (by simp [hs])) hso.2 h8 (by omega) (by omega)
      have h5 : (Tm.node x l).size = 1 + Tm.size.sizes l := rfl
      rw [h5] at h2
      exact key l (k + 1) ih hs.2 h4 (by omega) (by omega)
theorem unsorted_at {ts : List Nd} : ∀ {t : Tm} {k : Nat}, TmAt ts k t → t.sorted = false → ∃ j s, k ≤ j ∧ j < k + t.size ∧ TmAt ts j s ∧ s.top = false := by
  intro t
  induction t using Tm.ind with
  | h x l ih =>
    intro k h hs
    unfold Tm.sorted at hs
    simp only [Bool.and_eq_false_iff] at hs
    have hp := (Tm.node x l).size_pos
    rcases hs with hs | hs
    · exact ⟨k, _, Nat.le_refl _, by omega, h, hs⟩
    · obtain ⟨_, h4, _, _⟩ := h.root
      have key : ∀ (r : List Tm) (i : Nat), (∀ t ∈ r, ∀ {k : Nat}, TmAt ts k t → t.sorted = false → ∃ j s, k ≤ j ∧ j < k + t.size ∧ TmAt ts j s ∧ s.top = false) → Tm.sorted.sorteds r = false → TmsAt ts i r → ∃ j s, i ≤ j ∧ j < i + Tm.size.sizes r ∧ TmAt ts j s ∧ s.top = false := by
        intro r
        induction r with
        | nil => intro i _ h5 _; simp [Tm.sorted.sorteds] at h5
        | cons t r ihr =>
          intro i hr hso hi
          obtain ⟨h7, h8⟩ := hi.cons
          simp only [Tm.size.sizes]
          simp only [Tm.sorted.sorteds, Bool.and_eq_false_iff] at hso
          rcases hso with hso | hso
          · obtain ⟨j, s, a1, a2, a3, a4⟩ := hr t (by simp) h7 hso
            exact ⟨j, s, a1, by omega, a3, a4⟩
          · obtain ⟨j, s, a1, a2, a3, a4⟩ := ihr _ (fun s hs => hr s (by simp [hs])) hso h8
            exact ⟨j, s, by omega, by omega, a3, a4⟩
      have h5 : (Tm.node x l).size = 1 + Tm.size.sizes l := rfl
      obtain ⟨j, s, a1, a2, a3, a4⟩ := key l (k + 1) ih hs h4
      exact ⟨j, s, by omega, by omega, a3, a4⟩
open Classical in
noncomputable def treeOf (ts : List Nd) : Option Tm := if h : ∃ T : Tm, T.ok ∧ T.flat = ts then some h.choose else none
theorem flat_inj {s t : Tm} (hs : s.ok) (ht : t.ok) (h : s.flat = t.flat) : s = t := by
  have h1 := TmAt.self s hs
  rw [h] at h1
  exact TmAt.unique h1 (TmAt.self t ht)
theorem treeOf_iff {ts : List Nd} {T : Tm} : treeOf ts = some T ↔ T.ok ∧ T.flat = ts := by
  unfold treeOf
  constructor
  · intro h
    split at h
    · rename_i hh; cases h; exact hh.choose_spec
    · cases h
  · intro h
    rw [dif_pos ⟨T, h⟩]
    have hc := (⟨T, h⟩ : ∃ T : Tm, T.ok ∧ T.flat = ts).choose_spec
    exact congrArg some (flat_inj hc.1 h.1 (hc.2.trans h.2.symm))
theorem treeOf_at {ts : List Nd} {T : Tm} (h : treeOf ts = some T) : TmAt ts 0 T ∧ T.size = ts.length := by
  obtain ⟨h1, rfl⟩ := treeOf_iff.1 h
  exact ⟨TmAt.self T h1, T.size_flat.symm⟩
theorem treeOf_none {ts : List Nd} (h : treeOf ts = none) (r : Nat) (he : endN ts 0 = some r) : r ≠ ts.length := by
  rintro rfl
  obtain ⟨t, ht, hr⟩ := tm_of_end (Nat.le_refl _) he
  have : treeOf ts = some t := treeOf_iff.2 ⟨ht.1, by
    obtain ⟨c, hc⟩ := ht.2
    rw [List.drop_zero] at hc
    have hl := congrArg List.length hc
    rw [List.length_append, Tm.size_flat] at hl
    have : c = [] := List.eq_nil_of_length_eq_zero (by omega)
    rw [this, List.append_nil] at hc
    exact hc⟩
  rw [h] at this; cases this
noncomputable def ofE (ts : List Nd) : Int :=
  if 64 < ts.length then 15 else match treeOf ts with
    | none => 13
    | some T => if ts.all fieldsB = true then (if T.sorted = true then (if T.depth ≤ 12 then 0 else 15) else 14) else 10
noncomputable def ofS (ts : List Nd) : Int := if ofE ts = 0 then (match treeOf ts with | none => 0 | some T => makesI T.root.op) else 0
set_option maxHeartbeats 400000 in
theorem off_any (x : Nd) (w : World) (hx : x.ok) :
    Calls Tryz.prog 118 #[x.val] w fun e w' => e = .returned (.bool (!fieldsB x)) ∧ Later w w' := by
  have HF := Lib.hid (fun W => fields_any x W hx)
  obtain ⟨r, hr⟩ : ∃ r, fieldsB x = r := ⟨_, rfl⟩
  rw [hr] at HF ⊢
  clear hr hx
  obtain ⟨op, a, b, n, d⟩ := x
  unfold Nd.val at *
  simp only at *
  go_enter Tryz.func118, Tryz.ntmps118
  go_wp2_with (go_at_call 119; go_must (refine (HF.out _).mono ?_; rintro e w1 ⟨rfl, hb1⟩))
  go_ret
  exact ⟨rfl, Later.trans (by repeat (first | with_reducible exact Later.refl _ | with_reducible assumption | with_reducible refine Later.ofdrew ?_ | with_reducible refine Later.ofdrewN ?_ | with_reducible refine Later.setCell ?_ ?_ _ | with_reducible refine Later.alloc ?_ _ | with_reducible refine Later.drewN ?_ _ | with_reducible refine Later.drew ?_ | (with_reducible refine Later.trans ?_ (by assumption)) | (simp only [World.size_setCell, World.size_alloc, World.heap_drewN]; omega) | (simp; done) | (simp; omega))) hb1⟩
set_option maxHeartbeats 1600000 in
theorem index_any (ts : List Nd) (hlen : ts.length ≤ 100000) (hok : ∀ x ∈ ts, x.ok) (v : Value) (w : World) (hN : IsNodes w v ts) :
    Calls Tryz.prog 163 #[v, .func (.func 118) #[] #[]] w fun e w' => (∃ r : Int, e = .returned (.int .i64 r) ∧ decide (0 ≤ r) = !ts.all fieldsB) ∧ Later w w' := by
  obtain ⟨p, cp, rfl⟩ := hN.form
  have HO := Lib.hid (fun (j : Nat) (h : j < ts.length) W => off_any ts[j] W (hok _ (List.getElem_mem _)))
  have HN := Lib.hid hN
  clear hok hN
  obtain ⟨L, hL⟩ : ∃ L, ts.length = L := ⟨_, rfl⟩
  rw [hL] at HN hlen ⊢
  have HL := Lib.hid hL
  clear hL
  go_enter Tryz.func163, Tryz.ntmps163
  go_wp2
  go_loopw [8] (fun s8 wr => ∃ j : Nat, j ≤ L ∧ s8 = .int .i64 j ∧ Hid (∀ i (h : i < ts.length), i < j → fieldsB ts[i] = true) ∧ Later w wr) (fun s8 _ => L - (intOf s8).toNat)
  case atStart => exact ⟨0, Nat.zero_le _, rfl, Lib.hid (fun i _ h => by omega), Later.refl _⟩
  case round =>
    obtain ⟨j, hj, rfl, hall, hlat⟩ := hrel
    by_cases hlt : j < L
    · have hjl : j < ts.length := by rw [HL.out]; exact hlt
      obtain ⟨b, o, cp', hv, hb, hcap, g0, g1, g2, g3, g4⟩ := HN.out.full (i := j) hjl
      rw [HL.out] at hv
      cases hv
      have e0 := ((bcell hlat).1 _ _ hb).trans g0
      have e1 := ((bcell hlat).1 _ _ hb).trans g1
      have e2 := ((bcell hlat).1 _ _ hb).trans g2
      have e3 := ((bcell hlat).1 _ _ hb).trans g3
      have e4 := ((bcell hlat).1 _ _ hb).trans g4
      have HC := Lib.hid (HO.out j hjl)
      unfold Nd.val at HC
      clear g0 g1 g2 g3 g4
      cases hf : fieldsB ts[j] with
      | true =>
        have HA : Hid (∀ i (h : i < ts.length), i < j + 1 → fieldsB ts[i] = true) := Lib.hid (fun i h1 h2 => by
          by_cases h : i = j
          · subst h; exact hf
          · exact hall.out i h1 (by omega))
        rw [hf] at HC
        clear hf hall
        generalize (ts[j]).op = x0 at *
        generalize (ts[j]).a = x1 at *
        generalize (ts[j]).b = x2 at *
        generalize (ts[j]).n = x3 at *
        generalize (ts[j]).d = x4 at *
        go_wp2_with (go_at_call 118; go_must (refine (HC.out _).mono ?_; rintro e w3 ⟨rfl, hb3⟩))
        go_roundw
        case rel => exact ⟨j + 1, by omega, by go_num, HA, hlat.trans hb3⟩
        case measure => simp [intOf]; omega
      | false =>
        have HF : Hid (ts.all fieldsB = false) := Lib.hid (by rw [List.all_eq_false]; exact ⟨ts[j], List.getElem_mem _, by simp [hf]⟩)
        rw [hf] at HC
        clear hf hall
        generalize (ts[j]).op = x0 at *
        generalize (ts[j]).a = x1 at *
        generalize (ts[j]).b = x2 at *
        generalize (ts[j]).n = x3 at *
        generalize (ts[j]).d = x4 at *
        go_wp2_with (go_at_call 118; go_must (refine (HC.out _).mono ?_; rintro e w3 ⟨rfl, hb3⟩))
        go_ret
        exact ⟨⟨j, rfl, by rw [HF.out]; simp⟩, hlat.trans hb3⟩
    · have HF : Hid (ts.all fieldsB = true) := Lib.hid (by
        rw [List.all_eq_true]
        intro x hx
        obtain ⟨i, hi, rfl⟩ := List.getElem_of_mem hx
        exact hall.out i hi (by rw [HL.out] at hi; omega))
      clear hall
      go_wp2
      go_ret
      exact ⟨⟨-1, rfl, by rw [HF.out]; simp⟩, hlat⟩
set_option maxHeartbeats 400000 in
theorem contains_any (ts : List Nd) (hlen : ts.length ≤ 100000) (hok : ∀ x ∈ ts, x.ok) (v : Value) (w : World) (hN : IsNodes w v ts) :
    Calls Tryz.prog 117 #[v, .func (.func 118) #[] #[]] w fun e w' => e = .returned (.bool (!ts.all fieldsB)) ∧ Later w w' := by
  have HC := Lib.hid (index_any ts hlen hok v w hN)
  obtain ⟨p, cp, rfl⟩ := hN.form
  obtain ⟨q, hq⟩ : ∃ q, (!ts.all fieldsB) = q := ⟨_, rfl⟩
  rw [hq] at HC ⊢
  clear hq hN hok
  go_enter Tryz.func117, Tryz.ntmps117
  go_wp2_with (go_at_call 163; go_must (refine HC.out.mono ?_; rintro e w1 ⟨⟨r, rfl, hr⟩, hb1⟩))
  go_ret
  exact ⟨rfl, hb1⟩
end Go.Proofs.YtkjabiabeemfhaaGreatDoor
end
section
namespace Go.Proofs.YtkjabiabeemfhaaGreatDoor
open Go.RowKit
set_option maxRecDepth 100000
theorem endI_len {ts : List Nd} (hne : ts.length ≠ 0) (h : treeOf ts = none) : (optI (endN ts 0) == (ts.length : Int)) = false := by
  cases he : endN ts 0 with
  | none => simp [optI]
  | some r => have := treeOf_none h r he; simp [optI]; omega
theorem endI_tree {ts : List Nd} {T : Tm} (h : treeOf ts = some T) : optI (endN ts 0) = (ts.length : Int) := by
  obtain ⟨h1, h2⟩ := treeOf_at h
  rw [h1.end_, ← h2]; simp [optI]
set_option maxHeartbeats 1600000 in
theorem of_great (ts : List Nd) (v : Value) (w : World) (hN : IsNodes w v ts) (hg : 64 < ts.length) (hlen : ts.length ≤ 100000) :
    Calls Tryz.prog 77 #[v] w fun e w' => e = .returned (.tuple #[.int .i64 0, .int .i64 15]) ∧ Later w w' := by
  obtain ⟨p, cp, rfl⟩ := hN.form
  clear hN
  generalize ts.length = L at *
  go_enter Tryz.func77, Tryz.ntmps77
  go_wp2
  go_step3
  go_wp2
  rw [Exit.noGoto_ret]
  go_ret2
  exact ⟨rfl, by repeat (first | with_reducible exact Later.refl _ | with_reducible assumption | with_reducible refine Later.ofdrew ?_ | with_reducible refine Later.ofdrewN ?_ | with_reducible refine Later.setCell ?_ ?_ _ | with_reducible refine Later.alloc ?_ _ | with_reducible refine Later.drewN ?_ _ | with_reducible refine Later.drew ?_ | (with_reducible refine Later.trans ?_ (by assumption)) | (simp only [World.size_setCell, World.size_alloc, World.heap_drewN]; omega) | (simp; done) | (simp; omega))⟩
set_option maxHeartbeats 1600000 in
theorem of_empty (w : World) (v : Value) (hN : IsNodes w v []) :
    Calls Tryz.prog 77 #[v] w fun e w' => e = .returned (.tuple #[.int .i64 0, .int .i64 13]) ∧ Later w w' := by
  obtain ⟨p, cp, rfl⟩ := hN.form
  clear hN
  simp only [List.length_nil]
  go_enter Tryz.func77, Tryz.ntmps77
  go_wp2
  go_step3
  go_wp2
  refine wp_region_plan 11 (.one [0] 1 (.two [2, 3, 4, 6] 5 (.one [] 7 (.done [8, 9, 10])) 7 (.one [] 5 (.done [8, 9, 10])))) (by kernel_rfl) (by kernel_rfl) (fun _ _ d _ _ h => by cases d <;> exact h) ?_
  repeat' (first
    | (refine plan_done (fun K hK => ?_); (first | (simp only [pick_cons, pick_nil, toList_some_append, List.getElem?_toArray, List.getElem?_cons_zero, List.getElem?_cons_succ]; repeat (go_big_quiet_step (fail))) | simp only [pick_nil]); refine wpQuiet_nil (hK _ ?_); clear hK K)
    | (refine plan_one (by rfl) (fun K hK => ?_); (first | (simp only [pick_cons, pick_nil, toList_some_append, List.getElem?_toArray, List.getElem?_cons_zero, List.getElem?_cons_succ]; repeat (go_big_quiet_step (fail))) | simp only [pick_nil]); refine wpQuiet_nil (hK _ ?_); clear hK K)
    | (refine plan_two (by rfl) (by rfl) (fun K hK => ?_); (first | (simp only [pick_cons, pick_nil, toList_some_append, List.getElem?_toArray, List.getElem?_cons_zero, List.getElem?_cons_succ]; repeat (go_big_quiet_step (fail))) | simp only [pick_nil]); refine wpQuiet_nil (hK _ ?_); clear hK K; refine ⟨?_, ?_⟩)
    | ((with_reducible refine at_list ?_); go_wp2_with (fail); first | refine behind_store (t := 11) (by decide) ?_ | refine behind (by repeat (first | with_reducible exact Later.refl _ | with_reducible assumption | with_reducible refine Later.ofdrew ?_ | with_reducible refine Later.ofdrewN ?_ | with_reducible refine Later.alloc ?_ _ | with_reducible refine Later.drewN ?_ _ | with_reducible refine Later.drew ?_ | (with_reducible refine Later.trans ?_ (by assumption)))) ?_))
  all_goals
    go_wp2
    rw [Exit.noGoto_ret]
    go_ret2
    exact ⟨rfl, by repeat (first | with_reducible exact Later.refl _ | with_reducible assumption | with_reducible refine Later.ofdrew ?_ | with_reducible refine Later.ofdrewN ?_ | with_reducible refine Later.setCell ?_ ?_ _ | with_reducible refine Later.alloc ?_ _ | with_reducible refine Later.drewN ?_ _ | with_reducible refine Later.drew ?_ | (with_reducible refine Later.trans ?_ (by assumption)) | (simp only [World.size_setCell, World.size_alloc, World.heap_drewN]; omega) | (simp; done) | (simp; omega))⟩
set_option maxHeartbeats 1600000 in
theorem of_form (ts : List Nd) (v : Value) (w : World) (hS : Shapes w) (hN : IsNodes w v ts) (hg : ts.length ≤ 64) (hne : ts.length ≠ 0) (h : treeOf ts = none) :
    Calls Tryz.prog 77 #[v] w fun e w' => e = .returned (.tuple #[.int .i64 0, .int .i64 13]) ∧ Later w w' := by
  have HE := Lib.hid (fun W (hl : Later w W) => end_any ts (by omega) _ 0 v W (Nat.le_refl _) (by omega) (hS.later hl) (hN.later hl))
  have hd := endI_len hne h
  obtain ⟨p, cp, rfl⟩ := hN.form
  clear hN hS h
  generalize optI (endN ts 0) = en at *
  generalize ts.length = L at *
  have h0 : ((L : Int) == 0) = false := by simp; omega
  go_enter Tryz.func77, Tryz.ntmps77
  go_wp2
  go_step3
  go_wp2
  refine wp_region_plan 11 (.one [0] 1 (.two [2, 3, 4, 6] 5 (.one [] 7 (.done [8, 9, 10])) 7 (.one [] 5 (.done [8, 9, 10])))) (by kernel_rfl) (by kernel_rfl) (fun _ _ d _ _ h => by cases d <;> exact h) ?_
  repeat' (first
    | (refine plan_done (fun K hK => ?_); (first | (simp only [pick_cons, pick_nil, toList_some_append, List.getElem?_toArray, List.getElem?_cons_zero, List.getElem?_cons_succ]; repeat (go_big_quiet_step (fail))) | simp only [pick_nil]); refine wpQuiet_nil (hK _ ?_); clear hK K)
    | (refine plan_one (by rfl) (fun K hK => ?_); (first | (simp only [pick_cons, pick_nil, toList_some_append, List.getElem?_toArray, List.getElem?_cons_zero, List.getElem?_cons_succ]; repeat (go_big_quiet_step (fail))) | simp only [pick_nil]); refine wpQuiet_nil (hK _ ?_); clear hK K)
    | (refine plan_two (by rfl) (by rfl) (fun K hK => ?_); (first | (simp only [pick_cons, pick_nil, toList_some_append, List.getElem?_toArray, List.getElem?_cons_zero, List.getElem?_cons_succ]; repeat (go_big_quiet_step (fail))) | simp only [pick_nil]); refine wpQuiet_nil (hK _ ?_); clear hK K; refine ⟨?_, ?_⟩)
    | ((with_reducible refine at_list ?_); go_wp2_with ((go_at_call 78; go_must (refine (HE.out _ (by repeat (first | with_reducible exact Later.refl _ | with_reducible assumption | with_reducible refine Later.ofdrew ?_ | with_reducible refine Later.ofdrewN ?_ | with_reducible refine Later.setCell ?_ ?_ _ | with_reducible refine Later.alloc ?_ _ | with_reducible refine Later.drewN ?_ _ | with_reducible refine Later.drew ?_ | (with_reducible refine Later.trans ?_ (by assumption)) | (simp only [World.size_setCell, World.size_alloc, World.heap_drewN]; omega) | (simp; done) | (simp; omega)))).mono ?_; rintro e w2 ⟨rfl, hb2⟩))); first | refine behind_store (t := 11) (by decide) ?_ | refine behind (by repeat (first | with_reducible exact Later.refl _ | with_reducible assumption | with_reducible refine Later.ofdrew ?_ | with_reducible refine Later.ofdrewN ?_ | with_reducible refine Later.alloc ?_ _ | with_reducible refine Later.drewN ?_ _ | with_reducible refine Later.drew ?_ | (with_reducible refine Later.trans ?_ (by assumption)))) ?_))
  all_goals
    go_wp2
    rw [Exit.noGoto_ret]
    go_ret2
    exact ⟨rfl, by repeat (first | with_reducible exact Later.refl _ | with_reducible assumption | with_reducible refine Later.ofdrew ?_ | with_reducible refine Later.ofdrewN ?_ | with_reducible refine Later.setCell ?_ ?_ _ | with_reducible refine Later.alloc ?_ _ | with_reducible refine Later.drewN ?_ _ | with_reducible refine Later.drew ?_ | (with_reducible refine Later.trans ?_ (by assumption)) | (simp only [World.size_setCell, World.size_alloc, World.heap_drewN]; omega) | (simp; done) | (simp; omega))⟩
set_option maxHeartbeats 1600000 in
theorem of_range (ts : List Nd) (T : Tm) (v : Value) (w : World) (hS : Shapes w) (hN : IsNodes w v ts) (hok : ∀ x ∈ ts, x.ok) (hg : ts.length ≤ 64) (h : treeOf ts = some T) (hf : ts.all fieldsB = false) :
    Calls Tryz.prog 77 #[v] w fun e w' => e = .returned (.tuple #[.int .i64 0, .int .i64 10]) ∧ Later w w' := by
  have HE := Lib.hid (fun W (hl : Later w W) => end_any ts (by omega) _ 0 v W (Nat.le_refl _) (by omega) (hS.later hl) (hN.later hl))
  rw [endI_tree h] at HE
  have HC := Lib.hid (fun W (hl : Later w W) => contains_any ts (by omega) hok v W (hN.later hl))
  rw [hf] at HC
  have hne : ts.length ≠ 0 := by have := (treeOf_at h).2; have := T.size_pos; omega
  obtain ⟨p, cp, rfl⟩ := hN.form
  clear hN hS h hf hok
  generalize ts.length = L at *
  have h0 : ((L : Int) == 0) = false := by simp; omega
  go_enter Tryz.func77, Tryz.ntmps77
  go_wp2
  go_step3
  go_wp2
  go_cut [13] (fun s13 wx => s13 = .bool false ∧ Own wx [(w.heap.size, #[.slice p L cp])] ∧ Later w wx)
  case first =>
    have hO := Lib.hid (own_alloc w #[.slice p L cp] 22)
    refine wp_region_plan 11 (.one [0] 1 (.two [2, 3, 4, 6] 5 (.one [] 7 (.done [8, 9, 10])) 7 (.one [] 5 (.done [8, 9, 10])))) (by kernel_rfl) (by kernel_rfl) (fun _ _ d _ _ h => by cases d <;> exact h) ?_
    repeat' (first
      | (refine plan_done (fun K hK => ?_); (first | (simp only [pick_cons, pick_nil, toList_some_append, List.getElem?_toArray, List.getElem?_cons_zero, List.getElem?_cons_succ]; repeat (go_big_quiet_step (fail))) | simp only [pick_nil]); refine wpQuiet_nil (hK _ ?_); clear hK K)
      | (refine plan_one (by rfl) (fun K hK => ?_); (first | (simp only [pick_cons, pick_nil, toList_some_append, List.getElem?_toArray, List.getElem?_cons_zero, List.getElem?_cons_succ]; repeat (go_big_quiet_step (fail))) | simp only [pick_nil]); refine wpQuiet_nil (hK _ ?_); clear hK K)
      | (refine plan_two (by rfl) (by rfl) (fun K hK => ?_); (first | (simp only [pick_cons, pick_nil, toList_some_append, List.getElem?_toArray, List.getElem?_cons_zero, List.getElem?_cons_succ]; repeat (go_big_quiet_step (fail))) | simp only [pick_nil]); refine wpQuiet_nil (hK _ ?_); clear hK K; refine ⟨?_, ?_⟩)
      | ((with_reducible refine at_list ?_); go_wp2_with ((go_at_call 78; go_must (refine (HE.out _ (by repeat (first | with_reducible exact Later.refl _ | with_reducible assumption | with_reducible refine Later.ofdrew ?_ | with_reducible refine Later.ofdrewN ?_ | with_reducible refine Later.setCell ?_ ?_ _ | with_reducible refine Later.alloc ?_ _ | with_reducible refine Later.drewN ?_ _ | with_reducible refine Later.drew ?_ | (with_reducible refine Later.trans ?_ (by assumption)) | (simp only [World.size_setCell, World.size_alloc, World.heap_drewN]; omega) | (simp; done) | (simp; omega)))).mono ?_; rintro e w2 ⟨rfl, hb2⟩))); first | refine behind_store (t := 11) (by decide) ?_ | refine behind (by repeat (first | with_reducible exact Later.refl _ | with_reducible assumption | with_reducible refine Later.ofdrew ?_ | with_reducible refine Later.ofdrewN ?_ | with_reducible refine Later.alloc ?_ _ | with_reducible refine Later.drewN ?_ _ | with_reducible refine Later.drew ?_ | (with_reducible refine Later.trans ?_ (by assumption)))) ?_))
    all_goals
      go_wp2_with fail
      go_meet
      exact ⟨rfl, hO.out.later (by repeat (first | with_reducible exact Later.refl _ | with_reducible assumption | with_reducible refine Later.ofdrew ?_ | with_reducible refine Later.ofdrewN ?_ | with_reducible refine Later.setCell ?_ ?_ _ | with_reducible refine Later.alloc ?_ _ | with_reducible refine Later.drewN ?_ _ | with_reducible refine Later.drew ?_ | (with_reducible refine Later.trans ?_ (by assumption)) | (simp only [World.size_setCell, World.size_alloc, World.heap_drewN]; omega) | (simp; done) | (simp; omega))), by repeat (first | with_reducible exact Later.refl _ | with_reducible assumption | with_reducible refine Later.ofdrew ?_ | with_reducible refine Later.ofdrewN ?_ | with_reducible refine Later.setCell ?_ ?_ _ | with_reducible refine Later.alloc ?_ _ | with_reducible refine Later.drewN ?_ _ | with_reducible refine Later.drew ?_ | (with_reducible refine Later.trans ?_ (by assumption)) | (simp only [World.size_setCell, World.size_alloc, World.heap_drewN]; omega) | (simp; done) | (simp; omega))⟩
  case rest =>
    obtain ⟨rfl, hO, hl⟩ := hcut
    obtain ⟨z0, c0, -⟩ := own_get hO
    have g0 := c0 0
    simp only [List.getElem?_toArray, List.getElem?_cons_zero] at g0
    clear c0 hO
    go_wp2_with (go_at_call 117; go_must (refine (HC.out _ hl).mono ?_; rintro e w3 ⟨rfl, hb3⟩))
    rw [Exit.noGoto_ret]
    go_ret2
    exact ⟨rfl, hl.trans hb3⟩
end Go.Proofs.YtkjabiabeemfhaaGreatDoor
end
