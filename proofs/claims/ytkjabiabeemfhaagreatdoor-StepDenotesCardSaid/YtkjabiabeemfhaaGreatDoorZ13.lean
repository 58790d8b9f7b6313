/- the keys that a number asks for: the plain laws -/
import Derived.Test.YtkjabiabeemfhaaGreatDoorZ12
import Derived.Test.YtkjabiabeemfhaaGreatDoorZ3
set_option linter.all false
set_option linter.all false
section
namespace Go.Proofs.YtkjabiabeemfhaaGreatDoor
open Go.RowKit
set_option maxRecDepth 100000
theorem many_12 {op : Int} (h1 : 3 ≤ op) (h2 : op ≤ 8) : manyN op = 1 ∨ manyN op = 2 := by
 have hop : op = 3 ∨ op = 4 ∨ op = 5 ∨ op = 6 ∨ op = 7 ∨ op = 8 := by omega
 rcases hop with rfl | rfl | rfl | rfl | rfl | rfl
 ·exact .inl rfl
 all_goals exact .inr rfl
def knownN (get : Int → Option Q2) (l : List Tm) (i : Nat) : Bool := (l.take i).all (fun t => (valT get t).2.isSome)
def outsN (get : Int → Option Q2) (l : List Tm) (i : Nat) : List Q2 := (l.take i).map (fun t => (outN (valT get t), outD (valT get t)))
theorem knownN_succ (get : Int → Option Q2) (l : List Tm) {i : Nat} (hi : i < l.length) : knownN get l (i + 1) = (knownN get l i && (valT get l[i]).2.isSome) := by
 unfold knownN; rw [List.take_succ_eq_append_getElem hi, List.all_append]; simp
theorem outsN_succ (get : Int → Option Q2) (l : List Tm) {i : Nat} (hi : i < l.length) : outsN get l (i + 1) = outsN get l i ++ [(outN (valT get l[i]), outD (valT get l[i]))] := by
 unfold outsN; rw [List.take_succ_eq_append_getElem hi, List.map_append]; simp
theorem knownN_all (get : Int → Option Q2) (l : List Tm) : knownN get l l.length = (l.map (valT get)).all (fun r => r.2.isSome) := by
 unfold knownN; rw [List.take_length, List.all_map]; rfl
theorem outsN_all (get : Int → Option Q2) (l : List Tm) : outsN get l l.length = (l.map (valT get)).map (fun r => (outN r, outD r)) := by
 unfold outsN; rw [List.take_length, List.map_map]; rfl
theorem applyV_err {op : Int} {vs : List Q2} (h : (applyV op vs).1 ≠ 0) : (applyV op vs).2 = none := by
 match vs, h with
 | [], h => exact absurd rfl h
 | [a], h => exact absurd rfl h
 | [a, b], h =>
  unfold applyV at h ⊢
  simp only at h ⊢
  have key : ∀ N D, (fitQ N D).1 ≠ 0 → (fitQ N D).2 = none := fun N D h => by unfold fitQ at h ⊢; simp only at h ⊢; rw [if_neg h]
  split at h
  ·rename_i h4; rw [if_pos h4]; exact key _ _ h
  ·rename_i h4
   rw [if_neg h4]
   split at h
   ·rename_i h5; rw [if_pos h5]; exact key _ _ h
   ·rename_i h5
    rw [if_neg h5]
    split at h
    ·rename_i h6; rw [if_pos h6]; exact key _ _ h
    ·split at h <;> exact absurd rfl h
 | a :: b :: c :: r, h => exact absurd rfl h
theorem applyV_ok {op : Int} {vs : List Q2} (hl : vs.length = 1 ∨ vs.length = 2) (h : (applyV op vs).1 = 0) : (applyV op vs).2.isSome = true := by
 match vs, hl, h with
 | [], hl, _ => simp at hl
 | [a], _, _ => rfl
 | [a, b], _, h =>
  unfold applyV at h ⊢
  simp only at h ⊢
  have key : ∀ N D, (fitQ N D).1 = 0 → (fitQ N D).2.isSome = true := fun N D h => by unfold fitQ at h ⊢; simp only at h ⊢; rw [if_pos h]; rfl
  split at h
  ·rename_i h4; rw [if_pos h4]; exact key _ _ h
  ·rename_i h4
   rw [if_neg h4]
   split at h
   ·rename_i h5; rw [if_pos h5]; exact key _ _ h
   ·rename_i h5
    rw [if_neg h5]
    split at h
    ·rename_i h6; rw [if_pos h6]; exact key _ _ h
    ·rename_i h6
     rw [if_neg h6]
     split <;> rfl
 | a :: b :: c :: r, hl, _ => simp at hl
set_option maxHeartbeats 4000000 in
theorem at_op (ts : List Nd) (k : Nat) (x : Nd) (l : List Tm) (get : Int → Option Q2) (v : Value) (p : Nat) (day : Int) (w : World) (hlen : ts.length ≤ 100000) (hT : TmAt ts k (.node x l)) (hm : l.length = manyN x.op) (hS : Shapes w) (hN : IsNodes w v ts) (h1 : 3 ≤ x.op) (h2 : x.op ≤ 8)
  (hV : ∀ t ∈ l, ∀ u, (valT get t).2 = some u → Valid u.1 u.2)
  (ih : ∀ (i : Nat) (hi : i < l.length) W, Later w W → Calls Tryz.prog 188 #[.agg #[v, .pointer (some ⟨p, 0, none⟩), .int .i64 day], .int .i64 (placeN k l i : Int)] W (AtEnd W (placeN k l i) l[i] (valT get l[i]))) :
  Calls Tryz.prog 188 #[.agg #[v, .pointer (some ⟨p, 0, none⟩), .int .i64 day], .int .i64 k] w (AtEnd w k (.node x l) (valT get (.node x l))) := by
 have hk : k < ts.length := by have := hT.le; have := (Tm.node x l).size_pos; omega
 have hpe : placeN k l l.length = k + (Tm.node x l).size := by unfold placeN; rw [List.take_length]; unfold Tm.size; omega
 obtain ⟨b, o, cp, rfl, hb, hcap, g0, g1, g2, g3, g4⟩ := hN.full hk
 have hx0 : ts[k] = x := by have := hT.root.1; rw [List.getElem?_eq_getElem hk] at this; exact Option.some.inj this
 rw [hx0] at g0 g1 g2 g3 g4
 have hle := hT.le
 have HPL := Lib.hid (fun i (hi : i < l.length) => (show placeN k l i + (l[i]).size ≤ ts.length from (placeN_at hT hi).le))
 have HPS := Lib.hid (fun i (hi : i < l.length) => placeN_succ (k := k) hi)
 have HVN := Lib.hid (valT_node get x l)
 obtain ⟨L, hL⟩ : ∃ L, ts.length = L := ⟨_, rfl⟩
 have HKI := Lib.hid (fun W (hl : Later w W) => kids_any x.op W (hS.later hl))
 have HAP := Lib.hid (fun vs v W h => apply_any x.op vs v W h1 h2 h)
 rw [← hm] at HKI HAP
 have hm4 := many_le x.op
 have hm12 := many_12 h1 h2
 rw [← hm] at hm4 hm12
 rw [hL] at hle HPL hk ih ⊢
 have HIH := Lib.hid ih
 have hO1 : ∃ op, x.op = op := ⟨_, rfl⟩
 obtain ⟨op, hop⟩ := hO1
 rw [hop] at g0 h1 h2 HKI HAP
 have HOP := Lib.hid hop
 obtain ⟨xa, hxa⟩ : ∃ z, x.a = z := ⟨_, rfl⟩
 obtain ⟨xb, hxb⟩ : ∃ z, x.b = z := ⟨_, rfl⟩
 obtain ⟨xn, hxn⟩ : ∃ z, x.n = z := ⟨_, rfl⟩
 obtain ⟨xd, hxd⟩ : ∃ z, x.d = z := ⟨_, rfl⟩
 rw [hxa] at g1
 rw [hxb] at g2
 rw [hxn] at g3
 rw [hxd] at g4
 have HV := Lib.hid hV
 have HPE := Lib.hid hpe
 clear hN hT hx0 hS hL ih hop hxa hxb hxn hxd hV hpe hm
 have ho1 : (op == 1) = false := by simp; omega
 have ho2 : (op == 2) = false := by simp; omega
 have hO := Lib.hid (Own.three (Later.refl (((w.alloc (.cells #[.slice (some ⟨b, o, none⟩) L cp, .pointer (some ⟨p, 0, none⟩), .int .i64 day] 287)).alloc (.cells #[.bool false, .int .i64 0, .int .i64 0] 260)).alloc (.cells #[.int .i64 op, .int .i64 xa, .int .i64 xb, .int .i64 xn, .int .i64 xd] 61))))
 go_enter Tryz.func188, Tryz.ntmps188
 go_wp2
 go_step3
 go_wp2
 go_step3
 go_wp2_with (go_at_call 200; go_must (refine (HKI.out _ (by repeat (first | with_reducible (first | exact zq1 _ | assumption | refine zq2 ?_ | refine zq4 ?_ ?_ _ | refine zq5 ?_ _ | refine zq6 ?_ _ | refine zq7 ?_ | refine zq8 ?_ (by assumption)) | (simp only [zq10]; omega) | (simp; done) | (simp; omega)))).mono ?_; rintro e w1 ⟨vk, rfl, ⟨pk, ck, rfl⟩, -, hb1⟩))
 have hl1 := Lib.hid (show Later w w1 from hb1.un1.un1.un1)
 have hO1 := Lib.hid (hO.out.later hb1)
 obtain ⟨⟨zs, cs, -⟩, ⟨zr, cr, fr⟩, ⟨zn, cn, -⟩, -⟩ := hO1.out
 have s0 := cs 0
 have s1 := cs 1
 have s2 := cs 2
 have n0 := cn 0
 have r0 := cr 0
 have r1 := cr 1
 have r2 := cr 2
 have f0 := fr 0 (by simp)
 have f1 := fr 1 (by simp)
 have f2 := fr 2 (by simp)
 simp only [List.getElem?_toArray, List.getElem?_cons_zero, List.getElem?_cons_succ] at s0 s1 s2 n0 r0 r1 r2
 obtain ⟨m, hmm⟩ : ∃ m, l.length = m := ⟨_, rfl⟩
 rw [hmm] at hm4 hm12 HAP HPE ⊢
 have HM := Lib.hid hmm
 clear cs cr fr cn hO hO1 hb1 HKI hmm g0 g1 g2 g3 g4
 go_loopw [10, 11, 12, 13, 53] (fun s10 s11 s12 s13 s53 wr => ∃ i : Nat, i ≤ m ∧ s53 = .int .i64 i ∧ s11 = .int .i64 (placeN k l i : Int) ∧ s12 = .int .i64 0 ∧ s13 = .bool (knownN get l i) ∧ Hid (∀ q (hq : q < l.length), q < i → (valT get l[q]).1 = 0) ∧ Mine w1 53 2 wr s10 i ((outsN get l i).flatMap ratCs)) (fun _ _ _ _ s53 _ => m - (intOf s53).toNat)
 case atStart => exact ⟨0, Nat.zero_le _, rfl, by unfold placeN; simp [Tm.size.sizes], rfl, rfl, Lib.hid (fun _ _ h => by omega), Mine.nil (Later.refl _)⟩
 case round =>
  obtain ⟨i, hi, rfl, rfl, rfl, rfl, hz, hM⟩ := hrel
  obtain ⟨p', cp', rfl⟩ := hM.form
  have hlat := hM.lat
  have s0' := ((bcell hlat).1 _ _ zs).trans s0
  have s1' := ((bcell hlat).1 _ _ zs).trans s1
  have s2' := ((bcell hlat).1 _ _ zs).trans s2
  have n0' := ((bcell hlat).1 _ _ zn).trans n0
  have r0' := ((bcell hlat).1 _ _ zr).trans r0
  have r1' := ((bcell hlat).1 _ _ zr).trans r1
  have r2' := ((bcell hlat).1 _ _ zr).trans r2
  have f0' := ((bcell hlat).2 _ _ zr).trans f0
  have f1' := ((bcell hlat).2 _ _ zr).trans f1
  have f2' := ((bcell hlat).2 _ _ zr).trans f2
  have hzr := Later.size hlat
  have zs' := Nat.lt_of_lt_of_le zs hzr
  have zr' := Nat.lt_of_lt_of_le zr hzr
  have zn' := Nat.lt_of_lt_of_le zn hzr
  have hlw := Lib.hid (hl1.out.trans hlat)
  have HMM := Lib.hid hM
  clear hM s0 s1 s2 n0 r0 r1 r2 f0 f1 f2 hlat
  by_cases hlt : i < m
  ·have hil : i < l.length := by rw [HM.out]; exact hlt
   have HC := Lib.hid (fun W (hl : Later wr W) => HIH.out i hil W (hlw.out.trans hl))
   unfold AtEnd valR at HC
   have hks := knownN_succ get l hil
   have hos := outsN_succ get l hil
   have hps := HPS.out i hil
   have hpl := HPL.out i hil
   obtain ⟨r, hr⟩ : ∃ r, valT get l[i] = r := ⟨_, rfl⟩
   have HZ2 : r.1 = 0 → Hid (∀ q (hq : q < l.length), q < i + 1 → (valT get l[q]).1 = 0) := fun h => Lib.hid (fun q hq hlt => by
    by_cases hqi : q = i
    ·subst hqi; rw [hr]; exact h
    ·exact hz.out q hq (by omega))
   have HE2 : r.1 ≠ 0 → Hid (nodeV get x (l.map (valT get)) = (r.1, none)) := fun h => Lib.hid (by
    have hfi := find_first (rs := l.map (valT get)) (i := i) (by simpa using hil) (fun q hq hlt => by rw [List.getElem_map]; exact hz.out q (by simpa using hq) hlt) (by rw [List.getElem_map, hr]; exact h)
    rw [List.getElem_map, hr] at hfi
    exact nodeV_err (by rw [HOP.out]; omega) (by rw [HOP.out]; omega) hfi)
   rw [hr] at HC hks hos
   obtain ⟨re, rv⟩ := r
   simp only at HC HZ2 HE2 hks
   obtain ⟨kn, hkn⟩ : ∃ b, knownN get l i = b := ⟨_, rfl⟩
   rw [hkn] at hks ⊢
   have HKS := Lib.hid hks
   have HOS := Lib.hid hos
   have HPS2 := Lib.hid hps
   obtain ⟨iss, his⟩ : ∃ b, rv.isSome = b := ⟨_, rfl⟩
   obtain ⟨on, hon⟩ : ∃ b, outN (re, rv) = b := ⟨_, rfl⟩
   obtain ⟨od, hod⟩ : ∃ b, outD (re, rv) = b := ⟨_, rfl⟩
   rw [his] at HC HKS
   rw [hon, hod] at HC HOS
   obtain ⟨sz, hsz⟩ : ∃ s, (l[i]).size = s := ⟨_, rfl⟩
   rw [hsz] at HC HPS2 hpl
   obtain ⟨pl, hpl'⟩ : ∃ s, placeN k l i = s := ⟨_, rfl⟩
   rw [hpl'] at HC HPS2 hpl ⊢
   clear hks hos hps hr his hon hod hkn hsz hpl' hz
   have hOv := Lib.hid (own_alloc wr #[.bool false, .int .i64 0, .int .i64 0] 260)
   by_cases he : re = 0
   ·subst he
    have HZ3 := HZ2 rfl
    clear HZ2 HE2
    cases kn
    all_goals
     go_wp2_with (first
      | (go_at_call 188; go_must (refine (HC.out _ (by repeat (first | with_reducible (first | exact zq1 _ | assumption | refine zq2 ?_ | refine zq4 ?_ ?_ _ | refine zq5 ?_ _ | refine zq6 ?_ _ | refine zq7 ?_ | refine zq8 ?_ (by assumption)) | (simp only [zq10]; omega) | (simp; done) | (simp; omega)))).mono ?_; rintro e w3 ⟨⟨nx, rfl, hnx⟩, hb3⟩; have hnx := hnx rfl; subst hnx; obtain ⟨zv, cv, fv⟩ := own_get (hOv.out.later hb3); have v0 := cv 0; have v1 := cv 1; have v2 := cv 2; have fv0 := fv 0 (by simp); have fv1 := fv 1 (by simp); have fv2 := fv 2 (by simp); simp only [List.getElem?_toArray, List.getElem?_cons_zero, List.getElem?_cons_succ] at v0 v1 v2; have hl3 : Later wr w3 := hb3.un1; clear cv fv))
      | (at_builtin; go_must (refine wpList_pushAt sliceRat (HMM.out.later (by repeat (first | with_reducible (first | exact zq1 _ | assumption | refine zq2 ?_ | refine zq4 ?_ ?_ _ | refine zq5 ?_ _ | refine zq6 ?_ _ | refine zq7 ?_ | refine zq8 ?_ (by assumption)) | (simp only [zq10]; omega) | (simp; done) | (simp; omega)))) rfl _ _ rfl rfl 1 _ rfl (by simp) rfl (by simp [Value.oneCell']) (by omega) (by unfold maxLen; omega) ?_; intro v5 w5 hM5 hg5; obtain ⟨p5, cp5, rfl⟩ := hM5.form)))
     refine ⟨⟨i + 1, by omega, by simp, by rw [HPS2.out]; simp, rfl, by rw [HKS.out]; rfl, HZ3, ?_⟩, by simp [intOf]; omega⟩
     rw [HOS.out, List.flatMap_append]
     exact hM5
   ·have HE3 := HE2 he
    have he1 : (re != 0) = true := by simpa using he
    clear HZ2 HE2
    cases kn
    all_goals
     go_wp2_with (go_at_call 188; go_must (refine (HC.out _ (by repeat (first | with_reducible (first | exact zq1 _ | assumption | refine zq2 ?_ | refine zq4 ?_ ?_ _ | refine zq5 ?_ _ | refine zq6 ?_ _ | refine zq7 ?_ | refine zq8 ?_ (by assumption)) | (simp only [zq10]; omega) | (simp; done) | (simp; omega)))).mono ?_; rintro e w3 ⟨⟨nx, rfl, -⟩, hb3⟩; obtain ⟨zv, cv, fv⟩ := own_get (hOv.out.later hb3); have v0 := cv 0; have v1 := cv 1; have v2 := cv 2; have fv0 := fv 0 (by simp); have fv1 := fv 1 (by simp); have fv2 := fv 2 (by simp); simp only [List.getElem?_toArray, List.getElem?_cons_zero, List.getElem?_cons_succ] at v0 v1 v2; have hl3 : Later wr w3 := hb3.un1; have r0 := ((bcell hl3).1 _ _ zr').trans r0'; have r1 := ((bcell hl3).1 _ _ zr').trans r1'; have r2 := ((bcell hl3).1 _ _ zr').trans r2'; have f0 := ((bcell hl3).2 _ _ zr').trans f0'; have f1 := ((bcell hl3).2 _ _ zr').trans f1'; have f2 := ((bcell hl3).2 _ _ zr').trans f2'; have zr3 := Nat.lt_of_lt_of_le zr' (Later.size hl3); clear cv fv))
     rw [Exit.noGoto_ret]
     have hfw : Later w w3 := hlw.out.trans hl3
     exact bodyPost_ret (v := .tuple #[.agg #[.bool false, .int .i64 0, .int .i64 0], .int .i64 nx, .int .i64 re]) (by simp [results, Tryz.results188, go_sem, zr3, r0, r1, r2]) rfl ⟨⟨nx, by rw [HVN.out, HE3.out]; rfl, fun h => by rw [HVN.out, HE3.out] at h; exact absurd h he⟩, by repeat (first | with_reducible (first | exact zq1 _ | assumption | refine zq2 ?_ | refine zq4 ?_ ?_ _ | refine zq5 ?_ _ | refine zq6 ?_ _ | refine zq7 ?_ | refine zq8 ?_ (by assumption)) | (simp only [zq10]; omega) | (simp; done) | (simp; omega))⟩
  ·obtain rfl : i = m := by omega
   have HZ0 : Hid (∀ r ∈ l.map (valT get), r.1 = 0) := Lib.hid (fun r hr => by
    obtain ⟨t, ht, rfl⟩ := List.mem_map.1 hr
    obtain ⟨q, hq, rfl⟩ := List.getElem_of_mem ht
    exact hz.out q hq (by rw [HM.out] at hq; exact hq))
   have hka := knownN_all get l
   have hoa := outsN_all get l
   rw [HM.out] at hka hoa
   obtain ⟨kn, hkn⟩ : ∃ b, knownN get l i = b := ⟨_, rfl⟩
   rw [hkn] at hka ⊢
   have HX1 : x.op ≠ 1 := by rw [HOP.out]; omega
   have HX2 : x.op ≠ 2 := by rw [HOP.out]; omega
   cases kn
   ·have HV0 := Lib.hid (nodeV_none (get := get) HX1 HX2 HZ0.out hka.symm)
    have hPE := HPE.out
    obtain ⟨pe, hpe⟩ : ∃ n, placeN k l i = n := ⟨_, rfl⟩
    rw [hpe] at hPE ⊢
    have HPE2 := Lib.hid hPE
    clear hka hoa hkn HX1 HX2 hz hpe hPE
    go_wp2
    rw [Exit.noGoto_ret]
    have hfw := hlw.out
    exact bodyPost_ret (v := .tuple #[.agg #[.bool false, .int .i64 0, .int .i64 0], .int .i64 (pe : Int), .int .i64 0]) (by simp [results, Tryz.results188, go_sem, zr', r0', r1', r2']) rfl ⟨⟨_, by rw [HVN.out, HV0.out]; rfl, fun _ => by rw [HPE2.out]⟩, by repeat (first | with_reducible (first | exact zq1 _ | assumption | refine zq2 ?_ | refine zq4 ?_ ?_ _ | refine zq5 ?_ _ | refine zq6 ?_ _ | refine zq7 ?_ | refine zq8 ?_ (by assumption)) | (simp only [zq10]; omega) | (simp; done) | (simp; omega))⟩
   ·have HV0 := Lib.hid ((nodeV_some (get := get) HX1 HX2 HZ0.out hka.symm).trans (by rw [← hoa]))
    have hvl : (outsN get l i).length = i := by unfold outsN; rw [List.length_map, List.length_take, HM.out]; omega
    have HVV : ∀ q ∈ outsN get l i, Valid q.1 q.2 := fun q hq => by
     rw [hoa] at hq
     obtain ⟨r, hr, rfl⟩ := List.mem_map.1 hq
     obtain ⟨t, ht, rfl⟩ := List.mem_map.1 hr
     obtain ⟨u, hu⟩ := Option.isSome_iff_exists.1 ((List.all_eq_true.1 hka.symm) _ hr)
     rw [out_some hu]
     exact HV.out t ht u hu
    have HRW := Lib.hid (Mine.row_ ratCs ratCs_len ratCs_get (by omega) HMM.out).1
    have HAC := Lib.hid (fun W (hl : Later wr W) => HAP.out _ _ W hvl HVV (HRW.out.later hl))
    rw [HOP.out] at HV0
    have hae := applyV_err (op := op) (vs := outsN get l i)
    have hao := applyV_ok (op := op) (vs := outsN get l i) (by rw [hvl]; exact hm12)
    obtain ⟨r, hr⟩ : ∃ r, applyV op (outsN get l i) = r := ⟨_, rfl⟩
    rw [hr] at HAC HV0 hae hao
    have hPE := HPE.out
    obtain ⟨pe, hpe⟩ : ∃ n, placeN k l i = n := ⟨_, rfl⟩
    rw [hpe] at hPE ⊢
    have HPE2 := Lib.hid hPE
    obtain ⟨re, rv⟩ := r
    simp only at HAC hae hao
    obtain ⟨on, hon⟩ : ∃ b, outN (re, rv) = b := ⟨_, rfl⟩
    obtain ⟨od, hod⟩ : ∃ b, outD (re, rv) = b := ⟨_, rfl⟩
    rw [hon, hod] at HAC
    have HON := Lib.hid hon
    have HOD := Lib.hid hod
    clear hka hoa hkn HX1 HX2 hz hpe hPE hvl HVV hr hon hod
    by_cases he : re = 0
    ·subst he
     have hs := hao rfl
     obtain ⟨u, rfl⟩ := Option.isSome_iff_exists.1 hs
     clear hae hao hs
     go_wp2_with (go_at_call 201; go_must (refine (HAC.out _ (by repeat (first | with_reducible (first | exact zq1 _ | assumption | refine zq2 ?_ | refine zq4 ?_ ?_ _ | refine zq5 ?_ _ | refine zq6 ?_ _ | refine zq7 ?_ | refine zq8 ?_ (by assumption)) | (simp only [zq10]; omega) | (simp; done) | (simp; omega)))).mono ?_; rintro e w3 ⟨rfl, hl3⟩; have r0 := ((bcell hl3).1 _ _ zr').trans r0'; have r1 := ((bcell hl3).1 _ _ zr').trans r1'; have r2 := ((bcell hl3).1 _ _ zr').trans r2'; have f0 := ((bcell hl3).2 _ _ zr').trans f0'; have f1 := ((bcell hl3).2 _ _ zr').trans f1'; have f2 := ((bcell hl3).2 _ _ zr').trans f2'; have zr3 := Nat.lt_of_lt_of_le zr' (Later.size hl3)))
     rw [Exit.noGoto_ret]
     have hfw := hlw.out.trans hl3
     exact bodyPost_ret (v := .tuple #[.agg #[.bool true, .int .i64 on, .int .i64 od], .int .i64 (pe : Int), .int .i64 0]) (by simp [results, Tryz.results188, go_sem, zr3, r0, r1, r2]) rfl ⟨⟨_, by rw [HVN.out, HV0.out]; unfold valR; rw [HON.out, HOD.out]; rfl, fun _ => by rw [HPE2.out]⟩, by repeat (first | with_reducible (first | exact zq1 _ | assumption | refine zq2 ?_ | refine zq4 ?_ ?_ _ | refine zq5 ?_ _ | refine zq6 ?_ _ | refine zq7 ?_ | refine zq8 ?_ (by assumption)) | (simp only [zq10]; omega) | (simp; done) | (simp; omega))⟩
    ·have hs := hae he
     subst hs
     have he1 : (re != 0) = true := by simpa using he
     clear hae hao
     go_wp2_with (go_at_call 201; go_must (refine (HAC.out _ (by repeat (first | with_reducible (first | exact zq1 _ | assumption | refine zq2 ?_ | refine zq4 ?_ ?_ _ | refine zq5 ?_ _ | refine zq6 ?_ _ | refine zq7 ?_ | refine zq8 ?_ (by assumption)) | (simp only [zq10]; omega) | (simp; done) | (simp; omega)))).mono ?_; rintro e w3 ⟨rfl, hl3⟩; have r0 := ((bcell hl3).1 _ _ zr').trans r0'; have r1 := ((bcell hl3).1 _ _ zr').trans r1'; have r2 := ((bcell hl3).1 _ _ zr').trans r2'; have f0 := ((bcell hl3).2 _ _ zr').trans f0'; have f1 := ((bcell hl3).2 _ _ zr').trans f1'; have f2 := ((bcell hl3).2 _ _ zr').trans f2'; have zr3 := Nat.lt_of_lt_of_le zr' (Later.size hl3)))
     rw [Exit.noGoto_ret]
     have hfw := hlw.out.trans hl3
     exact bodyPost_ret (v := .tuple #[.agg #[.bool false, .int .i64 0, .int .i64 0], .int .i64 (pe : Int), .int .i64 re]) (by simp [results, Tryz.results188, go_sem, zr3, r0, r1, r2]) rfl ⟨⟨_, by rw [HVN.out, HV0.out]; rfl, fun _ => by rw [HPE2.out]⟩, by repeat (first | with_reducible (first | exact zq1 _ | assumption | refine zq2 ?_ | refine zq4 ?_ ?_ _ | refine zq5 ?_ _ | refine zq6 ?_ _ | refine zq7 ?_ | refine zq8 ?_ (by assumption)) | (simp only [zq10]; omega) | (simp; done) | (simp; omega))⟩
theorem seen_any (ts : List Nd) (fx : FxL) (ch : ChL) (p m1 m2 : Nat) (day : Int) (hlen : ts.length ≤ 100000) (hd : I64 day) (hg : GetOk (getF fx day)) : ∀ (T : Tm) (k : Nat) (v : Value) (w : World), TmAt ts k T → NumT T → Shapes w → IsNodes w v ts → FactsAt w p m1 m2 fx ch →
  Calls Tryz.prog 188 #[.agg #[v, .pointer (some ⟨p, 0, none⟩), .int .i64 day], .int .i64 k] w (AtEnd w k T (valT (getF fx day) T)) := by
 intro T
 induction T using Tm.ind with
 | h x l ih =>
  intro k v w hT hNT hS hN hF
  obtain ⟨o1, o2, hl, hf, hx, hk⟩ := hNT
  by_cases h1 : x.op = 1
  ·exact at_number ts k x l _ v p day w hlen hT hl hN h1
  by_cases h2 : x.op = 2
  ·exact at_fixing ts k x l fx ch v p m1 m2 day w hlen hT hl hN hF hx hd h2
  ·refine at_op ts k x l _ v p day w hlen hT hl hS hN (by omega) o2 (fun t ht u hu => valT_valid hg ((NumTs_iff l).1 hk t ht) u hu) (fun i hi W hW => ?_)
   exact ih l[i] (List.getElem_mem _) (placeN k l i) v W (placeN_at hT hi) ((NumTs_iff l).1 hk _ (List.getElem_mem _)) (hS.later hW) (hN.later hW) (hF.later hW)
open Classical in
noncomputable def subAt (ts : List Nd) (k : Nat) : Option Tm := if h : ∃ s : Tm, TmAt ts k s then some h.choose else none
theorem subAt_eq {ts : List Nd} {k : Nat} {s : Tm} (h : TmAt ts k s) : subAt ts k = some s := by
 unfold subAt
 have hh : ∃ s : Tm, TmAt ts k s := ⟨s, h⟩
 rw [dif_pos hh]
 exact congrArg some (TmAt.unique hh.choose_spec h)
noncomputable def atV (ts : List Nd) (fx : FxL) (k day : Int) : Int × Option Q2 :=
 if wrongV ts k ≠ 0 then (wrongV ts k, none) else if day < 0 ∨ 73048 < day then (18, none) else
  match subAt ts k.toNat with
  | none => (0, none)
  | some s => valT (getF fx day) s
set_option maxHeartbeats 1600000 in
theorem vat_any (ts : List Nd) (fx : FxL) (ch : ChL) (p m1 m2 : Nat) (k day : Int) (v : Value) (w : World) (hlen : ts.length ≤ 100000) (hok : ∀ x ∈ ts, x.ok) (hd : I64 day) (hg : GetOk (getF fx day)) (hS : Shapes w) (hN : IsNodes w v ts) (hF : FactsAt w p m1 m2 fx ch) :
  Calls Tryz.prog 169 #[v, .int .i64 k, .int .i64 day, .pointer (some ⟨p, 0, none⟩)] w fun e w' => e = .returned (.tuple #[valR (atV ts fx k day), .int .i64 (atV ts fx k day).1]) ∧ Later w w' := by
 have HR := Lib.hid (fun W (hl : Later w W) => right_any ts hlen hok v k W (hS.later hl) (hN.later hl))
 by_cases h0 : wrongV ts k = 0
 ·obtain ⟨T, j, s, rfl, hT, hj, hs, hm, hso⟩ := wrongV_zero h0
  rw [h0] at HR
  by_cases hday : day < 0 ∨ 73048 < day
  ·have hA : atV ts fx j day = (18, none) := by unfold atV; rw [if_neg (by rw [h0]; simp), if_pos hday]
   rw [hA]
   obtain ⟨pp, cp, rfl⟩ := hN.form
   have hO := Lib.hid (own_alloc w #[.bool false, .int .i64 0, .int .i64 0] 260)
   generalize ts.length = L at *
   clear hS hN hF hT hs hA hg
   by_cases h3 : day < 0
   ·clear hday
    go_enter Tryz.func169, Tryz.ntmps169
    go_wp2_with (go_at_call 187; go_must (refine (HR.out _ (by repeat (first | with_reducible (first | exact zq1 _ | assumption | refine zq2 ?_ | refine zq4 ?_ ?_ _ | refine zq5 ?_ _ | refine zq6 ?_ _ | refine zq7 ?_ | refine zq8 ?_ (by assumption)) | (simp only [zq10]; omega) | (simp; done) | (simp; omega)))).mono ?_; rintro e w1 ⟨rfl, hb1⟩; obtain ⟨zv, cv, fv⟩ := own_get (hO.out.later hb1); have v0 := cv 0; have v1 := cv 1; have v2 := cv 2; have fv0 := fv 0 (by simp); have fv1 := fv 1 (by simp); have fv2 := fv 2 (by simp); simp only [List.getElem?_toArray, List.getElem?_cons_zero, List.getElem?_cons_succ] at v0 v1 v2; have hl3 : Later w w1 := hb1.un1; clear cv fv))
    exact bodyPost_ret (v := .tuple #[.agg #[.bool false, .int .i64 0, .int .i64 0], .int .i64 18]) (by simp [results, Tryz.results169, go_sem, zv, v0, v1, v2]) rfl ⟨rfl, by repeat (first | with_reducible (first | exact zq1 _ | assumption | refine zq2 ?_ | refine zq4 ?_ ?_ _ | refine zq5 ?_ _ | refine zq6 ?_ _ | refine zq7 ?_ | refine zq8 ?_ (by assumption)) | (simp only [zq10]; omega) | (simp; done) | (simp; omega))⟩
   ·have h4 : 73048 < day := by omega
    clear hday
    go_enter Tryz.func169, Tryz.ntmps169
    go_wp2_with (go_at_call 187; go_must (refine (HR.out _ (by repeat (first | with_reducible (first | exact zq1 _ | assumption | refine zq2 ?_ | refine zq4 ?_ ?_ _ | refine zq5 ?_ _ | refine zq6 ?_ _ | refine zq7 ?_ | refine zq8 ?_ (by assumption)) | (simp only [zq10]; omega) | (simp; done) | (simp; omega)))).mono ?_; rintro e w1 ⟨rfl, hb1⟩; obtain ⟨zv, cv, fv⟩ := own_get (hO.out.later hb1); have v0 := cv 0; have v1 := cv 1; have v2 := cv 2; have fv0 := fv 0 (by simp); have fv1 := fv 1 (by simp); have fv2 := fv 2 (by simp); simp only [List.getElem?_toArray, List.getElem?_cons_zero, List.getElem?_cons_succ] at v0 v1 v2; have hl3 : Later w w1 := hb1.un1; clear cv fv))
    exact bodyPost_ret (v := .tuple #[.agg #[.bool false, .int .i64 0, .int .i64 0], .int .i64 18]) (by simp [results, Tryz.results169, go_sem, zv, v0, v1, v2]) rfl ⟨rfl, by repeat (first | with_reducible (first | exact zq1 _ | assumption | refine zq2 ?_ | refine zq4 ?_ ?_ _ | refine zq5 ?_ _ | refine zq6 ?_ _ | refine zq7 ?_ | refine zq8 ?_ (by assumption)) | (simp only [zq10]; omega) | (simp; done) | (simp; omega))⟩
  ·have hA : atV ts fx j day = valT (getF fx day) s := by
    unfold atV; rw [if_neg (by rw [h0]; simp), if_neg hday, Int.toNat_natCast, subAt_eq hs]
   rw [hA]
   have HC := Lib.hid (fun W (hl : Later w W) => seen_any ts fx ch p m1 m2 day hlen hd hg s j v W hs (numT_of hT.fields hok hs hso hm) (hS.later hl) (hN.later hl) (hF.later hl))
   unfold AtEnd at HC
   obtain ⟨r, hr⟩ : ∃ r, valT (getF fx day) s = r := ⟨_, rfl⟩
   rw [hr] at HC ⊢
   obtain ⟨re, rv⟩ := r
   have hvr : valR (re, rv) = .agg #[.bool rv.isSome, .int .i64 (outN (re, rv)), .int .i64 (outD (re, rv))] := rfl
   rw [hvr] at HC ⊢
   generalize outN (re, rv) = on at *
   generalize outD (re, rv) = od at *
   generalize rv.isSome = ri at *
   obtain ⟨pp, cp, rfl⟩ := hN.form
   have hO := Lib.hid (own_alloc w #[.bool false, .int .i64 0, .int .i64 0] 260)
   generalize ts.length = L at *
   have h3 : ¬ day < 0 := by omega
   have h4 : ¬ 73048 < day := by omega
   simp only at HC ⊢
   clear hS hN hF hT hs hA hg hday hr hvr
   go_enter Tryz.func169, Tryz.ntmps169
   go_wp2_with (first
    | (go_at_call 187; go_must (refine (HR.out _ (by repeat (first | with_reducible (first | exact zq1 _ | assumption | refine zq2 ?_ | refine zq4 ?_ ?_ _ | refine zq5 ?_ _ | refine zq6 ?_ _ | refine zq7 ?_ | refine zq8 ?_ (by assumption)) | (simp only [zq10]; omega) | (simp; done) | (simp; omega)))).mono ?_; rintro e w1 ⟨rfl, hb1⟩; have hl1 : Later w w1 := hb1.un1))
    | (go_at_call 188; go_must (refine (HC.out _ (by repeat (first | with_reducible (first | exact zq1 _ | assumption | refine zq2 ?_ | refine zq4 ?_ ?_ _ | refine zq5 ?_ _ | refine zq6 ?_ _ | refine zq7 ?_ | refine zq8 ?_ (by assumption)) | (simp only [zq10]; omega) | (simp; done) | (simp; omega)))).mono ?_; rintro e w2 ⟨⟨nx, rfl, -⟩, hb2⟩; have hl2 : Later w w2 := hl1.trans hb2; obtain ⟨zv, cv, fv⟩ := own_get (hO.out.later (hb1.trans hb2)); have v0 := cv 0; have v1 := cv 1; have v2 := cv 2; have fv0 := fv 0 (by simp); have fv1 := fv 1 (by simp); have fv2 := fv 2 (by simp); simp only [List.getElem?_toArray, List.getElem?_cons_zero, List.getElem?_cons_succ] at v0 v1 v2; clear cv fv)))
   exact bodyPost_ret (v := .tuple #[.agg #[.bool ri, .int .i64 on, .int .i64 od], .int .i64 re]) (by simp [results, Tryz.results169, go_sem, zv, v0, v1, v2]) rfl ⟨rfl, by repeat (first | with_reducible (first | exact zq1 _ | assumption | refine zq2 ?_ | refine zq4 ?_ ?_ _ | refine zq5 ?_ _ | refine zq6 ?_ _ | refine zq7 ?_ | refine zq8 ?_ (by assumption)) | (simp only [zq10]; omega) | (simp; done) | (simp; omega))⟩
 ·have hA : atV ts fx k day = (wrongV ts k, none) := by unfold atV; rw [if_pos h0]
  rw [hA]
  obtain ⟨E, hE⟩ : ∃ E, wrongV ts k = E := ⟨_, rfl⟩
  rw [hE] at HR h0 ⊢
  have h1 : (E != 0) = true := by simpa using h0
  obtain ⟨pp, cp, rfl⟩ := hN.form
  have hO := Lib.hid (own_alloc w #[.bool false, .int .i64 0, .int .i64 0] 260)
  generalize ts.length = L at *
  clear hS hN hF hA hg hE h0
  go_enter Tryz.func169, Tryz.ntmps169
  go_wp2_with (go_at_call 187; go_must (refine (HR.out _ (by repeat (first | with_reducible (first | exact zq1 _ | assumption | refine zq2 ?_ | refine zq4 ?_ ?_ _ | refine zq5 ?_ _ | refine zq6 ?_ _ | refine zq7 ?_ | refine zq8 ?_ (by assumption)) | (simp only [zq10]; omega) | (simp; done) | (simp; omega)))).mono ?_; rintro e w1 ⟨rfl, hb1⟩; obtain ⟨zv, cv, fv⟩ := own_get (hO.out.later hb1); have v0 := cv 0; have v1 := cv 1; have v2 := cv 2; have fv0 := fv 0 (by simp); have fv1 := fv 1 (by simp); have fv2 := fv 2 (by simp); simp only [List.getElem?_toArray, List.getElem?_cons_zero, List.getElem?_cons_succ] at v0 v1 v2; have hl3 : Later w w1 := hb1.un1; clear cv fv))
  exact bodyPost_ret (v := .tuple #[.agg #[.bool false, .int .i64 0, .int .i64 0], .int .i64 E]) (by simp [results, Tryz.results169, go_sem, zv, v0, v1, v2]) rfl ⟨rfl, by repeat (first | with_reducible (first | exact zq1 _ | assumption | refine zq2 ?_ | refine zq4 ?_ ?_ _ | refine zq5 ?_ _ | refine zq6 ?_ _ | refine zq7 ?_ | refine zq8 ?_ (by assumption)) | (simp only [zq10]; omega) | (simp; done) | (simp; omega))⟩
end Go.Proofs.YtkjabiabeemfhaaGreatDoor
end
section
namespace Go.Proofs.YtkjabiabeemfhaaGreatDoor
open Go.RowKit
set_option maxRecDepth 100000
def FxOk (fx : FxL) : Prop := ∀ p v, getA fx p = some v → Valid v.1 v.2
theorem fxOk_step {fx : FxL} {x : Td} (hn : (fx.map (·.1)).Nodup) (hx : x.ok) (h : FxOk fx) : FxOk (tellFx fx x) := by
 intro p v hv
 unfold tellFx at hv
 split at hv
 ·exact h p v hv
 ·unfold fixL at hv
  split at hv
  ·rename_i h0
   rw [putA_get _ _ _ _ hn] at hv
   split at hv
   ·cases hv
    unfold fixE at h0
    split at h0
    ·exact (chk_valid hx.2.2.1.1 hx.2.2.1.2 hx.2.2.2.1.2).1 h0
    ·rename_i h1; exact absurd h0 h1
   ·exact h p v hv
  ·exact h p v hv
theorem getOk_of {fx : FxL} (h : FxOk fx) (day : Int) : GetOk (getF fx day) := fun _ _ hv => h _ _ hv
def ndCs (x : Nd) : List Value := [.int .i64 (x.cell 0), .int .i64 (x.cell 1), .int .i64 (x.cell 2), .int .i64 (x.cell 3), .int .i64 (x.cell 4)]
theorem ndCs_cell (x : Nd) (j : Nat) (h : j < 5) : (ndCs x)[j]? = some (.int .i64 (x.cell j)) := by
 rcases j with _ | _ | _ | _ | _ | j
 all_goals first | rfl | omega
theorem nodes_of_own {w : World} {b : Nat} {A : Array Value} (h : Own w [(b, A)]) (ts : List Nd) (hA : A = (ts.flatMap ndCs).toArray) (hl : ts.length ≤ maxLen) : IsNodes w (.slice (some ⟨b, 0, none⟩) ts.length ts.length) ts := by
 obtain ⟨z, c, -⟩ := own_get h
 refine .inr ⟨b, 0, ts.length, rfl, z, Nat.le_refl _, hl, fun i hi j hj => ?_⟩
 rw [Nat.zero_add, c, hA, List.getElem?_toArray, flat_get ndCs (fun _ => rfl) ts i hi j hj]
 exact ndCs_cell _ _ hj
theorem valT_err {get : Int → Option Q2} (T : Tm) (h : (valT get T).1 ≠ 0) : (valT get T).2 = none := by
 obtain ⟨x, l⟩ := T
 rw [valT_node] at h ⊢
 unfold nodeV at h ⊢
 by_cases h1 : x.op = 1
 ·rw [if_pos h1] at h; simp at h
 rw [if_neg h1] at h ⊢
 by_cases h2 : x.op = 2
 ·rw [if_pos h2] at h; simp at h
 rw [if_neg h2] at h ⊢
 split at h
 ·rfl
 ·split at h
  ·rename_i h3; rw [if_pos h3]; exact applyV_err h
  ·simp at h
theorem fitQ_code {N D : Int} (h : 0 < D) : (fitQ N D).1 = 0 ∨ (fitQ N D).1 = 11 := by
 unfold fitQ rE
 simp only
 rw [if_neg (by omega)]
 split
 ·exact .inl rfl
 ·exact .inr rfl
theorem applyV_code {op : Int} {l : List Q2} (hl : ∀ x ∈ l, 0 < x.2) : (applyV op l).1 = 0 ∨ (applyV op l).1 = 11 := by
 match l, hl with
 | [], _ => exact .inl rfl
 | [a], _ => exact .inl rfl
 | [a, b], hl =>
  have hd : 0 < a.2 * b.2 := Int.mul_pos (hl a (by simp)) (hl b (by simp))
  unfold applyV
  simp only
  split
  ·exact fitQ_code hd
  split
  ·exact fitQ_code hd
  split
  ·exact fitQ_code hd
  split
  ·exact .inl rfl
  ·exact .inl rfl
 | _ :: _ :: _ :: _, _ => exact .inl rfl
theorem valT_code {get : Int → Option Q2} (hg : GetOk get) : ∀ {T : Tm}, NumT T → (valT get T).1 = 0 ∨ (valT get T).1 = 11 := by
 intro T
 induction T using Tm.ind with
 | h x l ih =>
  intro hT
  obtain ⟨o1, o2, hl, hf, hx, hk⟩ := hT
  rw [valT_node]
  unfold nodeV
  by_cases h1 : x.op = 1
  ·rw [if_pos h1]; exact .inl rfl
  rw [if_neg h1]
  by_cases h2 : x.op = 2
  ·rw [if_pos h2]; exact .inl rfl
  rw [if_neg h2]
  split
  ·rename_i r hr
   have hm := List.mem_of_find?_eq_some hr
   obtain ⟨t, ht, rfl⟩ := List.mem_map.1 hm
   exact ih t ht ((NumTs_iff l).1 hk t ht)
  ·split
   ·refine applyV_code (fun y hy => ?_)
    rename_i hall
    obtain ⟨r, hr, rfl⟩ := List.mem_map.1 hy
    obtain ⟨t, ht, rfl⟩ := List.mem_map.1 hr
    have h3 := List.all_eq_true.1 hall _ hr
    obtain ⟨q, hq⟩ := Option.isSome_iff_exists.1 h3
    have h4 := valT_valid hg ((NumTs_iff l).1 hk t ht) q hq
    simp only [outD, hq]
    exact h4.d0
   ·exact .inl rfl
theorem valT_mono {get get' : Int → Option Q2} (hm : ∀ k v, get k = some v → get' k = some v) : ∀ (T : Tm), ((valT get T).1 ≠ 0 → (valT get' T).1 ≠ 0) ∧ ((valT get T).1 = 0 → ∀ q, (valT get T).2 = some q → valT get' T = (0, some q)) := by
 intro T
 induction T using Tm.ind with
 | h x l ih =>
  rw [valT_node, valT_node]
  unfold nodeV
  by_cases h1 : x.op = 1
  ·rw [if_pos h1, if_pos h1]; exact ⟨fun h => absurd rfl h, fun _ q hq => by cases hq; rfl⟩
  rw [if_neg h1, if_neg h1]
  by_cases h2 : x.op = 2
  ·rw [if_pos h2, if_pos h2]; exact ⟨fun h => absurd rfl h, fun _ q hq => by rw [hm _ _ hq]⟩
  rw [if_neg h2, if_neg h2]
  cases hr : (l.map (valT get)).find? (fun r => decide (r.1 ≠ 0)) with
  | some r =>
   have h3 : r.1 ≠ 0 := by have := List.find?_some hr; simpa using this
   have hmem := List.mem_of_find?_eq_some hr
   obtain ⟨t, ht, rfl⟩ := List.mem_map.1 hmem
   have h4 := (ih t ht).1 h3
   cases hr' : (l.map (valT get')).find? (fun r => decide (r.1 ≠ 0)) with
   | some r' => 
    have h5 : r'.1 ≠ 0 := by have := List.find?_some hr'; simpa using this
    exact ⟨fun _ => h5, fun h => absurd h h3⟩
   | none =>
    have h5 := List.find?_eq_none.1 hr' _ (List.mem_map.2 ⟨t, ht, rfl⟩)
    exact absurd h4 (by simpa using h5)
  | none =>
   have h3 : ∀ t ∈ l, (valT get t).1 = 0 := fun t ht => by have := List.find?_eq_none.1 hr _ (List.mem_map.2 ⟨t, ht, rfl⟩); simpa using this
   simp only
   by_cases hall : ((l.map (valT get)).all fun r => r.2.isSome) = true
   ·have hsame : l.map (valT get') = l.map (valT get) := by
     refine List.map_congr_left (fun t ht => ?_)
     have h4 := List.all_eq_true.1 hall _ (List.mem_map.2 ⟨t, ht, rfl⟩)
     obtain ⟨q, hq⟩ := Option.isSome_iff_exists.1 h4
     rw [(ih t ht).2 (h3 t ht) q hq]
     exact Prod.ext (h3 t ht).symm hq.symm
    rw [hsame, hr]
    simp only
    rw [if_pos hall]
    exact ⟨fun h => h, fun h q hq => Prod.ext h hq⟩
   ·rw [if_neg hall]
    exact ⟨fun h => absurd rfl h, fun _ q hq => by cases hq⟩
structure ResOk (r : Int × Option Q2) : Prop where
 code : r.1 = 0 ∨ r.1 = 11
 err : r.1 ≠ 0 → r.2 = none
 val : ∀ q, r.2 = some q → Valid q.1 q.2
theorem valT_res {get : Int → Option Q2} (hg : GetOk get) {T : Tm} (h : NumT T) : ResOk (valT get T) := ⟨valT_code hg h, fun e => valT_err T e, fun q hq => valT_valid hg h q hq⟩
theorem ResOk.cases {r : Int × Option Q2} (h : ResOk r) : r = (11, none) ∨ r = (0, none) ∨ ∃ n d, r = (0, some (n, d)) ∧ Valid n d := by
 obtain ⟨e, v⟩ := r
 rcases h.code with h1 | h1
 ·simp only at h1
  subst h1
  cases v with
  | none => exact .inr (.inl rfl)
  | some q => exact .inr (.inr ⟨q.1, q.2, rfl, h.val q rfl⟩)
 ·simp only at h1
  subst h1
  have := h.err (by simp)
  simp only at this
  subst this
  exact .inl rfl
def keyB (op op' : Int) (l : List Nd) (k : Nat) : Bool := l.any (fun x => decide ((x.op = op ∨ x.op = op') ∧ x.a = (k : Int)))
def keysU (op op' : Int) (l : List Nd) (n : Nat) : List Int := ((List.range n).filter (keyB op op' l)).map (fun k : Nat => (k : Int))
def keysI (op op' : Int) (l : List Nd) : List Int := keysU op op' l 64
theorem keysU_succ (op op' : Int) (l : List Nd) (n : Nat) : keysU op op' l (n + 1) = keysU op op' l n ++ if keyB op op' l n then [(n : Int)] else [] := by
 unfold keysU
 rw [List.range_succ, List.filter_append, List.map_append]
 congr 1
 cases h : keyB op op' l n <;> simp [h]
theorem keysU_len (op op' : Int) (l : List Nd) (n : Nat) : (keysU op op' l n).length ≤ n := by
 unfold keysU
 rw [List.length_map]
 have := List.length_filter_le (keyB op op' l) (List.range n)
 simpa using this
theorem keys_mem {op op' : Int} {l : List Nd} {k : Int} : k ∈ keysI op op' l ↔ 0 ≤ k ∧ k < 64 ∧ keyB op op' l k.toNat = true := by
 unfold keysI keysU
 rw [List.mem_map]
 constructor
 ·rintro ⟨n, hn, rfl⟩
  rw [List.mem_filter, List.mem_range] at hn
  exact ⟨by omega, by omega, by simpa using hn.2⟩
 ·rintro ⟨h1, h2, h3⟩
  refine ⟨k.toNat, ?_, by omega⟩
  rw [List.mem_filter, List.mem_range]
  exact ⟨by omega, h3⟩
theorem key_range {x : Nd} (h : fieldsB x = true) (h2 : x.op = 2) : 0 ≤ x.a ∧ x.a < 64 := by
 unfold fieldsB at h
 rw [if_neg (by omega), if_pos (.inl h2)] at h
 unfold limB withinB at h
 simp at h
 omega
end Go.Proofs.YtkjabiabeemfhaaGreatDoor
end
