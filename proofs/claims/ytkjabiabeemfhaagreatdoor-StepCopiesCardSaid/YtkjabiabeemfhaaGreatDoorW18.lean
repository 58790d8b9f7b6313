/- step: the loop of a go (plain) -/
import Derived.Test.YtkjabiabeemfhaaGreatDoorW17
import Derived.Test.YtkjabiabeemfhaaGreatDoorW16
import Derived.Test.YtkjabiabeemfhaaGreatDoorW15
import Derived.Test.YtkjabiabeemfhaaGreatDoorW10
import Derived.Lib.Strings
set_option linter.all false
set_option linter.all false
section
namespace Go.Proofs.YtkjabiabeemfhaaGreatDoor
open Go.RowKit
set_option maxRecDepth 100000
set_option maxHeartbeats 4000000 in
theorem tasks_any {w0 : World} {ts : List Nd} {T : Tm} {tv : Value} {fx : FxL} {ch : ChL} {p m1 m2 : Nat} (hJ : JobAt w0 ts T tv fx ch p m1 m2) (w : World) (hw0 : Later w0 w) (b : Nat) (tod : Int) (nv kv fv wv : Value) (H K : List Hd) (F : List Fl) (W : List Wt)
    (hst : TurnAt w0.heap.size w b tv tod (.pointer (some ⟨p, 0, none⟩)) nv kv fv wv H K F W) (day : Int) (hd0 : 0 ≤ day) (hd1 : day ≤ 73048) (l : List (Nat × Tm)) (hl4 : l.length ≤ 4) (hnum : NumsAt ts l) (pv : Value) (hp : IsInts w pv (l.map (fun x => (x.1 : Int)))) :
    Calls Tryz.prog 170 #[.pointer (some ⟨b, 0, none⟩), .int .i64 day, pv] w fun e w' =>
      ∃ v', e = .returned v' ∧ IsWaits w' v' (l.flatMap (fun x => asksT (envT fx ch) day x.2)) ∧ Later w w' ∧ ∀ k, v'.ownBlock = some k → w.heap.size ≤ k := by
  obtain ⟨L, hL⟩ : ∃ L, l.length = L := ⟨_, rfl⟩
  obtain ⟨pp, cp, rfl⟩ := hp.form
  rw [List.length_map, hL] at hp ⊢
  rw [hL] at hl4
  have HP := Lib.hid hp
  have HST := Lib.hid hst
  have HW0 := Lib.hid hw0
  have HJ := Lib.hid hJ
  have HLL := Lib.hid hL
  have HNE := Lib.hid (fun (i : Nat) (hi : i < l.length) (W : World) (hW : Later w0 W) => by
    obtain ⟨n1, n2, n3⟩ := hnum _ (List.getElem_mem hi)
    exact vneeds_own ts hJ.len hJ.ok (l[i]).1 (l[i]).2 tv W n3 n1 (flat_keys hJ.good n1) (hJ.sh.later hW) (hJ.nodes.later hW))
  have hb := hst.own.1.1
  clear hst hp hnum hJ hw0 hL
  go_enter Tryz.func170, Tryz.ntmps170
  go_upto_region 3 with (fail)
  go_loopw [7, 18] (fun s7 s18 wr => ∃ (q : Nat) (V : Value), V = s7 ∧ q ≤ L ∧ s18 = .int .i64 q ∧ Later w wr ∧ Hid (wr.ownsRow w.heap.size 46 3 V ((l.take q).flatMap (fun x => asksT (envT fx ch) day x.2)).length (((l.take q).flatMap (fun x => asksT (envT fx ch) day x.2)).flatMap wtCs))) (fun _ s18 _ => L - (intOf s18).toNat)
  case atStart => exact ⟨0, _, rfl, Nat.zero_le _, rfl, Later.refl _, Lib.hid (World.ownsRow_nil _ _ _ _)⟩
  case round =>
    obtain ⟨q, V, rfl, hq, rfl, hlr, HO⟩ := hrel
    obtain ⟨wq, hwq⟩ : ∃ x : World, x = wr := ⟨_, rfl⟩
    subst hwq
    by_cases hqL : q < L
    · have hqI : (q : Int) < L := by omega
      have hql : q < l.length := by rw [HLL.out]; exact hqL
      obtain ⟨pb, po, cp', hv, hpb, g⟩ := (HP.out.later hlr).full (j := q) (by rw [List.length_map]; exact hql)
      rw [List.length_map, HLL.out] at hv
      rw [List.getElem_map] at g
      cases hv
      have hlq : Later w0 wq := HW0.out.trans hlr
      obtain ⟨⟨zb, cb, fb⟩, -⟩ := (HST.out.later hlr).own
      have c0 : wq.cell? ⟨b, 4, none⟩ = some tv := cb 4
      have HNQ := Lib.hid (fun W hW => HNE.out q hql W hW)
      have HTK : Hid ((l.take (q + 1)).flatMap (fun x => asksT (envT fx ch) day x.2) = (l.take q).flatMap (fun x => asksT (envT fx ch) day x.2) ++ askK (envT fx ch) day (keysI 2 2 (l[q]).2.flat)) := Lib.hid (by
        rw [List.take_succ_eq_append_getElem hql, List.flatMap_append]
        simp [asksT, askK])
      have HQ2 : Hid (((l.take q).flatMap (fun x => asksT (envT fx ch) day x.2)).length ≤ 256) := Lib.hid (by
        have := flat_le (envT fx ch) day (l.take q)
        have := HLL.out
        rw [List.length_take] at *
        omega)
      have HKR : Hid (∀ k ∈ keysI 2 2 (l[q]).2.flat, 0 ≤ k ∧ k < 64) := Lib.hid (fun k hk => by have := keys_mem.1 hk; exact ⟨this.1, this.2.1⟩)
      have HKL : Hid ((keysI 2 2 (l[q]).2.flat).length ≤ 64) := Lib.hid (keysI_le 2 2 _)
      clear cb fb
      obtain ⟨KS, hKS⟩ : ∃ K, keysI 2 2 (l[q]).2.flat = K := ⟨_, rfl⟩
      obtain ⟨at', hat⟩ : ∃ a : Nat, (l[q]).1 = a := ⟨_, rfl⟩
      obtain ⟨AS, hAS⟩ : ∃ A, (l.take q).flatMap (fun x => asksT (envT fx ch) day x.2) = A := ⟨_, rfl⟩
      rw [hKS] at HNQ HTK HKR HKL
      rw [hat] at HNQ g
      rw [hAS] at HTK HO HQ2
      clear hKS hat hAS hql
      go_upto_region 6 with (go_at_call 172; go_must (refine (HNQ.out _ (hlq.trans (by repeat (first | with_reducible exact Later.refl _ | with_reducible assumption | with_reducible refine Later.ofdrew ?_ | with_reducible refine Later.ofdrewN ?_ | with_reducible refine Later.setCell ?_ ?_ _ | with_reducible refine Later.alloc ?_ _ | with_reducible refine Later.drewN ?_ _ | with_reducible refine Later.drew ?_ | (with_reducible refine Later.trans ?_ (by assumption)) | (simp only [World.size_setCell, World.size_alloc, World.heap_drewN]; omega) | (simp; done) | (simp; omega))))).mono ?_; rintro e w3 ⟨v3, rfl, hi3, hb3, hf3⟩))
      obtain ⟨p3, c3, rfl⟩ := hi3.form
      obtain ⟨K, hK⟩ : ∃ K, KS.length = K := ⟨_, rfl⟩
      rw [hK] at hi3 HKL hf3 ⊢
      have HI3 := Lib.hid hi3
      have HF3 := Lib.hid hf3
      have HK := Lib.hid hK
      have hK64 : K ≤ 64 := HKL.out
      have hl3 := hlq.trans hb3
      have hlw3 := hlr.trans hb3
      have HO3 := Lib.hid (B.owns_later HO.out hb3)
      clear hi3 hf3 hK g c0 HNQ
      go_upto_region 7 with (fail)
      go_loopw [7, 33] (fun s7 s33 wr => ∃ (k : Nat) (Vk : Value), Vk = s7 ∧ k ≤ K ∧ s33 = .int .i64 k ∧ Later w wr ∧ Hid (S.LatB (fun k => V.ownBlock = some k) w3 wr) ∧ Hid (wr.ownsRow w.heap.size 46 3 Vk (AS ++ askK (envT fx ch) day (KS.take k)).length ((AS ++ askK (envT fx ch) day (KS.take k)).flatMap wtCs)) ∧ Hid (Vk.ownBlock = V.ownBlock ∨ ∀ k, Vk.ownBlock = some k → w3.heap.size ≤ k)) (fun _ s33 _ => K - (intOf s33).toNat)
      case atStart => exact ⟨0, _, rfl, Nat.zero_le _, rfl, hlw3, Lib.hid (S.LatB.refl _), Lib.hid (by simpa [askK] using HO3.out), Lib.hid (.inl rfl)⟩
      case round =>
        obtain ⟨k, Vk, rfl, hk, rfl, hlk, HLK, HOX, HFX⟩ := hrel
        obtain ⟨wk, hwk⟩ : ∃ x : World, x = wr := ⟨_, rfl⟩
        subst hwk
        have hl0k : Later w0 wk := HW0.out.trans hlk
        by_cases hkK : k < K
        · have hkI : (k : Int) < K := by omega
          have hkl : k < KS.length := by rw [HK.out]; exact hkK
          obtain ⟨qb, qo, cq, hv, hqb, g⟩ := (ints_lat HI3.out HLK.out (fun i hi hz => by
            have h1 := HF3.out i hi
            have := (HO.out.lt i hz).2
            omega)).full (j := k) hkl
          rw [HK.out] at hv
          cases hv
          have hkr := HKR.out _ (List.getElem_mem hkl)
          have HKT := Lib.hid (askK_take (env := envT fx ch) (day := day) hkl)
          obtain ⟨key, hkey⟩ : ∃ x, KS[k] = x := ⟨_, rfl⟩
          rw [hkey] at g hkr HKT
          have HFI := Lib.hid (fun W (hW : Later w0 W) => fixing_any p m1 m2 fx ch key day W (HJ.out.facts.later hW) ⟨by omega, by omega⟩ ⟨by omega, by omega⟩)
          have HIS : Hid ((gotF fx key day).2.2 = (getF fx day key).isSome) := Lib.hid (gotF_eq fx key day).2.2
          obtain ⟨⟨zb, cb, fb⟩, -⟩ := (HST.out.later hlk).own
          have c2 : wk.cell? ⟨b, 6, none⟩ = some (.pointer (some ⟨p, 0, none⟩)) := cb 6
          obtain ⟨⟨gn, gd, gi⟩, hgg⟩ : ∃ g, gotF fx key day = g := ⟨_, rfl⟩
          rw [hgg] at HFI HIS
          simp only at HFI HIS
          clear cb fb hgg hkey hkl hkr
          go_upto_region 10 with (go_at_call 24; go_must (refine (HFI.out _ (hl0k.trans (by repeat (first | with_reducible exact Later.refl _ | with_reducible assumption | with_reducible refine Later.ofdrew ?_ | with_reducible refine Later.ofdrewN ?_ | with_reducible refine Later.setCell ?_ ?_ _ | with_reducible refine Later.alloc ?_ _ | with_reducible refine Later.drewN ?_ _ | with_reducible refine Later.drew ?_ | (with_reducible refine Later.trans ?_ (by assumption)) | (simp only [World.size_setCell, World.size_alloc, World.heap_drewN]; omega) | (simp; done) | (simp; omega))))).mono ?_; rintro e w4 ⟨rfl, hb4⟩))
          refine wp_opaque (fun w5 hb5 => ?_)
          have hlk5 : Later wk w5 := hb4.trans hb5.un1
          clear hb4 hb5 g c2 HFI
          cases gi
          · have HN : Hid (askK (envT fx ch) day (KS.take (k + 1)) = askK (envT fx ch) day (KS.take k) ++ [⟨false, key, day⟩]) := Lib.hid (by
              rw [HKT.out, show ((envT fx ch).get day key).isNone = true by
                have := HIS.out
                show (getF fx day key).isNone = true
                cases hg : getF fx day key with
                | none => rfl
                | some v => rw [hg] at this; cases this]
              rfl)
            have HO5 := Lib.hid (B.owns_later HOX.out hlk5)
            have hlw5 := hlk.trans hlk5
            have HNL : Hid ((AS ++ askK (envT fx ch) day (KS.take k)).length ≤ 200000) := Lib.hid (by
              have h1 := askK_le (envT fx ch) day (KS.take k)
              rw [List.length_take] at h1
              have := HQ2.out
              have := HKL.out
              rw [List.length_append]; omega)
            obtain ⟨N, hN⟩ : ∃ N, (AS ++ askK (envT fx ch) day (KS.take k)).length = N := ⟨_, rfl⟩
            rw [hN] at HO5 HNL
            have HNN := Lib.hid hN
            clear HOX hN
            go_wp2_with (at_builtin; go_must (refine B.wpList_push sliceWait HO5.out hlw5.size rfl _ _ rfl rfl 1 _ rfl rfl rfl (by simp [Value.oneCell']) (by have := HNL.out; omega) (by have := HNL.out; unfold maxLen; omega) ?_; intro v9 w9 h1 h2 h3; obtain ⟨p9, c9, rfl⟩ := B.owns_form h1; have hl9 : Later w w9 := B.grown_lat (hlw5.alloc _) h2 (fun k hk => (HO5.out.lt k hk).1); have hg9 := S.LatB.grown (S := fun k => Vk.ownBlock = some k) (S.LatB.refl _) h2 (fun k hk => hk)))
            go_roundw
            case rel => exact ⟨k + 1, _, rfl, by omega, by go_num, hl9, Lib.hid (lat_step ((HLK.out.later hlk5).later ((Later.refl w5).alloc _)) (fun i hi => HFX.out.elim (fun f => .inl (by rw [← f]; exact hi)) (fun f => .inr (f i hi))) hg9), Lib.hid (by rw [HN.out, ← List.append_assoc, List.length_append (bs := [_]), HNN.out, List.flatMap_append (ys := [_])]; exact h1), Lib.hid (h3.elim (fun f => HFX.out.imp (fun g => by rw [f, g]) (fun g i hi => g i (by rw [← f]; exact hi))) (fun f => .inr (fun i hi => Nat.le_trans (Nat.le_trans HLK.out.size hlk5.size) (f i hi))))⟩
            case measure => simp [intOf]; omega
          · have HN : Hid (askK (envT fx ch) day (KS.take (k + 1)) = askK (envT fx ch) day (KS.take k)) := Lib.hid (by
              rw [HKT.out, show ((envT fx ch).get day key).isNone = false by
                have := HIS.out
                show (getF fx day key).isNone = false
                cases hg : getF fx day key with
                | none => rw [hg] at this; cases this
                | some v => rfl]
              simp)
            go_wp2_with fail
            go_roundw
            case rel => exact ⟨k + 1, _, rfl, by omega, by go_num, hlk.trans hlk5, Lib.hid (HLK.out.later hlk5), Lib.hid (by rw [HN.out]; exact B.owns_later HOX.out hlk5), HFX⟩
            case measure => simp [intOf]; omega
        · have hge : ¬ ((k : Int) < K) := by omega
          have HTA : Hid (KS.take k = KS) := Lib.hid (List.take_of_length_le (by rw [HK.out]; omega))
          go_wp2_with fail
          go_roundw
          case rel => exact ⟨q + 1, _, rfl, by omega, by go_num, hlk, Lib.hid (by rw [HTK.out]; have := HOX.out; rw [HTA.out] at this; exact this)⟩
          case measure => simp [intOf]; omega
    · have hge2 : ¬ ((q : Int) < L) := by omega
      obtain rfl : q = L := by omega
      have hE : l.take q = l := List.take_of_length_le (by rw [HLL.out]; omega)
      rw [hE] at HO
      clear hE
      go_wp2_with fail
      go_ret
      exact ⟨_, rfl, (B.owns_row wtCs wtCs_len wtCs_get (by decide) HO.out).1, hlr, fun k hk => (HO.out.lt k hk).1⟩
end Go.Proofs.YtkjabiabeemfhaaGreatDoor
end
section
namespace Go.Proofs.YtkjabiabeemfhaaGreatDoor
open Go.RowKit Go.Sort
section
variable {α : Type} {cf : α → α → Int}
def insL (cf : α → α → Int) (l : List α) (x : α) : List α := l.takeWhile (fun y => !(ltOf cf) x y) ++ x :: l.dropWhile (fun y => !(ltOf cf) x y)
theorem insL_perm (l : List α) (x : α) : (insL cf l x).Perm (l ++ [x]) := by
  unfold insL
  refine List.perm_middle.trans ?_
  rw [List.takeWhile_append_dropWhile]
  exact (List.perm_append_singleton x l).symm
theorem drop_head {p : α → Bool} {l : List α} {y : α} {r : List α} (h : l.dropWhile p = y :: r) : p y = false := by
  induction l with
  | nil => cases h
  | cons a l ih =>
    rw [List.dropWhile_cons] at h
    split at h
    · exact ih h
    · rename_i h1
      cases h
      simpa using h1
theorem insL_sorted (hO : SWO (ltOf cf)) {l : List α} (h : l.Pairwise (fun x y => ltOf cf y x = false)) (x : α) : (insL cf l x).Pairwise (fun x y => ltOf cf y x = false) := by
  unfold insL
  have h0 := h
  rw [← List.takeWhile_append_dropWhile (p := fun y => !(ltOf cf) x y) (l := l)] at h0
  rw [List.pairwise_append] at h0 ⊢
  obtain ⟨h1, h2, h3⟩ := h0
  have h4 : ∀ a ∈ l.takeWhile (fun y => !(ltOf cf) x y), ltOf cf x a = false := fun a ha => by
    have := List.all_eq_true.1 (List.all_takeWhile (l := l) (p := fun y => !(ltOf cf) x y)) a ha
    simpa using this
  refine ⟨h1, List.pairwise_cons.2 ⟨fun b hb => ?_, h2⟩, fun a ha b hb => ?_⟩
  · cases hd : l.dropWhile (fun y => !(ltOf cf) x y) with
    | nil => rw [hd] at hb; cases hb
    | cons y r =>
      have hy := drop_head hd
      have hy' : ltOf cf x y = true := by simpa using hy
      have hyx : ltOf cf y x = false := by
        cases e : ltOf cf y x with
        | false => rfl
        | true => have := hO.trans y x y e hy'; rw [hO.irrefl] at this; cases this
      rw [hd] at hb h2
      rcases List.mem_cons.1 hb with rfl | hb
      · exact hyx
      · exact hO.ntrans b y x ((List.pairwise_cons.1 h2).1 b hb) hyx
  · rcases List.mem_cons.1 hb with rfl | hb
    · exact h4 a ha
    · exact h3 a ha b hb
theorem sort_put (hO : SWO (ltOf cf)) (hT : ∀ x y, (ltOf cf) x y = false → (ltOf cf) y x = false → x = y) (l : List α) (x : α) : insL cf (sortL cf l) x = sortL cf (l ++ [x]) := by
  refine order_unique hT ?_ (insL_sorted hO (sortL_sorted hO hT l) x) (sortL_sorted hO hT _)
  exact (insL_perm _ _).trans (((sortL_perm cf l).append_right [x]).trans (sortL_perm cf _).symm)
theorem sort_same (hO : SWO (ltOf cf)) (hT : ∀ x y, (ltOf cf) x y = false → (ltOf cf) y x = false → x = y) {l m : List α} (h : l.Perm m) : sortL cf l = sortL cf m :=
  order_unique hT ((sortL_perm cf l).trans (h.trans (sortL_perm cf m).symm)) (sortL_sorted hO hT _) (sortL_sorted hO hT _)
def cmpL [DecidableEq α] : List α → List α
  | [] => []
  | [a] => [a]
  | a :: b :: r => if a = b then cmpL (b :: r) else a :: cmpL (b :: r)
end
section
variable {α : Type} [DecidableEq α]
theorem cmpL_snoc : ∀ (l : List α) (y x : α), cmpL (l ++ [y] ++ [x]) = if y = x then cmpL (l ++ [y]) else cmpL (l ++ [y]) ++ [x]
  | [], y, x => by
    show cmpL [y, x] = _
    unfold cmpL
    split
    · rename_i h; subst h; rfl
    · rfl
  | [a], y, x => by
    show cmpL (a :: y :: [x]) = if y = x then cmpL (a :: y :: []) else cmpL (a :: y :: []) ++ [x]
    have ih := cmpL_snoc [] y x
    have e : ∀ m : List α, cmpL (a :: y :: m) = if a = y then cmpL (y :: m) else a :: cmpL (y :: m) := fun m => rfl
    rw [e, e]
    have ih' : cmpL (y :: [x]) = if y = x then cmpL [y] else cmpL [y] ++ [x] := ih
    rw [ih']
    by_cases h1 : y = x <;> by_cases h2 : a = y <;> simp [h1, h2]
  | a :: b :: r, y, x => by
    have ih := cmpL_snoc (b :: r) y x
    have e : ∀ m : List α, cmpL (a :: b :: r ++ m) = if a = b then cmpL (b :: r ++ m) else a :: cmpL (b :: r ++ m) := fun m => rfl
    rw [List.append_assoc, e, e]
    rw [List.append_assoc] at ih
    rw [ih]
    by_cases h1 : y = x <;> by_cases h2 : a = b <;> simp [h1, h2]
theorem cmpL_take {l : List α} {i : Nat} (h1 : 1 ≤ i) (h : i < l.length) : cmpL (l.take (i + 1)) = if l[i - 1]'(by omega) = l[i] then cmpL (l.take i) else cmpL (l.take i) ++ [l[i]] := by
  obtain ⟨j, rfl⟩ : ∃ j, i = j + 1 := ⟨i - 1, by omega⟩
  have e1 : l.take (j + 1 + 1) = l.take j ++ [l[j]] ++ [l[j + 1]] := by
    rw [List.take_succ_eq_append_getElem h, List.take_succ_eq_append_getElem (by omega : j < l.length)]
  have e2 : l.take (j + 1) = l.take j ++ [l[j]] := List.take_succ_eq_append_getElem (by omega)
  rw [e1, e2, cmpL_snoc]
  rfl
theorem cmpL_le : ∀ l : List α, (cmpL l).length ≤ l.length
  | [] => Nat.le_refl _
  | [_] => Nat.le_refl _
  | a :: b :: r => by
    have := cmpL_le (b :: r)
    unfold cmpL
    split
    · simp only [List.length_cons] at this ⊢; omega
    · simp only [List.length_cons] at this ⊢; omega
end
def waitL (l : List Wt) : List Wt := cmpL (sortL ordW l)
end Go.Proofs.YtkjabiabeemfhaaGreatDoor
end
section
namespace Go.Proofs.YtkjabiabeemfhaaGreatDoor
open Go.RowKit
set_option maxRecDepth 100000
noncomputable def ctE (ts : List Nd) : Int := if ofE ts = 0 ∧ ofS ts ≠ 2 then 14 else ofE ts
set_option maxHeartbeats 800000 in
theorem tcheck_any (ts : List Nd) (hlen : ts.length ≤ 100000) (hok : ∀ x ∈ ts, x.ok) (v : Value) (w : World) (hS : Shapes w) (hN : IsNodes w v ts) :
    Calls Tryz.prog 80 #[v] w fun e w' => e = .returned (.int .i64 (ctE ts)) ∧ Later w w' := by
  have HT := Lib.hid (tterm_any ts hlen hok v w hS hN)
  obtain ⟨p, cp, rfl⟩ := hN.form
  obtain ⟨c, hc⟩ : ∃ c, ctE ts = c := ⟨_, rfl⟩
  rw [hc]
  unfold ctE at hc
  obtain ⟨s, hs⟩ : ∃ s, ofS ts = s := ⟨_, rfl⟩
  obtain ⟨f, hf⟩ : ∃ f, ofE ts = f := ⟨_, rfl⟩
  rw [hs, hf] at hc HT
  have HC := Lib.hid hc
  clear hN hS hc hs hf hok
  by_cases h0 : f = 0
  · subst h0
    by_cases h2 : s = 2
    · subst h2
      have hcc := Lib.hid (show (0 : Int) = c by rw [← HC.out]; simp)
      clear HC
      go_enter Tryz.func80, Tryz.ntmps80
      go_wp2_with (go_at_call 77; go_must (refine HT.out.mono ?_; rintro e w1 ⟨rfl, hb1⟩))
      go_ret
      exact ⟨ret_int hcc.out, by repeat (first | with_reducible exact Later.refl _ | with_reducible assumption | with_reducible refine Later.ofdrew ?_ | with_reducible refine Later.ofdrewN ?_ | with_reducible refine Later.setCell ?_ ?_ _ | with_reducible refine Later.alloc ?_ _ | with_reducible refine Later.drewN ?_ _ | with_reducible refine Later.drew ?_ | (with_reducible refine Later.trans ?_ (by assumption)) | (simp only [World.size_setCell, World.size_alloc, World.heap_drewN]; omega) | (simp; done) | (simp; omega))⟩
    · have hcc := Lib.hid (show (14 : Int) = c by rw [← HC.out]; simp [h2])
      clear HC
      have hb : (s != 2) = true := by rw [bne_iff_ne]; exact h2
      go_enter Tryz.func80, Tryz.ntmps80
      go_wp2_with (go_at_call 77; go_must (refine HT.out.mono ?_; rintro e w1 ⟨rfl, hb1⟩))
      go_ret
      exact ⟨ret_int hcc.out, by repeat (first | with_reducible exact Later.refl _ | with_reducible assumption | with_reducible refine Later.ofdrew ?_ | with_reducible refine Later.ofdrewN ?_ | with_reducible refine Later.setCell ?_ ?_ _ | with_reducible refine Later.alloc ?_ _ | with_reducible refine Later.drewN ?_ _ | with_reducible refine Later.drew ?_ | (with_reducible refine Later.trans ?_ (by assumption)) | (simp only [World.size_setCell, World.size_alloc, World.heap_drewN]; omega) | (simp; done) | (simp; omega))⟩
  · have hcc := Lib.hid (show f = c by rw [← HC.out, if_neg (fun h => h0 h.1)])
    clear HC
    have hb : (f == 0) = false := by rw [beq_eq_false_iff_ne]; exact h0
    go_enter Tryz.func80, Tryz.ntmps80
    go_wp2_with (go_at_call 77; go_must (refine HT.out.mono ?_; rintro e w1 ⟨rfl, hb1⟩))
    go_ret
    exact ⟨ret_int hcc.out, by repeat (first | with_reducible exact Later.refl _ | with_reducible assumption | with_reducible refine Later.ofdrew ?_ | with_reducible refine Later.ofdrewN ?_ | with_reducible refine Later.setCell ?_ ?_ _ | with_reducible refine Later.alloc ?_ _ | with_reducible refine Later.drewN ?_ _ | with_reducible refine Later.drew ?_ | (with_reducible refine Later.trans ?_ (by assumption)) | (simp only [World.size_setCell, World.size_alloc, World.heap_drewN]; omega) | (simp; done) | (simp; omega))⟩
end Go.Proofs.YtkjabiabeemfhaaGreatDoor
end
section
namespace Go.Proofs.YtkjabiabeemfhaaGreatDoor
open Go.RowKit Go.Sort
section
variable {ts : List Nd} {T : Tm} {env : Env} {tod : Int}
theorem hd_first (hG : Good ts T) (hm : makesI T.root.op = 2) {day : Int} (h0 : 0 ≤ day) (h1 : day ≤ 73048) : HdOk ts ⟨T, 0, day, 1, 1⟩ :=
  ⟨hG.at.1, hG.sorted, hm, h0, h1, (⟨by decide, by decide, by decide, by decide, by decide⟩ : Valid 1 1)⟩
end
theorem ct_good {ts : List Nd} (h : ctE ts = 0) : ∃ T, Good ts T ∧ makesI T.root.op = 2 := by
  have h1 : ofE ts = 0 := by
    unfold ctE at h
    split at h
    · cases h
    · exact h
  obtain ⟨T, hG⟩ := good_of h1
  refine ⟨T, hG, ?_⟩
  have h2 : ofS ts = 2 := by
    apply Classical.byContradiction
    intro hc
    unfold ctE at h
    rw [if_pos ⟨h1, hc⟩] at h
    cases h
  unfold ofS at h2
  rw [h1, hG.tree] at h2
  simpa using h2
theorem ct_of_good {ts : List Nd} {T : Tm} (hG : Good ts T) (hm : makesI T.root.op = 2) : ctE ts = 0 := by
  have h2 : ofS ts = 2 := by
    unfold ofS
    rw [hG.ofE, hG.tree]
    simpa using hm
  unfold ctE
  rw [if_neg (fun e => e.2 h2)]
  exact hG.ofE
end Go.Proofs.YtkjabiabeemfhaaGreatDoor
end
section
namespace Go.Proofs.YtkjabiabeemfhaaGreatDoor
open Go.RowKit Go.Sort
def keptH (env : Env) (tod : Int) (h : Hd) : List Hd :=
  if tod < h.day then [h]
  else if h.T.root.op = 13 then (if (numT env h.day h.T.kids 0).1 = 0 ∧ (numT env h.day h.T.kids 0).2.isNone = true then [h] else [])
  else if h.T.root.op = 15 then (if (numT env h.day h.T.kids 0).1 = 0 ∧ (numT env h.day h.T.kids 1).1 = 0 ∧ ((numT env h.day h.T.kids 0).2.isNone || (numT env h.day h.T.kids 1).2.isNone) = true then [h] else [])
  else if h.T.root.op = 16 then (if (env.cho h.T.root.a h.day).isNone = true then [h] else [])
  else if h.T.root.op = 17 then (if (firstD env.cho h.T.root.a h.day (min h.T.root.b tod)).isNone = true ∧ h.day ≤ h.T.root.b then [h] else [])
  else []
theorem keptH_mem {env : Env} {tod : Int} {h g : Hd} (hg : g ∈ keptH env tod h) : g = h := by
  unfold keptH at hg
  repeat' split at hg
  all_goals first | exact List.mem_singleton.1 hg | cases hg
theorem keptH_node (env : Env) (tod : Int) (x : Nd) (l : List Tm) (pl : Nat) (day n d : Int) : keptH env tod ⟨.node x l, pl, day, n, d⟩ =
    if tod < day then [⟨.node x l, pl, day, n, d⟩]
    else if x.op = 13 then (if (numT env day l 0).1 = 0 ∧ (numT env day l 0).2.isNone = true then [⟨.node x l, pl, day, n, d⟩] else [])
    else if x.op = 15 then (if (numT env day l 0).1 = 0 ∧ (numT env day l 1).1 = 0 ∧ ((numT env day l 0).2.isNone || (numT env day l 1).2.isNone) = true then [⟨.node x l, pl, day, n, d⟩] else [])
    else if x.op = 16 then (if (env.cho x.a day).isNone = true then [⟨.node x l, pl, day, n, d⟩] else [])
    else if x.op = 17 then (if (firstD env.cho x.a day (min x.b tod)).isNone = true ∧ day ≤ x.b then [⟨.node x l, pl, day, n, d⟩] else [])
    else [] := rfl
theorem oneH_node (env : Env) (tod : Int) (x : Nd) (l : List Tm) (pl : Nat) (day n d : Int) : oneH env tod ⟨.node x l, pl, day, n, d⟩ = if tod < day then (0, [], [], []) else stepT env tod x l pl day n d := rfl
def keptQ (env : Env) (tod : Int) : Nat → List Hd → List Hd
  | 0, _ => []
  | _ + 1, [] => []
  | n + 1, h :: r => keptH env tod h ++ keptQ env tod n (r ++ (oneH env tod h).2.1)
theorem kept_ok {ts : List Nd} {T : Tm} {env : Env} {tod : Int} (hG : Good ts T) (hok : ∀ x ∈ ts, x.ok) (hE : EnvOk env) : ∀ (n : Nat) (q : List Hd), (∀ h ∈ q, HdOk ts h) → ∀ h ∈ keptQ env tod n q, HdOk ts h := by
  intro n
  induction n with
  | zero => intro q _ h hh; cases hh
  | succ n ih =>
    intro q hq h hh
    cases q with
    | nil => cases hh
    | cons g r =>
      rcases List.mem_append.1 hh with hh | hh
      · rw [keptH_mem hh]; exact hq g List.mem_cons_self
      · refine ih _ (fun y hy => ?_) h hh
        rcases List.mem_append.1 hy with hy | hy
        · exact hq y (List.mem_cons_of_mem _ hy)
        · exact one_ok hG hok hE (hq g List.mem_cons_self) y hy
structure RunS where
  L : List Hd
  day : Int
  W : List Wt
noncomputable def goR (env : Env) (s : RunS) (tod : Int) : Int × List Fl × RunS :=
  if tod < s.day ∨ 73048 < tod then (18, [], s)
  else if (runQ env tod (sizesH s.L) s.L).1 ≠ 0 then ((runQ env tod (sizesH s.L) s.L).1, [], s)
  else (0, sortL ordF (runQ env tod (sizesH s.L) s.L).2.1, ⟨keptQ env tod (sizesH s.L) s.L, tod, waitL (runQ env tod (sizesH s.L) s.L).2.2⟩)
def newR (T : Tm) (day : Int) : RunS := ⟨[⟨T, 0, day, 1, 1⟩], -1, []⟩
end Go.Proofs.YtkjabiabeemfhaaGreatDoor
end
section
namespace Go.Proofs.YtkjabiabeemfhaaGreatDoor
open Go.RowKit Go.Sort
structure RunOk (ts : List Nd) (s : RunS) : Prop where
  held : ∀ h ∈ s.L, HdOk ts h
  d0 : -1 ≤ s.day
  d1 : s.day ≤ 73048
theorem new_ok {ts : List Nd} {T : Tm} (hG : Good ts T) (hm : makesI T.root.op = 2) {day : Int} (h0 : 0 ≤ day) (h1 : day ≤ 73048) : RunOk ts (newR T day) :=
  ⟨fun h hh => by rw [List.mem_singleton.1 hh]; exact hd_first hG hm h0 h1, by show (-1 : Int) ≤ -1; decide, by show (-1 : Int) ≤ 73048; decide⟩
theorem goR_early {env : Env} {s : RunS} {tod : Int} (h : tod < s.day ∨ 73048 < tod) : goR env s tod = (18, [], s) := by unfold goR; rw [if_pos h]
theorem goR_over {env : Env} {s : RunS} {tod : Int} (h : ¬ (tod < s.day ∨ 73048 < tod)) (h1 : (runQ env tod (sizesH s.L) s.L).1 ≠ 0) : goR env s tod = ((runQ env tod (sizesH s.L) s.L).1, [], s) := by unfold goR; rw [if_neg h, if_pos h1]
theorem goR_done {env : Env} {s : RunS} {tod : Int} (h : ¬ (tod < s.day ∨ 73048 < tod)) (h1 : (runQ env tod (sizesH s.L) s.L).1 = 0) :
    goR env s tod = (0, sortL ordF (runQ env tod (sizesH s.L) s.L).2.1, ⟨keptQ env tod (sizesH s.L) s.L, tod, waitL (runQ env tod (sizesH s.L) s.L).2.2⟩) := by unfold goR; rw [if_neg h, if_neg (by rw [h1]; simp)]
theorem goR_ok {ts : List Nd} {T : Tm} {env : Env} (hG : Good ts T) (hok : ∀ x ∈ ts, x.ok) (hE : EnvOk env) {s : RunS} (hs : RunOk ts s) (tod : Int) : RunOk ts (goR env s tod).2.2 := by
  by_cases h : tod < s.day ∨ 73048 < tod
  · rw [goR_early h]; exact hs
  · by_cases h1 : (runQ env tod (sizesH s.L) s.L).1 = 0
    · rw [goR_done h h1]
      exact ⟨kept_ok hG hok hE _ _ hs.held, by have := hs.d0; show -1 ≤ tod; omega, by show tod ≤ 73048; omega⟩
    · rw [goR_over h h1]; exact hs
end Go.Proofs.YtkjabiabeemfhaaGreatDoor
end
section
namespace Go.Proofs.YtkjabiabeemfhaaGreatDoor
open Go.RowKit Go.Sort
theorem keptH_cases (env : Env) (tod : Int) (h : Hd) : keptH env tod h = [] ∨ keptH env tod h = [h] := by
  unfold keptH
  repeat' split
  all_goals first | exact .inl rfl | exact .inr rfl
theorem kept_kid {env : Env} {tod : Int} {h : Hd} (hk : keptH env tod h = [h]) : (oneH env tod h).2.1 = [] ∧ (oneH env tod h).2.2.1 = [] ∧ (oneH env tod h).1 = 0 := by
  obtain ⟨⟨x, l⟩, pl, day, n, d⟩ := h
  rw [keptH_node] at hk
  rw [oneH_node]
  by_cases hlt : tod < day
  · rw [if_pos hlt]; exact ⟨rfl, rfl, rfl⟩
  rw [if_neg hlt] at hk ⊢
  by_cases h13 : x.op = 13
  · rw [if_pos h13] at hk
    split at hk
    · rename_i hc
      have e : stepT env tod x l pl day n d = scaleT env l pl day n d := by simp [stepT, h13]
      rw [e]
      unfold scaleT
      rw [if_neg (by rw [hc.1]; simp)]
      cases hv : (numT env day l 0).2 with
      | none => exact ⟨rfl, rfl, rfl⟩
      | some v => have := hc.2; rw [hv] at this; cases this
    · cases hk
  rw [if_neg h13] at hk
  by_cases h15 : x.op = 15
  · rw [if_pos h15] at hk
    split at hk
    · rename_i hc
      have e : stepT env tod x l pl day n d = condT env l pl day n d := by simp [stepT, h15]
      rw [e]
      unfold condT
      rw [if_neg (by rw [hc.1]; simp), if_neg (by rw [hc.2.1]; simp)]
      have h3 := hc.2.2
      cases hv : (numT env day l 0).2 with
      | none => exact ⟨rfl, rfl, rfl⟩
      | some v =>
        cases hu : (numT env day l 1).2 with
        | none => exact ⟨rfl, rfl, rfl⟩
        | some u => rw [hv, hu] at h3; cases h3
    · cases hk
  rw [if_neg h15] at hk
  by_cases h16 : x.op = 16
  · rw [if_pos h16] at hk
    split at hk
    · rename_i hc
      cases hv : env.cho x.a day with
      | none => simp [stepT, h16, hv]
      | some v => rw [hv] at hc; cases hc
    · cases hk
  rw [if_neg h16] at hk
  by_cases h17 : x.op = 17
  · rw [if_pos h17] at hk
    split at hk
    · rename_i hc
      cases hv : firstD env.cho x.a day (min x.b tod) with
      | none => simp [stepT, h17, hv]
      | some v => rw [hv] at hc; cases hc.1
    · cases hk
  rw [if_neg h17] at hk
  cases hk
theorem kept_size (env : Env) (tod : Int) (h : Hd) : sizesH (keptH env tod h) + sizesH (oneH env tod h).2.1 ≤ h.T.size := by
  have hlt := one_lt env tod h
  rcases keptH_cases env tod h with e | e
  · rw [e]
    simp only [sizesH, List.map_nil, List.sum_nil] at hlt ⊢
    omega
  · rw [e, (kept_kid e).1]
    simp [sizesH]
theorem sizesH_app (a b : List Hd) : sizesH (a ++ b) = sizesH a + sizesH b := by simp [sizesH]
theorem sizesH_len : ∀ l : List Hd, l.length ≤ sizesH l
  | [] => Nat.le_refl _
  | a :: l => by
    have := a.T.size_pos
    have := sizesH_len l
    simp only [sizesH, List.map_cons, List.sum_cons, List.length_cons] at this ⊢
    omega
theorem keptQ_size (env : Env) (tod : Int) : ∀ (n : Nat) (q : List Hd), sizesH (keptQ env tod n q) ≤ sizesH q := by
  intro n
  induction n with
  | zero => intro q; exact Nat.zero_le _
  | succ n ih =>
    intro q
    cases q with
    | nil => exact Nat.le_refl _
    | cons h r =>
      have h1 := ih (r ++ (oneH env tod h).2.1)
      have h2 := kept_size env tod h
      show sizesH (keptH env tod h ++ keptQ env tod n (r ++ (oneH env tod h).2.1)) ≤ sizesH (h :: r)
      rw [sizesH_app] at h1 ⊢
      have : sizesH (h :: r) = h.T.size + sizesH r := by simp [sizesH]
      omega
def LeftG (env : Env) (tod : Int) (R : Rs) (KT : List Hd) (F : List Fl) (W : List Wt) (K q : List Hd) : Prop := ∃ n, sizesH q ≤ n ∧ comb (0, F, W) (runQ env tod n q) = R ∧ K ++ keptQ env tod n q = KT
theorem leftg_nil {env : Env} {tod : Int} {R : Rs} {KT : List Hd} {F : List Fl} {W : List Wt} {K : List Hd} (h : LeftG env tod R KT F W K []) : R = (0, F, W) ∧ KT = K := by
  obtain ⟨n, h1, h2, h3⟩ := h
  refine ⟨left_nil ⟨n, h1, h2⟩, ?_⟩
  rw [← h3]
  cases n <;> simp [keptQ]
theorem leftg_err {env : Env} {tod : Int} {R : Rs} {KT : List Hd} {F : List Fl} {W : List Wt} {K : List Hd} {h : Hd} {r : List Hd} (hl : LeftG env tod R KT F W K (h :: r)) (h1 : (oneH env tod h).1 ≠ 0) : R = ((oneH env tod h).1, [], []) := by
  obtain ⟨n, a, b, -⟩ := hl
  exact left_err ⟨n, a, b⟩ h1
theorem leftg_step {env : Env} {tod : Int} {R : Rs} {KT : List Hd} {F : List Fl} {W : List Wt} {K : List Hd} {h : Hd} {r : List Hd} (hl : LeftG env tod R KT F W K (h :: r)) (h1 : (oneH env tod h).1 = 0) :
    LeftG env tod R KT (F ++ (oneH env tod h).2.2.1) (W ++ (oneH env tod h).2.2.2) (K ++ keptH env tod h) (r ++ (oneH env tod h).2.1) := by
  obtain ⟨n, hn, hl, hk⟩ := hl
  cases n with
  | zero => have := h.T.size_pos; simp [sizesH] at hn; omega
  | succ n =>
    have hlt := one_lt env tod h
    refine ⟨n, ?_, ?_, ?_⟩
    · simp only [sizesH, List.map_append, List.sum_append, List.map_cons, List.sum_cons] at hn hlt ⊢
      omega
    · rw [← hl]
      simp only [runQ, h1, ne_eq, not_true_eq_false, if_false]
      generalize runQ env tod n (r ++ (oneH env tod h).2.1) = y
      unfold comb
      by_cases hy : y.1 = 0 <;> simp [hy]
    · rw [← hk, List.append_assoc]
      rfl
theorem run_fail (env : Env) (tod : Int) : ∀ n q, (runQ env tod n q).1 ≠ 0 → (runQ env tod n q).2 = ([], []) := by
  intro n
  induction n with
  | zero => intro q h; exact absurd rfl h
  | succ n ih =>
    intro q h
    cases q with
    | nil => exact absurd rfl h
    | cons g r =>
      simp only [runQ] at h ⊢
      by_cases h1 : (oneH env tod g).1 = 0
      · simp only [h1, ne_eq, not_true_eq_false, if_false] at h ⊢
        unfold comb at h ⊢
        simp only [ne_eq, not_true_eq_false, if_false] at h ⊢
        split
        · rfl
        · rename_i h2; simp [h2] at h
      · simp only [h1, ne_eq, not_false_eq_true, if_true]
theorem leftg_first (env : Env) (tod : Int) (q : List Hd) : LeftG env tod (runQ env tod (sizesH q) q) (keptQ env tod (sizesH q) q) [] [] [] q := by
  refine ⟨sizesH q, Nat.le_refl _, ?_, rfl⟩
  have hf := run_fail env tod (sizesH q) q
  generalize runQ env tod (sizesH q) q = y at *
  unfold comb
  by_cases hy : y.1 = 0
  · obtain ⟨a, b, c⟩ := y
    simp only at hy
    subst hy
    simp
  · have := hf hy
    obtain ⟨a, b⟩ := y
    simp only at hy this
    subst this
    simp [hy]
theorem goR_size {env : Env} {s : RunS} (tod : Int) (h : sizesH s.L ≤ 64) : sizesH (goR env s tod).2.2.L ≤ 64 := by
  by_cases h0 : tod < s.day ∨ 73048 < tod
  · rw [goR_early h0]; exact h
  · by_cases h1 : (runQ env tod (sizesH s.L) s.L).1 = 0
    · rw [goR_done h0 h1]; exact Nat.le_trans (keptQ_size env tod _ _) h
    · rw [goR_over h0 h1]; exact h
end Go.Proofs.YtkjabiabeemfhaaGreatDoor
end
