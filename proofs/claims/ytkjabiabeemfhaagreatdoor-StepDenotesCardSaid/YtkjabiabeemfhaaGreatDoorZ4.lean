/- walks: a sum of two wide numbers -/
import Derived.Test.YtkjabiabeemfhaaGreatDoorZ3
import Derived.Test.YtkjabiabeemfhaaGreatDoorZ2
import Derived.Deep.DeepCutAuto
set_option linter.all false
set_option linter.all false
section
namespace Go.Proofs.YtkjabiabeemfhaaGreatDoor
open Go.RowKit
set_option maxRecDepth 100000
def makesI (op : Int) : Int := if op < 1 ∨ 17 < op then 0 else if op ≤ 8 then 1 else 2
def manyN (op : Int) : Nat := if op < 1 ∨ 17 < op then 0 else [0, 0, 1, 2, 2, 2, 2, 2, 0, 0, 1, 2, 2, 1, 4, 2, 1].getD (op.toNat - 1) 0
def belI (op : Int) (j : Nat) : Int := if manyN op ≤ j then 0 else if op ≤ 8 then 1 else if op = 13 ∧ j = 0 then 1 else if op = 15 ∧ j ≤ 1 then 1 else 2
def shp (op : Int) : Nat → Int
 | 0 => makesI op
 | 1 => manyN op
 | j + 2 => belI op j
def Shapes (w : World) : Prop := 0 < w.heap.size ∧ ∀ op : Nat, op < 18 → ∀ j, j < 6 → w.cell? ⟨0, op * 6 + j, none⟩ = some (.int .i64 (shp op j))
theorem Shapes.later {w w' : World} (h : Shapes w) (hb : Later w w') : Shapes w' :=
 ⟨Nat.lt_of_lt_of_le h.1 (Later.size hb), fun op ho j hj => ((bcell hb).1 _ _ h.1).trans (h.2 op ho j hj)⟩
theorem many_le (op : Int) : manyN op ≤ 4 := by
 unfold manyN; split
 ·omega
 ·have : (op.toNat - 1) < 17 := by omega
  generalize op.toNat - 1 = k at *
  rcases k with _ | _ | _ | _ | _ | _ | _ | _ | _ | _ | _ | _ | _ | _ | _ | _ | _ | k <;> simp <;> omega
theorem out_shp {op : Int} (h : op < 0 ∨ 18 ≤ op) : makesI op = 0 ∧ manyN op = 0 ∧ ∀ j, belI op j = 0 := by
 have h1 : manyN op = 0 := by unfold manyN; rw [if_pos (by omega)]
 refine ⟨by unfold makesI; rw [if_pos (by omega)], h1, fun j => ?_⟩
 unfold belI; rw [if_pos (by omega)]
def shpV (op : Int) : Value := .agg #[.int .i64 (makesI op), .int .i64 (manyN op), .int .i64 (belI op 0), .int .i64 (belI op 1), .int .i64 (belI op 2), .int .i64 (belI op 3)]
set_option maxHeartbeats 800000 in
theorem of_shape (op : Int) (w : World) (hS : Shapes w) :
  Calls Tryz.prog 122 #[.int .i64 op] w fun e w' => e = .returned (shpV op) ∧ Later w w' := by
 by_cases h0 : op < 0
 ·have hz := out_shp (.inl h0)
  unfold shpV
  rw [hz.1, hz.2.1, hz.2.2, hz.2.2, hz.2.2, hz.2.2]
  clear hz hS
  go_enter Tryz.func122, Tryz.ntmps122
  go_wp2
  exact bodyPost_ret (v := .agg #[.int .i64 0, .int .i64 0, .int .i64 0, .int .i64 0, .int .i64 0, .int .i64 0]) (by simp [results, Tryz.results122, go_sem]) rfl ⟨rfl, by repeat (first | with_reducible (first | exact zq1 _ | assumption | refine zq2 ?_ | refine zq4 ?_ ?_ _ | refine zq5 ?_ _ | refine zq6 ?_ _ | refine zq7 ?_ | refine zq8 ?_ (by assumption)) | (simp only [zq10]; omega) | (simp; done) | (simp; omega))⟩
 by_cases h1 : 18 ≤ op
 ·have hz := out_shp (.inr h1)
  unfold shpV
  rw [hz.1, hz.2.1, hz.2.2, hz.2.2, hz.2.2, hz.2.2]
  clear hz hS
  go_enter Tryz.func122, Tryz.ntmps122
  go_wp2
  exact bodyPost_ret (v := .agg #[.int .i64 0, .int .i64 0, .int .i64 0, .int .i64 0, .int .i64 0, .int .i64 0]) (by simp [results, Tryz.results122, go_sem]) rfl ⟨rfl, by repeat (first | with_reducible (first | exact zq1 _ | assumption | refine zq2 ?_ | refine zq4 ?_ ?_ _ | refine zq5 ?_ _ | refine zq6 ?_ _ | refine zq7 ?_ | refine zq8 ?_ (by assumption)) | (simp only [zq10]; omega) | (simp; done) | (simp; omega))⟩
 ·obtain ⟨k, rfl⟩ := Int.eq_ofNat_of_zero_le (show 0 ≤ op by omega)
  have hk : k < 18 := by omega
  have g0 := hS.2 k hk 0 (by omega)
  have g1 := hS.2 k hk 1 (by omega)
  have g2 := hS.2 k hk 2 (by omega)
  have g3 := hS.2 k hk 3 (by omega)
  have g4 := hS.2 k hk 4 (by omega)
  have g5 := hS.2 k hk 5 (by omega)
  have hg : 0 < w.heap.size := hS.1
  simp only [shp, Nat.add_zero] at g0 g1 g2 g3 g4 g5
  unfold shpV
  generalize makesI (k : Int) = m0 at *
  generalize ((manyN (k : Int) : Nat) : Int) = m1 at *
  generalize belI (k : Int) 0 = m2 at *
  generalize belI (k : Int) 1 = m3 at *
  generalize belI (k : Int) 2 = m4 at *
  generalize belI (k : Int) 3 = m5 at *
  clear hS
  go_enter Tryz.func122, Tryz.ntmps122
  go_wp2
  exact bodyPost_ret (v := .agg #[.int .i64 m0, .int .i64 m1, .int .i64 m2, .int .i64 m3, .int .i64 m4, .int .i64 m5]) (by simp [results, Tryz.results122, go_sem]) rfl ⟨rfl, by repeat (first | with_reducible (first | exact zq1 _ | assumption | refine zq2 ?_ | refine zq4 ?_ ?_ _ | refine zq5 ?_ _ | refine zq6 ?_ _ | refine zq7 ?_ | refine zq8 ?_ (by assumption)) | (simp only [zq10]; omega) | (simp; done) | (simp; omega))⟩
theorem field_makes (a b c d e f : Value) (w : World) : (Instr.field 214 (.agg #[a, b, c, d, e, f]) 0).run Tryz.prog w = .ok a w := by kernel_rfl
theorem field_many (a b c d e f : Value) (w : World) : (Instr.field 214 (.agg #[a, b, c, d, e, f]) 1).run Tryz.prog w = .ok b w := by kernel_rfl
theorem field_below (a b c d e f : Value) (w : World) : (Instr.field 214 (.agg #[a, b, c, d, e, f]) 2).run Tryz.prog w = .ok (.agg #[c, d, e, f]) w := by kernel_rfl
attribute [local go_sem] field_makes field_many field_below
set_option maxHeartbeats 400000 in
theorem sort_any (op : Int) (w : World) (hS : Shapes w) :
  Calls Tryz.prog 121 #[.int .i64 op] w fun e w' => e = .returned (.int .i64 (makesI op)) ∧ Later w w' := by
 have HC := Lib.hid (of_shape op w hS)
 unfold shpV at HC
 go_enter Tryz.func121, Tryz.ntmps121
 go_wp2_with (go_at_call 122; go_must (refine (HC.out).mono ?_; rintro e w1 ⟨rfl, hb1⟩))
 go_ret
 exact ⟨rfl, hb1⟩
structure Nd where
 op : Int
 a : Int
 b : Int
 n : Int
 d : Int
 deriving DecidableEq, Inhabited
def Nd.cell (x : Nd) : Nat → Int
 | 0 => x.op
 | 1 => x.a
 | 2 => x.b
 | 3 => x.n
 | _ => x.d
def IsNodes (w : World) (v : Value) (ts : List Nd) : Prop :=
 ((∃ p, v = .slice p 0 0) ∧ ts = []) ∨ ∃ b o cap, v = .slice (some ⟨b, o, none⟩) ts.length cap ∧ b < w.heap.size ∧ ts.length ≤ cap ∧ cap ≤ maxLen ∧
  ∀ i (h : i < ts.length) j, j < 5 → w.cell? ⟨b, o + i * 5 + j, none⟩ = some (.int .i64 ((ts[i]).cell j))
theorem IsNodes.later {w w' : World} {v : Value} {ts : List Nd} (h : IsNodes w v ts) (hb : Later w w') : IsNodes w' v ts := by
 rcases h with h | ⟨b, o, cap, h1, h2, h3, h4, h5⟩
 ·exact .inl h
 ·exact .inr ⟨b, o, cap, h1, Nat.lt_of_lt_of_le h2 (Later.size hb), h3, h4, fun i hi j hj => ((bcell hb).1 _ _ h2).trans (h5 i hi j hj)⟩
theorem IsNodes.form {w : World} {v : Value} {ts : List Nd} (h : IsNodes w v ts) : ∃ p cap, v = .slice p ts.length cap := by
 rcases h with ⟨⟨p, h1⟩, h2⟩ | ⟨b, o, cap, h1, _⟩
 ·subst h2; exact ⟨_, _, h1⟩
 ·exact ⟨_, _, h1⟩
theorem IsNodes.full {w : World} {v : Value} {ts : List Nd} {i : Nat} (h : IsNodes w v ts) (hi : i < ts.length) :
  ∃ b o cap, v = .slice (some ⟨b, o, none⟩) ts.length cap ∧ b < w.heap.size ∧ ts.length ≤ cap ∧ w.cell? ⟨b, o + i * 5, none⟩ = some (.int .i64 (ts[i]).op) ∧ w.cell? ⟨b, o + i * 5 + 1, none⟩ = some (.int .i64 (ts[i]).a) ∧
   w.cell? ⟨b, o + i * 5 + 2, none⟩ = some (.int .i64 (ts[i]).b) ∧ w.cell? ⟨b, o + i * 5 + 3, none⟩ = some (.int .i64 (ts[i]).n) ∧ w.cell? ⟨b, o + i * 5 + 4, none⟩ = some (.int .i64 (ts[i]).d) := by
 rcases h with ⟨_, rfl⟩ | ⟨b, o, cap, h1, h2, h3, h4, h5⟩
 ·simp at hi
 ·exact ⟨b, o, cap, h1, h2, h3, h5 i hi 0 (by omega), h5 i hi 1 (by omega), h5 i hi 2 (by omega), h5 i hi 3 (by omega), h5 i hi 4 (by omega)⟩
def kidsEnd (f : Nat → Option Nat) : Nat → Nat → Option Nat
 | 0, k => some k
 | m + 1, k => match f k with
  | none => none
  | some k' => kidsEnd f m k'
def endF (ts : List Nd) : Nat → Nat → Option Nat
 | 0, _ => none
 | fuel + 1, k => match ts[k]? with
  | none => none
  | some x => if makesI x.op = 0 then none else kidsEnd (endF ts fuel) (manyN x.op) (k + 1)
def endN (ts : List Nd) (k : Nat) : Option Nat := endF ts (ts.length + 1 - k) k
def optI : Option Nat → Int
 | none => -1
 | some k => k
theorem kidsEnd_ge {f : Nat → Option Nat} (h : ∀ k r, f k = some r → k ≤ r) : ∀ (m k r : Nat), kidsEnd f m k = some r → k ≤ r
 | 0, k, r, hr => by simp only [kidsEnd, Option.some.injEq] at hr; omega
 | m + 1, k, r, hr => by
  simp only [kidsEnd] at hr
  cases hf : f k with
  | none => rw [hf] at hr; cases hr
  | some k' =>
   rw [hf] at hr
   have h1 := h k k' hf
   have h2 := kidsEnd_ge h m k' r hr
   omega
theorem kidsEnd_congr {f g : Nat → Option Nat} {lo : Nat} (hge : ∀ k r, f k = some r → k ≤ r) (h : ∀ k, lo ≤ k → f k = g k) : ∀ (m k : Nat), lo ≤ k → kidsEnd f m k = kidsEnd g m k
 | 0, k, _ => rfl
 | m + 1, k, hk => by
  simp only [kidsEnd]
  rw [← h k hk]
  cases hf : f k with
  | none => rfl
  | some k' => exact kidsEnd_congr hge h m k' (Nat.le_trans hk (hge k k' hf))
theorem endF_gt (ts : List Nd) : ∀ (fuel k r : Nat), endF ts fuel k = some r → k < r
 | 0, _, _, h => by simp [endF] at h
 | fuel + 1, k, r, h => by
  simp only [endF] at h
  split at h
  ·cases h
  ·split at h
   ·cases h
   ·have := kidsEnd_ge (fun k r hr => Nat.le_of_lt (endF_gt ts fuel k r hr)) _ _ _ h
    omega
theorem endF_fuel (ts : List Nd) : ∀ (n k f g : Nat), ts.length + 1 - k ≤ n → ts.length + 1 - k ≤ f → ts.length + 1 - k ≤ g → endF ts f k = endF ts g k := by
 intro n
 induction n with
 | zero =>
  intro k f g hn _ _
  have hk : ts.length < k := by omega
  have hnone : ts[k]? = none := List.getElem?_eq_none (by omega)
  cases f <;> cases g <;> simp [endF, hnone]
 | succ n ih =>
  intro k f g hn hf hg
  by_cases hk : k < ts.length
  ·obtain ⟨f, rfl⟩ : ∃ f', f = f' + 1 := ⟨f - 1, by omega⟩
   obtain ⟨g, rfl⟩ : ∃ g', g = g' + 1 := ⟨g - 1, by omega⟩
   simp only [endF]
   split
   ·rfl
   ·split
    ·rfl
    ·exact kidsEnd_congr (lo := k + 1) (fun k r hr => Nat.le_of_lt (endF_gt ts _ k r hr)) (fun k' hk' => ih k' f g (by omega) (by omega) (by omega)) _ _ (Nat.le_refl _)
  ·have hnone : ts[k]? = none := List.getElem?_eq_none (by omega)
   cases f <;> cases g <;> simp [endF, hnone]
theorem endN_gt {ts : List Nd} {k r : Nat} (h : endN ts k = some r) : k < r := endF_gt ts _ k r h
theorem endN_eq (ts : List Nd) (k : Nat) : endN ts k = match ts[k]? with
  | none => none
  | some x => if makesI x.op = 0 then none else kidsEnd (endN ts) (manyN x.op) (k + 1) := by
 by_cases hk : k < ts.length
 ·obtain ⟨f, hf⟩ : ∃ f, ts.length + 1 - k = f + 1 := ⟨ts.length - k, by omega⟩
  show endF ts (ts.length + 1 - k) k = _
  rw [hf]
  simp only [endF]
  split
  ·rfl
  ·split
   ·rfl
   ·exact kidsEnd_congr (lo := k + 1) (fun k r hr => Nat.le_of_lt (endF_gt ts _ k r hr)) (fun k' hk' => endF_fuel ts _ k' _ _ (Nat.le_refl _) (by omega) (Nat.le_refl _)) _ _ (Nat.le_refl _)
 ·have hnone : ts[k]? = none := List.getElem?_eq_none (by omega)
  unfold endN
  rw [hnone]
  cases ts.length + 1 - k <;> simp [endF, hnone]
theorem endN_none {ts : List Nd} {k : Nat} (h : ts.length ≤ k) : endN ts k = none := by rw [endN_eq, List.getElem?_eq_none h]
theorem endN_le {ts : List Nd} : ∀ {n k r : Nat}, ts.length - k ≤ n → endN ts k = some r → r ≤ ts.length := by
 intro n
 induction n with
 | zero => intro k r hn h; rw [endN_none (by omega)] at h; cases h
 | succ n ih =>
  intro k r hn h
  rw [endN_eq] at h
  by_cases hk : k < ts.length
  ·rw [List.getElem?_eq_getElem hk] at h
   simp only at h
   split at h
   ·cases h
   ·have key : ∀ (m j r : Nat), k + 1 ≤ j → j ≤ ts.length → kidsEnd (endN ts) m j = some r → r ≤ ts.length := by
     intro m
     induction m with
     | zero => intro j r _ hj h; simp only [kidsEnd, Option.some.injEq] at h; omega
     | succ m ihm =>
      intro j r hj1 hj2 h
      simp only [kidsEnd] at h
      cases hf : endN ts j with
      | none => rw [hf] at h; cases h
      | some j' =>
       rw [hf] at h
       have h1 := endN_gt hf
       exact ihm j' r (by omega) (ih (by omega) hf) h
    exact key _ _ _ (Nat.le_refl _) (by omega) h
  ·rw [List.getElem?_eq_none (by omega)] at h; cases h
set_option maxHeartbeats 1600000 in
theorem end_any (ts : List Nd) (hlen : ts.length ≤ 100000) : ∀ (n k : Nat) (v : Value) (w : World), ts.length + 1 - k ≤ n → k ≤ 100001 → Shapes w → IsNodes w v ts →
  Calls Tryz.prog 78 #[v, .int .i64 k] w fun e w' => e = .returned (.int .i64 (optI (endN ts k))) ∧ Later w w' := by
 intro n
 induction n with
 | zero =>
  intro k v w hn hk hS hN
  obtain ⟨p, cp, rfl⟩ := hN.form
  rw [endN_none (by omega)]
  have hkl : ts.length ≤ k := by omega
  clear hS hN hn
  generalize ts.length = L at *
  go_enter Tryz.func78, Tryz.ntmps78
  go_wp2
  go_ret
  exact ⟨rfl, Later.refl _⟩
 | succ n ih =>
  intro k v w hn hk hS hN
  by_cases hkl : k < ts.length
  ·obtain ⟨b, o, cp, rfl, hb, hcap, g0, -⟩ := hN.full hkl
   have hE := endN_eq ts k
   rw [List.getElem?_eq_getElem hkl] at hE
   simp only at hE
   obtain ⟨op, hop⟩ : ∃ op, (ts[k]).op = op := ⟨_, rfl⟩
   rw [hop] at hE g0
   have HSO := Lib.hid (fun W hW => sort_any op W hW)
   have HOF := Lib.hid (fun W hW => of_shape op W hW)
   have HIH := Lib.hid ih
   unfold shpV at HOF
   clear hop ih
   by_cases hm : makesI op = 0
   ·rw [if_pos hm] at hE
    rw [hm] at HSO
    rw [hE]
    clear hE hm
    have HS := Lib.hid hS
    clear hS hN
    generalize ts.length = L at *
    go_enter Tryz.func78, Tryz.ntmps78
    go_wp2_with (go_at_call 121; go_must (refine (HSO.out _ HS.out).mono ?_; rintro e w1 ⟨rfl, hb1⟩))
    go_ret
    exact ⟨rfl, hb1⟩
   ·rw [if_neg hm] at hE
    have hm0 : (makesI op == 0) = false := by simpa using hm
    have hml := many_le op
    obtain ⟨m, hme⟩ : ∃ m, manyN op = m := ⟨_, rfl⟩
    obtain ⟨mk, hmk⟩ : ∃ mk, makesI op = mk := ⟨_, rfl⟩
    rw [hme] at hE HOF hml
    rw [hmk] at HSO HOF hm0
    have HE := Lib.hid hE
    have HS := Lib.hid hS
    have HN := Lib.hid hN
    clear hE hS hN hm hme hmk
    obtain ⟨L, hL⟩ : ∃ L, ts.length = L := ⟨_, rfl⟩
    rw [hL] at hlen hn hkl hcap HIH HN ⊢
    have HL := Lib.hid hL
    clear hL
    go_enter Tryz.func78, Tryz.ntmps78
    go_wp2_with (first
     | (go_at_call 121; go_must (refine (HSO.out _ HS.out).mono ?_; rintro e w1 ⟨rfl, hb1⟩; have g1 := ((bcell hb1).1 _ _ hb).trans g0))
     | (go_at_call 122; go_must (refine (HOF.out _ (HS.out.later hb1)).mono ?_; rintro e w2 ⟨rfl, hb2⟩)))
    have hb12 := hb1.trans hb2
    clear hb1 hb2 g0 g1
    have HR := Lib.hid (HS.out.later hb12)
    go_loopw [5, 28] (fun s5 s28 wr => ∃ i j : Nat, i ≤ m ∧ s28 = .int .i64 i ∧ s5 = .int .i64 j ∧ k + 1 ≤ j ∧ j ≤ 100001 ∧ Hid (kidsEnd (endN ts) (m - i) j = endN ts k) ∧ Later w2 wr) (fun _ s28 _ => m - (intOf s28).toNat)
    case atStart => exact ⟨0, k + 1, by omega, rfl, by go_num, by omega, by omega, Lib.hid (by rw [Nat.sub_zero]; exact HE.out.symm), Later.refl _⟩
    case round =>
     obtain ⟨i, j, hi, rfl, rfl, hj, hj2, hkd, hlat⟩ := hrel
     have hlw := hb12.trans hlat
     have HSW := Lib.hid (HR.out.later hlat)
     have HNW := Lib.hid (HN.out.later hlw)
     by_cases him : i < m
     ·have hst : kidsEnd (endN ts) (m - i) j = match endN ts j with | none => none | some k' => kidsEnd (endN ts) (m - (i + 1)) k' := by
       rw [show m - i = (m - (i + 1)) + 1 by omega]; rfl
      rw [hkd.out] at hst
      have hle : ∀ r, endN ts j = some r → j < r ∧ r ≤ 100000 := fun r hr => ⟨endN_gt hr, Nat.le_trans (endN_le (Nat.le_refl _) hr) (by rw [HL.out]; exact hlen)⟩
      have HC := Lib.hid (HIH.out j _ wr (by omega) hj2 HSW.out HNW.out)
      obtain ⟨en, hen⟩ : ∃ en, endN ts j = en := ⟨_, rfl⟩
      rw [hen] at hst HC hle
      clear hen hkd
      cases en with
      | none =>
       simp only at hst
       have hst' : optI (endN ts k) = -1 := by rw [hst]; simp only [optI]
       have HF := Lib.hid hst'
       clear hst hst' hle
       simp only [optI] at HC
       go_wp2_with (go_at_call 78; go_must (refine HC.out.mono ?_; rintro e w3 ⟨rfl, hb3⟩))
       go_ret
       exact ⟨ret_int HF.out.symm, hlw.trans hb3⟩
      | some r =>
       simp only at hst
       have HF := Lib.hid hst
       have hr1 := (hle r rfl).1
       have hr2 := (hle r rfl).2
       clear hst hle
       simp only [optI] at HC
       go_wp2_with (go_at_call 78; go_must (refine HC.out.mono ?_; rintro e w3 ⟨rfl, hb3⟩))
       go_roundw
       case rel => exact ⟨i + 1, r, by omega, by go_num, rfl, by omega, by omega, Lib.hid HF.out.symm, hlat.trans hb3⟩
       case measure => simp [intOf]; omega
     ·have hz : m - i = 0 := by omega
      have hfin : optI (endN ts k) = j := by rw [← hkd.out, hz]; simp only [kidsEnd, optI]
      have HF := Lib.hid hfin
      clear hz hfin hkd
      go_wp2
      go_ret
      exact ⟨ret_int HF.out.symm, hlw⟩
  ·obtain ⟨p, cp, rfl⟩ := hN.form
   rw [endN_none (by omega)]
   have hkl : ts.length ≤ k := by omega
   clear hS hN hn ih
   generalize ts.length = L at *
   go_enter Tryz.func78, Tryz.ntmps78
   go_wp2
   go_ret
   exact ⟨rfl, Later.refl _⟩
end Go.Proofs.YtkjabiabeemfhaaGreatDoor
end
section
namespace Go.Proofs.YtkjabiabeemfhaaGreatDoor
open Go.RowKit
set_option maxRecDepth 100000
def withinB (n m : Int) : Bool := decide (0 ≤ n) && decide (n ≤ m)
theorem wrap_neg (n : Int) (h1 : -9223372036854775808 ≤ n) (h : n < 0) : IntKind.u64.wrap (-IntKind.u64.wrap n) = n.natAbs := by
 simp only [wrap_u64]
 omega
set_option maxHeartbeats 400000 in
theorem abs_any (n : Int) (w : World) (h1 : -9223372036854775808 ≤ n) (h2 : n ≤ 9223372036854775807) :
  Calls Tryz.prog 161 #[.int .i64 n] w fun e w' => e = .returned (.int .u64 n.natAbs) ∧ w' = w := by
 go_enter Tryz.func161, Tryz.ntmps161
 by_cases h : n < 0
 ·go_wp2
  go_ret
  exact ⟨ret_int (wrap_neg n h1 h), rfl⟩
 ·go_wp2
  go_ret
  exact ⟨ret_int (by omega), rfl⟩
set_option maxHeartbeats 400000 in
theorem amount_abs (n : Int) (w : World) (h1 : -9223372036854775808 ≤ n) (h2 : n ≤ 9223372036854775807) :
  Calls Tryz.prog 189 #[.int .i64 n] w fun e w' => e = .returned (.int .u64 n.natAbs) ∧ w' = w := by
 go_enter Tryz.func189, Tryz.ntmps189
 by_cases h : n < 0
 ·go_wp2
  go_ret
  exact ⟨ret_int (wrap_neg n h1 h), rfl⟩
 ·go_wp2
  go_ret
  exact ⟨ret_int (by omega), rfl⟩
def gcdI (a b : Int) : Int := Int.gcd a b
theorem gcd_bd (a b : Int) : 0 ≤ gcdI a b := by unfold gcdI; omega
set_option maxHeartbeats 400000 in
theorem common_any (x y : Int) (w : World) (h0 : 0 ≤ x) (h1 : x ≤ 18446744073709551615) (h2 : 0 ≤ y) (h3 : y ≤ 18446744073709551615) :
  Calls Tryz.prog 160 #[.int .u64 x, .int .u64 y] w fun e w' => e = .returned (.int .u64 (gcdI x y)) ∧ Later w w' := by
 obtain ⟨a, rfl⟩ := Int.eq_ofNat_of_zero_le h0
 obtain ⟨b, rfl⟩ := Int.eq_ofNat_of_zero_le h2
 go_enter Tryz.func160, Tryz.ntmps160
 go_wp2
 go_loopw [0, 1] (fun x y wr => ∃ a' b' : Nat, x = .int .u64 a' ∧ y = .int .u64 b' ∧ a' ≤ 18446744073709551615 ∧ b' ≤ 18446744073709551615 ∧ Nat.gcd a' b' = Nat.gcd a b ∧ ∃ n, wr = w.drewN n) (fun _ y _ => (intOf y).toNat)
 case atStart => exact ⟨a, b, rfl, rfl, by omega, by omega, rfl, 0, rfl⟩
 case round =>
  obtain ⟨a', b', rfl, rfl, ha, hb, hg, n, rfl⟩ := hrel
  have HG := Lib.hid hg
  clear hg
  by_cases h0 : b' = 0
  ·subst h0
   go_wp2
   go_ret
   exact ⟨ret_int (by unfold gcdI; rw [Int.gcd_natCast_natCast, ← HG.out]; simp), (Later.refl _).drewN _⟩
  ·go_wp2
   go_quiet (fail)
   go_wp2
   go_roundw
   case rel => exact ⟨b', a' % b', rfl, by simp, hb, by have := Nat.mod_lt a' (show 0 < b' by omega); omega, by rw [← HG.out, Nat.gcd_comm a' b', Nat.gcd_rec b' a', Nat.gcd_comm], _, by simp; rfl⟩
   case measure => simp [intOf]; have := Nat.mod_lt a' (show 0 < b' by omega); omega
theorem or_zero (x y : Int) (h0 : 0 ≤ x) (h1 : x ≤ 18446744073709551615) (h2 : 0 ≤ y) (h3 : y ≤ 18446744073709551615) : (bits BinOp.or IntKind.u64 x y = 0) ↔ (x = 0 ∧ y = 0) := by
 obtain ⟨a, rfl⟩ := Int.eq_ofNat_of_zero_le h0
 obtain ⟨b, rfl⟩ := Int.eq_ofNat_of_zero_le h2
 rw [(bits_nat IntKind.u64 64 (by simp [IntKind.bits]) (fun n h0 h1 => by rw [wrap_u64]; omega) a b (by omega) (by omega)).2]
 simp only [Int.natCast_eq_zero]
 exact Nat.or_eq_zero_iff
set_option maxHeartbeats 400000 in
theorem made_over (h l a b : Int) (neg : Bool) (w : World) (h0 : 0 ≤ h) (h1 : h ≤ 18446744073709551615) (l0 : 0 ≤ l) (l1 : l ≤ 18446744073709551615) (a0 : 0 ≤ a) (a1 : a ≤ 18446744073709551615) (b0 : 0 ≤ b) (b1 : b ≤ 18446744073709551615)
  (hov : ¬ (h = 0 ∧ a = 0 ∧ l < 9223372036854775808 ∧ b < 9223372036854775808)) :
  Calls Tryz.prog 193 #[.agg #[.int .u64 h, .int .u64 l, .bool neg], .agg #[.int .u64 a, .int .u64 b]] w fun e w' => e = .returned (.tuple #[.agg #[.int .i64 0, .int .i64 0], .int .i64 11]) ∧ Later w w' := by
 have o1 := or_zero h a h0 h1 a0 a1
 have o2 := or_zero (l / 9223372036854775808) (b / 9223372036854775808) (by omega) (by omega) (by omega) (by omega)
 generalize hx : bits BinOp.or IntKind.u64 h a = x at *
 generalize hy : bits BinOp.or IntKind.u64 (l / 9223372036854775808) (b / 9223372036854775808) = y at *
 by_cases hx0 : x = 0
 ·have hy0 : ¬ y = 0 := by
   intro hy0
   have := o1.1 hx0
   have := o2.1 hy0
   omega
  have t1 : (x != 0) = false := by simp [hx0]
  have t2 : (y != 0) = true := by simp [hy0]
  clear o1 o2 hx0 hy0
  go_enter Tryz.func193, Tryz.ntmps193
  go_wp2
  exact bodyPost_ret (v := .tuple #[.agg #[.int .i64 0, .int .i64 0], .int .i64 11]) (by simp [results, Tryz.results193, go_sem]) rfl ⟨rfl, (((Later.refl _).alloc _).alloc _).alloc _⟩
 ·have t1 : (x != 0) = true := by simp [hx0]
  clear o1 o2 hx0
  go_enter Tryz.func193, Tryz.ntmps193
  go_wp2
  exact bodyPost_ret (v := .tuple #[.agg #[.int .i64 0, .int .i64 0], .int .i64 11]) (by simp [results, Tryz.results193, go_sem]) rfl ⟨rfl, (((Later.refl _).alloc _).alloc _).alloc _⟩
def signI (s : Bool) (l : Int) : Int := if s then -l else l
set_option maxHeartbeats 400000 in
theorem made_fits (l b : Int) (neg : Bool) (w : World) (l0 : 0 ≤ l) (l1 : l < 9223372036854775808) (b0 : 0 ≤ b) (b1 : b < 9223372036854775808) :
  Calls Tryz.prog 193 #[.agg #[.int .u64 0, .int .u64 l, .bool neg], .agg #[.int .u64 0, .int .u64 b]] w fun e w' => e = .returned (.tuple #[.agg #[.int .i64 (signI neg l), .int .i64 b], .int .i64 0]) ∧ Later w w' := by
 have o1 : bits BinOp.or IntKind.u64 0 0 = 0 := by decide
 have o2 : bits BinOp.or IntKind.u64 (l / 9223372036854775808) (b / 9223372036854775808) = 0 := (or_zero _ _ (by omega) (by omega) (by omega) (by omega)).2 (by omega)
 cases neg
 ·go_enter Tryz.func193, Tryz.ntmps193
  go_wp2
  exact bodyPost_ret (v := .tuple #[.agg #[.int .i64 l, .int .i64 b], .int .i64 0]) (by simp [results, Tryz.results193, go_sem]) rfl ⟨rfl, (((Later.refl _).alloc _).alloc _).alloc _⟩
 ·go_enter Tryz.func193, Tryz.ntmps193
  go_wp2
  exact bodyPost_ret (v := .tuple #[.agg #[.int .i64 (-l), .int .i64 b], .int .i64 0]) (by simp [results, Tryz.results193, go_sem]) rfl ⟨rfl, (((Later.refl _).alloc _).alloc _).alloc _⟩
set_option maxHeartbeats 400000 in
theorem times_any (x y : Int) (w : World) (hx : 0 ≤ x) (hx' : x ≤ 18446744073709551615) (hy : 0 ≤ y) (hy' : y ≤ 18446744073709551615) :
  Calls Tryz.prog 192 #[.int .u64 x, .int .u64 y] w fun e w' => e = .returned (.agg #[.int .u64 (hi64 (x * y)), .int .u64 (lo64 (x * y))]) ∧ Later w w' := by
 go_enter Tryz.func192, Tryz.ntmps192
 go_wp2_with (go_at_call 202; refine (mul64 _ _ _ hx hx' hy hy').mono ?_; rintro e w' ⟨rfl, rfl⟩)
 exact bodyPost_ret (v := .agg #[.int .u64 (hi64 (x * y)), .int .u64 (lo64 (x * y))]) (by simp [results, Tryz.results192, go_sem]) rfl ⟨rfl, (Later.refl _).alloc _⟩
def sgn (a b : Int) : Bool := !(decide (a < 0) == decide (b < 0))
set_option maxHeartbeats 400000 in
theorem cross_any (a b : Int) (w : World) (h1 : -9223372036854775808 ≤ a) (h2 : a ≤ 9223372036854775807) (h3 : -9223372036854775808 ≤ b) (h4 : b ≤ 9223372036854775807) :
  Calls Tryz.prog 176 #[.int .i64 a, .int .i64 b] w fun e w' => e = .returned (.agg #[.int .u64 (hi64 (a.natAbs * b.natAbs)), .int .u64 (lo64 (a.natAbs * b.natAbs)), .bool (sgn a b)]) ∧ Later w w' := by
 go_enter Tryz.func176, Tryz.ntmps176
 go_wp2_with (first | (go_at_call 161; refine (abs_any _ _ (by omega) (by omega)).mono ?_; rintro e w' ⟨rfl, rfl⟩) | (go_at_call 192; refine (times_any _ _ _ (by omega) (by omega) (by omega) (by omega)).mono ?_; rintro e w' ⟨rfl, hb⟩; obtain ⟨hc, hf⟩ := bcell hb))
 exact bodyPost_ret (v := .agg #[.int .u64 (hi64 (a.natAbs * b.natAbs)), .int .u64 (lo64 (a.natAbs * b.natAbs)), .bool (sgn a b)]) (by simp [results, Tryz.results176, go_sem, sgn, hc]) rfl ⟨rfl, by repeat (first | with_reducible (first | exact zq1 _ | assumption | refine zq2 ?_ | refine zq4 ?_ ?_ _ | refine zq5 ?_ _ | refine zq6 ?_ _ | refine zq7 ?_ | refine zq8 ?_ (by assumption)) | (simp only [zq10]; omega) | (simp; done) | (simp; omega))⟩
def lessB (M N : Int) : Bool := decide (M < N)
set_option maxHeartbeats 400000 in
theorem less_any (M N : Int) (w : World) (m0 : 0 ≤ M) (m1 : M ≤ 340282366920938463463374607431768211455) (n0 : 0 ≤ N) (n1 : N ≤ 340282366920938463463374607431768211455) :
  Calls Tryz.prog 194 #[.agg #[.int .u64 (hi64 M), .int .u64 (lo64 M)], .agg #[.int .u64 (hi64 N), .int .u64 (lo64 N)]] w fun e w' => e = .returned (.bool (lessB M N)) ∧ Later w w' := by
 have a1 := lo_bd M
 have a2 := lo_bd N
 have b1 := hi_bd M m0 m1
 have b2 := hi_bd N n0 n1
 have p1 := two_parts M
 have p2 := two_parts N
 unfold two64 at p1 p2
 generalize hi64 M = x at *
 generalize hi64 N = y at *
 generalize lo64 M = x' at *
 generalize lo64 N = y' at *
 by_cases hh : x < y
 ·have H : lessB M N = true := by unfold lessB; simp; omega
  rw [H]
  clear p1 p2 H
  have d1 : decide (x < y) = true := by simpa using hh
  go_enter Tryz.func194, Tryz.ntmps194
  go_wp2
  go_ret
  exact ⟨rfl, ((Later.refl _).alloc _).alloc _⟩
 ·have d1 : decide (x < y) = false := by simpa using hh
  by_cases he : x = y
  ·have H : lessB M N = decide (x' < y') := by unfold lessB; rw [decide_eq_decide]; omega
   rw [H]
   clear p1 p2 H
   subst he
   have d2 : (x == x) = true := by simp
   go_enter Tryz.func194, Tryz.ntmps194
   go_wp2
   go_ret
   exact ⟨rfl, ((Later.refl _).alloc _).alloc _⟩
  ·have H : lessB M N = false := by unfold lessB; simp; omega
   rw [H]
   clear p1 p2 H
   have d2 : (x == y) = false := by simpa using he
   go_enter Tryz.func194, Tryz.ntmps194
   go_wp2
   go_ret
   exact ⟨rfl, ((Later.refl _).alloc _).alloc _⟩
theorem by_sum (M n : Int) (m0 : 0 ≤ M) (n0 : 0 < n) (n1 : n ≤ 18446744073709551615) : two64 (hi64 M / n) (two64 (hi64 M % n) (lo64 M) / n) = M / n ∧ two64 (hi64 M % n) (lo64 M) % n = M % n ∧
  hi64 (M / n) = hi64 M / n ∧ lo64 (M / n) = two64 (hi64 M % n) (lo64 M) / n := by
 have p := two_parts M
 have hn := Int.emod_nonneg (hi64 M) (show n ≠ 0 by omega)
 have hl := Int.emod_lt_of_pos (hi64 M) n0
 have hd := Int.emod_add_mul_ediv (hi64 M) n
 have ll := lo_bd M
 have dq := dq_bd hn hl ll.1 ll.2
 have de := Int.emod_add_mul_ediv (two64 (hi64 M % n) (lo64 M)) n
 generalize hi64 M = H at *
 generalize lo64 M = L at *
 generalize hq : H / n = q at *
 generalize hr : H % n = r at *
 generalize hq2 : two64 r L / n = q2 at *
 generalize hr2 : two64 r L % n = r2 at *
 have E : M = n * two64 q q2 + r2 := by
  rw [← p]
  unfold two64 at *
  rw [Int.mul_add, ← Int.mul_assoc]
  generalize n * q = A at *
  generalize n * q2 = B at *
  omega
 have U := (Int.ediv_emod_unique (a := M) (b := n) (r := r2) (q := two64 q q2) n0).2 ⟨by omega, dq.2.2.1, dq.2.2.2⟩
 refine ⟨U.1.symm, U.2.symm, ?_, ?_⟩
 ·rw [U.1]; unfold hi64 two64; omega
 ·rw [U.1]; unfold lo64 two64; omega
set_option maxHeartbeats 1000000 in
theorem by_any (M n : Int) (w : World) (m0 : 0 ≤ M) (m1 : M ≤ 340282366920938463463374607431768211455) (n0 : 0 < n) (n1 : n ≤ 18446744073709551615) :
  Calls Tryz.prog 223 #[.agg #[.int .u64 (hi64 M), .int .u64 (lo64 M)], .int .u64 n] w fun e w' => e = .returned (.tuple #[.agg #[.int .u64 (hi64 (M / n)), .int .u64 (lo64 (M / n))], .int .u64 (M % n)]) ∧ Later w w' := by
 obtain ⟨-, e2, e3, e4⟩ := by_sum M n m0 n0 n1
 rw [e3, e4, ← e2]
 clear e2 e3 e4
 have a1 := lo_bd M
 have b1 := hi_bd M m0 m1
 have hn := Int.emod_nonneg (hi64 M) (show n ≠ 0 by omega)
 have hl := Int.emod_lt_of_pos (hi64 M) n0
 have dq := dq_bd hn hl a1.1 a1.2
 have hq0 : 0 ≤ hi64 M / n := Int.ediv_nonneg b1.1 (by omega)
 have hq1 : hi64 M / n ≤ 18446744073709551615 := Int.le_trans (Int.ediv_le_self _ b1.1) b1.2
 generalize hi64 M = x at *
 generalize lo64 M = y at *
 go_enter Tryz.func223, Tryz.ntmps223
 go_wp2
 refine wp_region_plan 10 (.done [0, 1, 2, 3, 4, 5, 6, 7, 8, 9]) (by kernel_rfl) (by kernel_rfl) (fun _ _ d _ _ h => by cases d <;> exact h) ?_
 repeat' (first
  | (refine plan_done (fun K hK => ?_); (first | (simp only [zq9]; repeat (go_big_quiet_step (fail))) | simp only [pick_nil]); refine wpQuiet_nil (hK _ ?_); clear hK K)
  | ((with_reducible refine at_list ?_); go_wp2_with (fail); first | refine behind_store (t := 10) (by decide) ?_ | refine behind (by with_reducible repeat (first | exact zq1 _ | assumption | refine zq2 ?_ | refine zq5 ?_ _ | refine zq6 ?_ _ | refine zq7 ?_ | refine zq8 ?_ (by assumption))) ?_))
 go_wp2_with (go_at_call 203; refine (div64 _ _ _ _ (by omega) (by omega) (by omega) (by omega) (by omega)).mono ?_; rintro e w' ⟨rfl, hb⟩; obtain ⟨hc, hf⟩ := bcell hb)
 exact bodyPost_ret (v := .tuple #[.agg #[.int .u64 (x / n), .int .u64 (two64 (x % n) y / n)], .int .u64 (two64 (x % n) y % n)]) (by simp [results, Tryz.results223, go_sem, hc]) rfl ⟨rfl, by repeat (first | with_reducible (first | exact zq1 _ | assumption | refine zq2 ?_ | refine zq4 ?_ ?_ _ | refine zq5 ?_ _ | refine zq6 ?_ _ | refine zq7 ?_ | refine zq8 ?_ (by assumption)) | (simp only [zq10]; omega) | (simp; done) | (simp; omega))⟩
def plusM (M : Int) (s : Bool) (N : Int) (u : Bool) : Int := if s = u then M + N else if M < N then N - M else M - N
def plusS (M : Int) (s : Bool) (N : Int) (u : Bool) : Bool := if s = u then s else if M < N then u else s
theorem plus_bd {M N : Int} (s u : Bool) (m0 : 0 ≤ M) (n0 : 0 ≤ N) : 0 ≤ plusM M s N u ∧ plusM M s N u ≤ M + N := by
 unfold plusM; split
 ·omega
 ·split <;> omega
theorem plus_signed {M N : Int} (s u : Bool) : signI (plusS M s N u) (plusM M s N u) = signI s M + signI u N := by
 unfold signI plusS plusM
 cases s <;> cases u <;> simp <;> (try split) <;> (try simp) <;> omega
theorem add_words (M N : Int) (h : 0 ≤ M) (h' : 0 ≤ N) (hs : M + N ≤ 340282366920938463463374607431768211455) : lo64 (lo64 M + lo64 N) = lo64 (M + N) ∧ lo64 (hi64 M + hi64 N + hi64 (lo64 M + lo64 N)) = hi64 (M + N) := by
 unfold lo64 hi64; omega
theorem sub_words (M N : Int) (h : 0 ≤ N) (h' : N ≤ M) (hs : M ≤ 340282366920938463463374607431768211455) : lo64 (lo64 M - lo64 N) = lo64 (M - N) ∧ lo64 (hi64 M - hi64 N - bor (lo64 M) (lo64 N)) = hi64 (M - N) := by
 unfold lo64 hi64 bor; split <;> omega
theorem plus_alloc {w : World} (a b c : Array Value) (t : TypeId) : Later w (((w.alloc (.cells a t)).alloc (.cells b t)).alloc (.cells c t)) := (((Later.refl w).alloc _).alloc _).alloc _
set_option maxHeartbeats 1000000 in
theorem plus_same (M N : Int) (s : Bool) (w : World) (m0 : 0 ≤ M) (n0 : 0 ≤ N) (h : M + N ≤ 340282366920938463463374607431768211455) :
  Calls Tryz.prog 177 #[.agg #[.int .u64 (hi64 M), .int .u64 (lo64 M), .bool s], .agg #[.int .u64 (hi64 N), .int .u64 (lo64 N), .bool s]] w fun e w' => e = .returned (.agg #[.int .u64 (hi64 (M + N)), .int .u64 (lo64 (M + N)), .bool s]) ∧ Later w w' := by
 obtain ⟨e1, e2⟩ := add_words M N m0 n0 h
 obtain ⟨a1, a2⟩ := lo_bd M
 obtain ⟨b1, b2⟩ := lo_bd N
 obtain ⟨c1, c2⟩ := hi_bd M m0 (by omega)
 obtain ⟨d1, d2⟩ := hi_bd N n0 (by omega)
 have k : 0 ≤ hi64 (lo64 M + lo64 N) ∧ hi64 (lo64 M + lo64 N) ≤ 1 := by unfold hi64; omega
 obtain ⟨k1, k2⟩ := k
 have ts : (s == s) = true := by simp
 rw [← e2, ← e1]
 clear e1 e2 h m0 n0
 go_enter Tryz.func177, Tryz.ntmps177
 go_wp2_with (first | simp only [add64_0 (lo64 M) (lo64 N) a1 a2 b1 b2] | simp only [add64 (hi64 M) (hi64 N) _ c1 c2 d1 d2 k1 k2])
 exact bodyPost_ret (v := .agg #[.int .u64 (lo64 (hi64 M + hi64 N + hi64 (lo64 M + lo64 N))), .int .u64 (lo64 (lo64 M + lo64 N)), .bool s]) (by simp [results, Tryz.results177, go_sem]) rfl ⟨rfl, plus_alloc _ _ _ _⟩
set_option maxHeartbeats 1000000 in
theorem plus_less (M N : Int) (s u : Bool) (w : World) (m0 : 0 ≤ M) (n1 : N ≤ 340282366920938463463374607431768211455) (hl : M < N) (hsu : (s == u) = false) :
  Calls Tryz.prog 177 #[.agg #[.int .u64 (hi64 M), .int .u64 (lo64 M), .bool s], .agg #[.int .u64 (hi64 N), .int .u64 (lo64 N), .bool u]] w fun e w' => e = .returned (.agg #[.int .u64 (hi64 (N - M)), .int .u64 (lo64 (N - M)), .bool u]) ∧ Later w w' := by
 obtain ⟨e1, e2⟩ := sub_words N M m0 (by omega) n1
 obtain ⟨a1, a2⟩ := lo_bd M
 obtain ⟨b1, b2⟩ := lo_bd N
 obtain ⟨c1, c2⟩ := hi_bd M m0 (by omega)
 obtain ⟨d1, d2⟩ := hi_bd N (by omega) (by omega)
 obtain ⟨k1, k2⟩ := bor_bd (lo64 N) (lo64 M)
 have L := fun w => less_any M N w m0 (by omega) (by omega) n1
 have el : lessB M N = true := by unfold lessB; simpa using hl
 rw [el] at L
 have HL := Lib.hid L
 rw [← e2, ← e1]
 clear e1 e2 n1 m0 L el hl
 go_enter Tryz.func177, Tryz.ntmps177
 go_upto_region 6 with (first | simp only [sub64_0 (lo64 N) (lo64 M) b1 b2 a1 a2] | simp only [sub64 (hi64 N) (hi64 M) _ d1 d2 c1 c2 k1 k2] | (go_at_call 194; refine (HL.out _).mono ?_; rintro e w' ⟨rfl, hb⟩; obtain ⟨hc, hf⟩ := bcell hb))
 go_cut [] (fun wx => Later w wx ∧ (wx.cell? ⟨w.heap.size, 0, none⟩ = some (.int .u64 (hi64 N)) ∧ wx.cell? ⟨w.heap.size, 1, none⟩ = some (.int .u64 (lo64 N)) ∧ wx.cell? ⟨w.heap.size, 2, none⟩ = some (.bool u)) ∧
  (wx.cell? ⟨w.heap.size + 1, 0, none⟩ = some (.int .u64 (hi64 M)) ∧ wx.cell? ⟨w.heap.size + 1, 1, none⟩ = some (.int .u64 (lo64 M)) ∧ wx.cell? ⟨w.heap.size + 1, 2, none⟩ = some (.bool s)) ∧
  (wx.cell? ⟨w.heap.size + 1 + 1, 0, none⟩ = some (.int .u64 0) ∧ wx.cell? ⟨w.heap.size + 1 + 1, 1, none⟩ = some (.int .u64 0) ∧ wx.cell? ⟨w.heap.size + 1 + 1, 2, none⟩ = some (.bool false)) ∧ (∀ o, wx.frozen? ⟨w.heap.size + 1 + 1, o, none⟩ = false))
 case first =>
  have k0 : w'.cell? ⟨w.heap.size, 0, none⟩ = some (.int .u64 (hi64 M)) := by rw [hc _ _ (by simp only [World.size_alloc]; omega)]; simp [go_sem]
  have k1 : w'.cell? ⟨w.heap.size, 1, none⟩ = some (.int .u64 (lo64 M)) := by rw [hc _ _ (by simp only [World.size_alloc]; omega)]; simp [go_sem]
  have k2 : w'.cell? ⟨w.heap.size, 2, none⟩ = some (.bool s) := by rw [hc _ _ (by simp only [World.size_alloc]; omega)]; simp [go_sem]
  go_wp2_with fail
  go_meet
  refine ⟨by repeat (first | with_reducible (first | exact zq1 _ | assumption | refine zq2 ?_ | refine zq4 ?_ ?_ _ | refine zq5 ?_ _ | refine zq6 ?_ _ | refine zq7 ?_ | refine zq8 ?_ (by assumption)) | (simp only [zq10]; omega) | (simp; done) | (simp; omega)), ⟨?_, ?_, ?_⟩, ⟨?_, ?_, ?_⟩, ⟨?_, ?_, ?_⟩, fun o => ?_⟩
  all_goals
   simp [go_sem, k0, k1, k2, hc, hf]
 case rest =>
  obtain ⟨hL, ⟨q0, q1, q2⟩, ⟨r0, r1, r2⟩, ⟨z0, z1, z2⟩, hz⟩ := hcut
  clear hb hc hf
  go_wp2_with (first | simp only [sub64_0 (lo64 N) (lo64 M) b1 b2 a1 a2] | simp only [sub64 (hi64 N) (hi64 M) _ d1 d2 c1 c2 k1 k2] | (go_at_call 194; refine (HL.out _).mono ?_; rintro e w' ⟨rfl, hb⟩; obtain ⟨hc, hf⟩ := bcell hb))
  exact bodyPost_ret (v := .agg #[.int .u64 (lo64 (hi64 N - hi64 M - bor (lo64 N) (lo64 M))), .int .u64 (lo64 (lo64 N - lo64 M)), .bool u]) (by simp [results, Tryz.results177, go_sem, z0, z1, z2]) rfl ⟨rfl, by repeat (first | with_reducible (first | exact zq1 _ | assumption | refine zq2 ?_ | refine zq4 ?_ ?_ _ | refine zq5 ?_ _ | refine zq6 ?_ _ | refine zq7 ?_ | refine zq8 ?_ (by assumption)) | (simp only [zq10]; omega) | (simp; done) | (simp; omega))⟩
set_option maxHeartbeats 1000000 in
theorem plus_more (M N : Int) (s u : Bool) (w : World) (n0 : 0 ≤ N) (m1 : M ≤ 340282366920938463463374607431768211455) (hl : N ≤ M) (hsu : (s == u) = false) :
  Calls Tryz.prog 177 #[.agg #[.int .u64 (hi64 M), .int .u64 (lo64 M), .bool s], .agg #[.int .u64 (hi64 N), .int .u64 (lo64 N), .bool u]] w fun e w' => e = .returned (.agg #[.int .u64 (hi64 (M - N)), .int .u64 (lo64 (M - N)), .bool s]) ∧ Later w w' := by
 obtain ⟨e1, e2⟩ := sub_words M N n0 (by omega) m1
 obtain ⟨a1, a2⟩ := lo_bd M
 obtain ⟨b1, b2⟩ := lo_bd N
 obtain ⟨c1, c2⟩ := hi_bd M (by omega) (by omega)
 obtain ⟨d1, d2⟩ := hi_bd N (by omega) (by omega)
 obtain ⟨k1, k2⟩ := bor_bd (lo64 M) (lo64 N)
 have L := fun w => less_any M N w (by omega) (by omega) (by omega) (by omega)
 have el : lessB M N = false := by unfold lessB; simpa using hl
 rw [el] at L
 have HL := Lib.hid L
 rw [← e2, ← e1]
 clear e1 e2 m1 n0 L el hl
 go_enter Tryz.func177, Tryz.ntmps177
 go_wp2_with (first | simp only [sub64_0 (lo64 M) (lo64 N) a1 a2 b1 b2] | simp only [sub64 (hi64 M) (hi64 N) _ c1 c2 d1 d2 k1 k2] | (go_at_call 194; refine (HL.out _).mono ?_; rintro e w' ⟨rfl, hb⟩; obtain ⟨hc, hf⟩ := bcell hb))
 exact bodyPost_ret (v := .agg #[.int .u64 (lo64 (hi64 M - hi64 N - bor (lo64 M) (lo64 N))), .int .u64 (lo64 (lo64 M - lo64 N)), .bool s]) (by simp [results, Tryz.results177, go_sem, hc]) rfl ⟨rfl, by repeat (first | with_reducible (first | exact zq1 _ | assumption | refine zq2 ?_ | refine zq4 ?_ ?_ _ | refine zq5 ?_ _ | refine zq6 ?_ _ | refine zq7 ?_ | refine zq8 ?_ (by assumption)) | (simp only [zq10]; omega) | (simp; done) | (simp; omega))⟩
theorem plus_any (M N : Int) (s u : Bool) (w : World) (m0 : 0 ≤ M) (n0 : 0 ≤ N) (h : M + N ≤ 340282366920938463463374607431768211455) :
  Calls Tryz.prog 177 #[.agg #[.int .u64 (hi64 M), .int .u64 (lo64 M), .bool s], .agg #[.int .u64 (hi64 N), .int .u64 (lo64 N), .bool u]] w fun e w' => e = .returned (.agg #[.int .u64 (hi64 (plusM M s N u)), .int .u64 (lo64 (plusM M s N u)), .bool (plusS M s N u)]) ∧ Later w w' := by
 unfold plusM plusS
 by_cases hs : s = u
 ·subst hs
  simp only [if_true]
  exact plus_same M N s w m0 n0 h
 ·have hs' : (s == u) = false := by simpa using hs
  simp only [hs, if_false]
  by_cases hl : M < N
  ·simp only [hl, if_true]
   exact plus_less M N s u w m0 (by omega) hl hs'
  ·simp only [hl, if_false]
   exact plus_more M N s u w n0 (by omega) (by omega) hs'
end Go.Proofs.YtkjabiabeemfhaaGreatDoor
end
