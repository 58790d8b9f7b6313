/- slices.Compact at waits; waits and flows are compared -/
import Derived.Test.YtkjabiabeemfhaaGreatDoorZ17
import Derived.Test.YtkjabiabeemfhaaGreatDoorZ16
import Derived.Test.YtkjabiabeemfhaaGreatDoorZ21
import Derived.Test.YtkjabiabeemfhaaGreatDoorZ20
import Derived.Test.YtkjabiabeemfhaaGreatDoorZ15
import Derived.Lib.SliceRun
import Derived.Deep.LoopGhost
set_option linter.all false
set_option linter.all false
section
namespace Go.Proofs.YtkjabiabeemfhaaGreatDoor
open Go.RowKit
set_option maxRecDepth 100000
namespace C
section
variable {α : Type} {sz : Nat} {f : α → Nat → Value} {w : World} {v : Value} {xs : List α}
theorem cellsAt (h : IsRow sz f w v xs) (cs : α → List Value) (hcs : ∀ x, (cs x).length = sz) (hf : ∀ x j, j < sz → (cs x)[j]? = some (f x j)) (hsz : 0 < sz) (h0 : v ≠ .slice none 0 0) :
  ∃ ad cap, v = .slice (some ad) xs.length cap ∧ xs.length ≤ maxLen ∧ ∀ W, Later w W → ∀ j u, (xs.flatMap cs)[j]? = some u → W.cell? (ad.add j) = some u := by
 rcases h with ⟨⟨p, h1⟩, h2⟩ | ⟨b, o, cap, h1, h2, h3, h4, h5⟩
 ·subst h2
  cases p with
  | none => exact absurd h1 h0
  | some ad => exact ⟨ad, 0, h1, by simp, fun W _ j u hj => by simp at hj⟩
 ·refine ⟨⟨b, o, none⟩, cap, h1, Nat.le_trans h3 h4, fun W hl j u hj => ?_⟩
  have hjl : j < (xs.flatMap cs).length := (List.getElem?_eq_some_iff.1 hj).1
  rw [flat_len cs hcs] at hjl
  have hi : j / sz < xs.length := by rw [Nat.div_lt_iff_lt_mul hsz]; exact hjl
  have hm := Nat.mod_lt j hsz
  have e : j = j / sz * sz + j % sz := by rw [Nat.mul_comm]; exact (Nat.div_add_mod j sz).symm
  have e2 := h5 (j / sz) hi (j % sz) hm
  have e3 := ((bcell hl).1 _ _ h2).trans e2
  rw [add_plain, ← hj]
  rw [e, flat_get cs hcs xs (j / sz) hi (j % sz) hm, hf _ _ hm, ← Nat.add_assoc]
  exact e3
theorem wpList_appA {P : Program} {w0 w : World} {e sz : Nat} {v : Value} {n : Nat} {xs : List Value} {ops : Array Oper} {rest : List Oper} {o : Oper} {a : Act} {Q : Exit → Act → World → Prop} {t bytes : Nat} (T : SliceOf P t e sz bytes) (hM : Mine w0 e sz w v n xs) (hgd : o.guard = none) (s x : Operand)
  (ho : o.op = .call { callee := .builtin .append, args := #[s, x], argTypes := #[t, t] }) (hs : a.eval s = v)
  (ad : Addr) (m c : Nat) (news : List Value) (hx : a.eval x = .slice (some ad) m c) (hl : news.length = m * sz) (hc : ∀ j u, news[j]? = some u → w.cell? (ad.add j) = some u) (h1 : ∀ u ∈ news, u.oneCell' = true)
  (h63 : (n + m) * bytes ≤ 140737488355328) (h64 : n + m ≤ maxLen)
  (h : ∀ v' w', Mine w0 e sz w' v' (n + m) (xs ++ news) → w.grownBy w' v.ownBlock → wpList P ops Q rest (a.put o.dst v') w') : wpList P ops Q (o :: rest) a w := by
 obtain ⟨i, z, t1, t2, t3, t4, t5, t6, t7⟩ := T
 exact wpList_append_own _ hgd s x t ho w0.heap.size e i z sz bytes t1 t2 t3 t4 t5 t6 t7 v n xs hs hM.1 ad m c news hx hl hc h1 h64 h63 (Later.size hM.2) (fun v' w' h1' h2' _ => h v' w' ⟨h1', Later.grown hM.2 h2' (fun k hk => (hM.1.lt k hk).1)⟩ h2')
end
end C
def hdF (x : Hd) : Nat → Value
 | 0 => .int .i64 x.pl
 | 1 => .int .i64 x.day
 | 2 => .int .i64 x.n
 | _ => .int .i64 x.d
theorem hdCs_get (x : Hd) (j : Nat) (hj : j < 4) : (hdCs x)[j]? = some (hdF x j) := by
 rcases j with _ | _ | _ | _ | j
 ·rfl
 ·rfl
 ·rfl
 ·rfl
 ·omega
theorem hdCs_one (x : Hd) : ∀ u ∈ hdCs x, u.oneCell' = true := by
 intro u hu
 simp only [hdCs, List.mem_cons, List.not_mem_nil, or_false] at hu
 rcases hu with rfl | rfl | rfl | rfl <;> rfl
abbrev IsHeld (w : World) (v : Value) (l : List Hd) : Prop := IsRow 4 hdF w v l
set_option maxHeartbeats 1600000 in
theorem clone_held (xs : List Hd) (hlen : xs.length ≤ 100000) (v : Value) (w : World) (hN : IsHeld w v xs) :
  Calls Tryz.prog 82 #[v] w fun e w' => ∃ v', e = .returned v' ∧ IsHeld w' v' xs ∧ B.Que w.heap.size 4 w' v' xs.length (xs.flatMap hdCs) ∧ Later w w' := by
 have hcs : ∀ x, (hdCs x).length = 4 := fun _ => rfl
 suffices hm : Calls Tryz.prog 82 #[v] w fun e w' => ∃ v', e = .returned v' ∧ Mine w 167 4 w' v' xs.length (xs.flatMap hdCs) from
  hm.mono (fun e w' ⟨v', h1, h2⟩ => ⟨v', h1, (h2.row_ hdCs hcs hdCs_get (by decide)).1, B.que_of_owns h2.1, h2.lat⟩)
 by_cases h0 : v = .slice none 0 0
 ·have hx : xs = [] := by
   rcases hN with h | ⟨b, o, cap, h, _⟩
   ·exact h.2
   ·rw [h0] at h; cases h
  subst hx h0
  have he : ∀ W : World, (binOp .eql 168 (.slice none 0 0) (.slice none 0 0)).run Tryz.prog W = .ok (.bool true) W := fun _ => rfl
  go_enter Tryz.func82, Tryz.ntmps82
  go_wp2
  go_ret
  exact ⟨_, rfl, Mine.nil (by repeat (first | with_reducible (first | exact zq1 _ | assumption | refine zq2 ?_ | refine zq4 ?_ ?_ _ | refine zq5 ?_ _ | refine zq6 ?_ _ | refine zq7 ?_ | refine zq8 ?_ (by assumption)) | (simp only [zq10]; omega) | (simp; done) | (simp; omega)))⟩
 ·obtain ⟨ad, cap, rfl, hl, hC⟩ := C.cellsAt (f := hdF) hN hdCs hcs hdCs_get (by decide) h0
  have hC := Lib.hid hC
  have h1 : ∀ u ∈ xs.flatMap hdCs, u.oneCell' = true := fun u hu => by
   obtain ⟨x, hx, hu⟩ := List.mem_flatMap.1 hu
   exact hdCs_one x u hu
  have h1 := Lib.hid h1
  have hF := Lib.hid (flat_len hdCs hcs xs)
  clear h0 hN
  generalize xs.length = L at *
  generalize xs.flatMap hdCs = cells at *
  have he : ∀ W : World, (binOp .eql 168 (.slice (some ad) L cap) (.slice none 0 0)).run Tryz.prog W = .ok (.bool false) W := fun _ => rfl
  go_enter Tryz.func82, Tryz.ntmps82
  go_wp2_with (at_builtin; go_must (refine C.wpList_appA sliceHeld (Mine.lit (n := 0) (cur := #[]) (Later.refl w) rfl (by decide)) rfl _ _ rfl rfl ad L cap cells rfl hF.out (hC.out _ ((Later.refl _).alloc _)) h1.out (by omega) (by unfold maxLen; omega) ?_; intro v5 w5 hM5 hg5; obtain ⟨p5, cp5, rfl⟩ := hM5.form))
  go_ret
  exact ⟨_, rfl, by simpa using hM5⟩
set_option maxHeartbeats 1600000 in
theorem clone_waits (xs : List Wt) (hlen : xs.length ≤ 100000) (v : Value) (w : World) (hN : IsWaits w v xs) :
  Calls Tryz.prog 89 #[v] w fun e w' => ∃ v', e = .returned v' ∧ IsWaits w' v' xs ∧ B.Que w.heap.size 3 w' v' xs.length (xs.flatMap wtCs) ∧ Later w w' := by
 have hcs : ∀ x, (wtCs x).length = 3 := fun _ => rfl
 suffices hm : Calls Tryz.prog 89 #[v] w fun e w' => ∃ v', e = .returned v' ∧ Mine w 46 3 w' v' xs.length (xs.flatMap wtCs) from
  hm.mono (fun e w' ⟨v', h1, h2⟩ => ⟨v', h1, (h2.row_ wtCs hcs wtCs_get (by decide)).1, B.que_of_owns h2.1, h2.lat⟩)
 by_cases h0 : v = .slice none 0 0
 ·have hx : xs = [] := by
   rcases hN with h | ⟨b, o, cap, h, _⟩
   ·exact h.2
   ·rw [h0] at h; cases h
  subst hx h0
  have he : ∀ W : World, (binOp .eql 34 (.slice none 0 0) (.slice none 0 0)).run Tryz.prog W = .ok (.bool true) W := fun _ => rfl
  go_enter Tryz.func89, Tryz.ntmps89
  go_wp2
  go_ret
  exact ⟨_, rfl, Mine.nil (by repeat (first | with_reducible (first | exact zq1 _ | assumption | refine zq2 ?_ | refine zq4 ?_ ?_ _ | refine zq5 ?_ _ | refine zq6 ?_ _ | refine zq7 ?_ | refine zq8 ?_ (by assumption)) | (simp only [zq10]; omega) | (simp; done) | (simp; omega)))⟩
 ·obtain ⟨ad, cap, rfl, hl, hC⟩ := C.cellsAt (f := wtF) hN wtCs hcs wtCs_get (by decide) h0
  have hC := Lib.hid hC
  have h1 : ∀ u ∈ xs.flatMap wtCs, u.oneCell' = true := fun u hu => by
   obtain ⟨x, hx, hu⟩ := List.mem_flatMap.1 hu
   exact wtCs_one x u hu
  have h1 := Lib.hid h1
  have hF := Lib.hid (flat_len wtCs hcs xs)
  clear h0 hN
  generalize xs.length = L at *
  generalize xs.flatMap wtCs = cells at *
  have he : ∀ W : World, (binOp .eql 34 (.slice (some ad) L cap) (.slice none 0 0)).run Tryz.prog W = .ok (.bool false) W := fun _ => rfl
  go_enter Tryz.func89, Tryz.ntmps89
  go_wp2_with (at_builtin; go_must (refine C.wpList_appA sliceWait (Mine.lit (n := 0) (cur := #[]) (Later.refl w) rfl (by decide)) rfl _ _ rfl rfl ad L cap cells rfl hF.out (hC.out _ ((Later.refl _).alloc _)) h1.out (by omega) (by unfold maxLen; omega) ?_; intro v5 w5 hM5 hg5; obtain ⟨p5, cp5, rfl⟩ := hM5.form))
  go_ret
  exact ⟨_, rfl, by simpa using hM5⟩
set_option maxHeartbeats 1600000 in
theorem clone_nodes (xs : List Nd) (hlen : xs.length ≤ 100000) (v : Value) (w : World) (hN : IsNodes w v xs) :
  Calls Tryz.prog 81 #[v] w fun e w' => ∃ v', e = .returned v' ∧ IsNodes w' v' xs ∧ B.Que w.heap.size 5 w' v' xs.length (xs.flatMap ndCs) ∧ Later w w' := by
 have hcs : ∀ x, (ndCs x).length = 5 := fun _ => rfl
 suffices hm : Calls Tryz.prog 81 #[v] w fun e w' => ∃ v', e = .returned v' ∧ Mine w 61 5 w' v' xs.length (xs.flatMap ndCs) from
  hm.mono (fun e w' ⟨v', h1, h2⟩ => ⟨v', h1, (h2.row_ ndCs hcs ndCs_cell (by decide)).1, B.que_of_owns h2.1, h2.lat⟩)
 by_cases h0 : v = .slice none 0 0
 ·have hx : xs = [] := by
   rcases hN with h | ⟨b, o, cap, h, _⟩
   ·exact h.2
   ·rw [h0] at h; cases h
  subst hx h0
  have he : ∀ W : World, (binOp .eql 22 (.slice none 0 0) (.slice none 0 0)).run Tryz.prog W = .ok (.bool true) W := fun _ => rfl
  go_enter Tryz.func81, Tryz.ntmps81
  go_wp2
  go_ret
  exact ⟨_, rfl, Mine.nil (by repeat (first | with_reducible (first | exact zq1 _ | assumption | refine zq2 ?_ | refine zq4 ?_ ?_ _ | refine zq5 ?_ _ | refine zq6 ?_ _ | refine zq7 ?_ | refine zq8 ?_ (by assumption)) | (simp only [zq10]; omega) | (simp; done) | (simp; omega)))⟩
 ·obtain ⟨ad, cap, rfl, hl, hC⟩ := C.cellsAt (f := fun (y : Nd) j => .int .i64 (y.cell j)) hN ndCs hcs ndCs_cell (by decide) h0
  have hC := Lib.hid hC
  have h1 : ∀ u ∈ xs.flatMap ndCs, u.oneCell' = true := fun u hu => by
   obtain ⟨x, hx, hu⟩ := List.mem_flatMap.1 hu
   exact ndCs_cells x u hu
  have h1 := Lib.hid h1
  have hF := Lib.hid (flat_len ndCs hcs xs)
  clear h0 hN
  generalize xs.length = L at *
  generalize xs.flatMap ndCs = cells at *
  have he : ∀ W : World, (binOp .eql 22 (.slice (some ad) L cap) (.slice none 0 0)).run Tryz.prog W = .ok (.bool false) W := fun _ => rfl
  go_enter Tryz.func81, Tryz.ntmps81
  go_wp2_with (at_builtin; go_must (refine C.wpList_appA sliceNode (Mine.lit (n := 0) (cur := #[]) (Later.refl w) rfl (by decide)) rfl _ _ rfl rfl ad L cap cells rfl hF.out (hC.out _ ((Later.refl _).alloc _)) h1.out (by omega) (by unfold maxLen; omega) ?_; intro v5 w5 hM5 hg5; obtain ⟨p5, cp5, rfl⟩ := hM5.form))
  go_ret
  exact ⟨_, rfl, by simpa using hM5⟩
theorem nodes_lat {w w' : World} {v : Value} {ts : List Nd} {Z : Nat → Prop} (h : IsNodes w v ts) (hL : S.LatB Z w w') (hZ : ∀ k, v.ownBlock = some k → ¬ Z k) : IsNodes w' v ts := by
 rcases h with h | ⟨b, o, cap, h1, h2, h3, h4, h5⟩
 ·exact .inl h
 ·refine .inr ⟨b, o, cap, h1, Nat.lt_of_lt_of_le h2 hL.size, h3, h4, fun i hi j hj => ?_⟩
  rw [hL.cell h2 (hZ b (by rw [h1]; rfl))]
  exact h5 i hi j hj
structure RunAt (w : World) (b : Nat) (ts : List Nd) (tv lv wv : Value) (s : RunS) : Prop where
 own : Own w [(b, #[tv, lv, .int .i64 s.day, wv])]
 nodes : IsNodes w tv ts
 held : IsHeld w lv s.L
 waits : IsWaits w wv s.W
 tb : tv.ownBlock ≠ some b
 lb : lv.ownBlock ≠ some b
 wb : wv.ownBlock ≠ some b
def RunB (b : Nat) (tv lv wv : Value) (k : Nat) : Prop := k = b ∨ tv.ownBlock = some k ∨ lv.ownBlock = some k ∨ wv.ownBlock = some k
section
variable {w w' : World} {b : Nat} {ts : List Nd} {tv lv wv : Value} {s : RunS}
theorem RunAt.later (h : RunAt w b ts tv lv wv s) (hl : Later w w') : RunAt w' b ts tv lv wv s := ⟨h.own.later hl, h.nodes.later hl, h.held.later hl, h.waits.later hl, h.tb, h.lb, h.wb⟩
end
set_option maxHeartbeats 800000 in
theorem rday_any {w : World} {b : Nat} {ts : List Nd} {tv lv wv : Value} {s : RunS} (h : RunAt w b ts tv lv wv s) : Calls Tryz.prog 40 #[.pointer (some ⟨b, 0, none⟩)] w fun e w' => e = .returned (.int .i64 s.day) ∧ Later w w' := by
 obtain ⟨d, hd⟩ : ∃ d, s.day = d := ⟨_, rfl⟩
 obtain ⟨⟨z, c, -⟩, -⟩ := id h.own
 rw [hd] at c ⊢
 have c2 : w.cell? ⟨b, 2, none⟩ = some (.int .i64 d) := c 2
 clear h c hd
 go_enter Tryz.func40, Tryz.ntmps40
 go_wp2
 go_ret
 exact ⟨rfl, by repeat (first | with_reducible (first | exact zq1 _ | assumption | refine zq2 ?_ | refine zq4 ?_ ?_ _ | refine zq5 ?_ _ | refine zq6 ?_ _ | refine zq7 ?_ | refine zq8 ?_ (by assumption)) | (simp only [zq10]; omega) | (simp; done) | (simp; omega))⟩
set_option maxHeartbeats 800000 in
theorem rover_any {w : World} {b : Nat} {ts : List Nd} {tv lv wv : Value} {s : RunS} (h : RunAt w b ts tv lv wv s) : Calls Tryz.prog 41 #[.pointer (some ⟨b, 0, none⟩)] w fun e w' => e = .returned (.bool (decide (s.L = []))) ∧ Later w w' := by
 obtain ⟨⟨z, c, -⟩, -⟩ := id h.own
 obtain ⟨p, cp, rfl⟩ := h.held.form
 obtain ⟨n, hn⟩ : ∃ n, s.L.length = n := ⟨_, rfl⟩
 rw [hn] at c
 have c1 : w.cell? ⟨b, 1, none⟩ = some (.slice p n cp) := c 1
 obtain ⟨r, hr⟩ : ∃ r, decide (s.L = []) = r := ⟨_, rfl⟩
 have hrn : r = ((n : Int) == 0) := by
  rw [← hr, ← hn]
  cases s.L <;> simp
  omega
 rw [hr]
 clear h c hn hr
 rcases Nat.eq_zero_or_pos n with h0 | h0
 ·subst h0
  have HR : Hid (r = true) := Lib.hid (by rw [hrn]; rfl)
  clear hrn
  go_enter Tryz.func41, Tryz.ntmps41
  go_wp2
  go_ret
  exact ⟨by rw [HR.out]; rfl, by repeat (first | with_reducible (first | exact zq1 _ | assumption | refine zq2 ?_ | refine zq4 ?_ ?_ _ | refine zq5 ?_ _ | refine zq6 ?_ _ | refine zq7 ?_ | refine zq8 ?_ (by assumption)) | (simp only [zq10]; omega) | (simp; done) | (simp; omega))⟩
 ·have hne : ((n : Int) == 0) = false := by rw [beq_eq_false_iff_ne]; omega
  have HR : Hid (r = false) := Lib.hid (by rw [hrn]; exact hne)
  clear hrn
  go_enter Tryz.func41, Tryz.ntmps41
  go_wp2
  go_ret
  exact ⟨by rw [HR.out]; rfl, by repeat (first | with_reducible (first | exact zq1 _ | assumption | refine zq2 ?_ | refine zq4 ?_ ?_ _ | refine zq5 ?_ _ | refine zq6 ?_ _ | refine zq7 ?_ | refine zq8 ?_ (by assumption)) | (simp only [zq10]; omega) | (simp; done) | (simp; omega))⟩
set_option maxHeartbeats 800000 in
theorem rwaits_any {w : World} {b : Nat} {ts : List Nd} {tv lv wv : Value} {s : RunS} (h : RunAt w b ts tv lv wv s) (hlen : s.W.length ≤ 100000) : Calls Tryz.prog 43 #[.pointer (some ⟨b, 0, none⟩)] w fun e w' => ∃ v', e = .returned v' ∧ IsWaits w' v' s.W ∧ Later w w' := by
 obtain ⟨⟨z, c, -⟩, -⟩ := id h.own
 obtain ⟨p, cp, rfl⟩ := h.waits.form
 have HCL := Lib.hid (clone_waits s.W hlen _ w h.waits)
 obtain ⟨n, hn⟩ : ∃ n, s.W.length = n := ⟨_, rfl⟩
 rw [hn] at c HCL
 have c3 : w.cell? ⟨b, 3, none⟩ = some (.slice p n cp) := c 3
 clear h c
 go_enter Tryz.func43, Tryz.ntmps43
 go_wp2_with (go_at_call 89; go_must (refine HCL.out.mono ?_; rintro e w1 ⟨v1, rfl, hw1, -, hb1⟩))
 go_ret
 exact ⟨_, rfl, hw1, hb1⟩
set_option maxHeartbeats 1600000 in
theorem rnew_wrong (ts : List Nd) (hlen : ts.length ≤ 100000) (hok : ∀ x ∈ ts, x.ok) (tv : Value) (day : Int) (w : World) (hS : Shapes w) (hN : IsNodes w tv ts) (h0 : ctE ts ≠ 0) :
  Calls Tryz.prog 35 #[tv, .int .i64 day] w fun e w' => e = .returned (.tuple #[.pointer none, .int .i64 (ctE ts)]) ∧ Later w w' := by
 have HC := Lib.hid (fun W (hl : Later w W) => tcheck_any ts hlen hok tv W (hS.later hl) (hN.later hl))
 obtain ⟨E, hE⟩ : ∃ E, ctE ts = E := ⟨_, rfl⟩
 rw [hE] at HC h0 ⊢
 have he1 : (E == 0) = false := by simpa using h0
 have he2 : (E != 0) = true := by simpa using h0
 clear hS hN hE h0 hok
 go_enter Tryz.func35, Tryz.ntmps35
 go_wp2_with (go_at_call 80; go_must (refine (HC.out _ (by repeat (first | with_reducible (first | exact zq1 _ | assumption | refine zq2 ?_ | refine zq4 ?_ ?_ _ | refine zq5 ?_ _ | refine zq6 ?_ _ | refine zq7 ?_ | refine zq8 ?_ (by assumption)) | (simp only [zq10]; omega) | (simp; done) | (simp; omega)))).mono ?_; rintro e w1 ⟨rfl, hb1⟩))
 go_ret2
 exact ⟨rfl, hb1⟩
set_option maxHeartbeats 1600000 in
theorem rnew_day (ts : List Nd) (hlen : ts.length ≤ 100000) (hok : ∀ x ∈ ts, x.ok) (tv : Value) (day : Int) (w : World) (hS : Shapes w) (hN : IsNodes w tv ts) (h0 : ctE ts = 0) (hd : day < 0 ∨ 73048 < day) :
  Calls Tryz.prog 35 #[tv, .int .i64 day] w fun e w' => e = .returned (.tuple #[.pointer none, .int .i64 18]) ∧ Later w w' := by
 have HC := Lib.hid (fun W (hl : Later w W) => tcheck_any ts hlen hok tv W (hS.later hl) (hN.later hl))
 rw [h0] at HC
 clear hS hN h0 hok
 by_cases h1 : day < 0
 ·clear hd
  go_enter Tryz.func35, Tryz.ntmps35
  go_wp2_with (go_at_call 80; go_must (refine (HC.out _ (by repeat (first | with_reducible (first | exact zq1 _ | assumption | refine zq2 ?_ | refine zq4 ?_ ?_ _ | refine zq5 ?_ _ | refine zq6 ?_ _ | refine zq7 ?_ | refine zq8 ?_ (by assumption)) | (simp only [zq10]; omega) | (simp; done) | (simp; omega)))).mono ?_; rintro e w1 ⟨rfl, hb1⟩))
  go_ret2
  exact ⟨rfl, hb1⟩
 ·have h2 : 73048 < day := by omega
  clear hd
  go_enter Tryz.func35, Tryz.ntmps35
  go_wp2_with (go_at_call 80; go_must (refine (HC.out _ (by repeat (first | with_reducible (first | exact zq1 _ | assumption | refine zq2 ?_ | refine zq4 ?_ ?_ _ | refine zq5 ?_ _ | refine zq6 ?_ _ | refine zq7 ?_ | refine zq8 ?_ (by assumption)) | (simp only [zq10]; omega) | (simp; done) | (simp; omega)))).mono ?_; rintro e w1 ⟨rfl, hb1⟩))
  go_ret2
  exact ⟨rfl, hb1⟩
theorem held_lit {w w' : World} {ta tb : TypeId} {A : Array Value} {T : Tm} (day : Int) (h : Later ((w.alloc (.cells #[.int .i64 0, .int .i64 day, .int .i64 1, .int .i64 1] ta)).alloc (.cells A tb)) w') : IsHeld w' (.slice (some ⟨w.heap.size, 0, none⟩) 1 1) [⟨T, 0, day, 1, 1⟩] := by
 obtain ⟨z, hc, -⟩ := own_get (Own.one (w := w) (A := #[.int .i64 0, .int .i64 day, .int .i64 1, .int .i64 1]) (((Later.refl _).alloc _).trans h))
 refine .inr ⟨w.heap.size, 0, 1, rfl, z, Nat.le_refl _, by unfold maxLen; simp, fun i hi j hj => ?_⟩
 obtain rfl : i = 0 := by simpa using hi
 rw [Nat.zero_mul, Nat.add_zero, Nat.zero_add, hc j]
 rcases j with _ | _ | _ | _ | j
 ·rfl
 ·rfl
 ·rfl
 ·rfl
 ·omega
set_option maxHeartbeats 1600000 in
theorem rnew_good (ts : List Nd) (T : Tm) (hG : Good ts T) (hm : makesI T.root.op = 2) (hok : ∀ x ∈ ts, x.ok) (tv : Value) (day : Int) (w : World) (hS : Shapes w) (hN : IsNodes w tv ts) (hd0 : 0 ≤ day) (hd1 : day ≤ 73048) :
  Calls Tryz.prog 35 #[tv, .int .i64 day] w fun e w' => ∃ b tv' lv' wv', e = .returned (.tuple #[.pointer (some ⟨b, 0, none⟩), .int .i64 0]) ∧ RunAt w' b ts tv' lv' wv' (newR T day) ∧ (∀ k, RunB b tv' lv' wv' k → w.heap.size ≤ k ∧ k < w'.heap.size) ∧ Later w w' := by
 have hlen : ts.length ≤ 100000 := Nat.le_trans hG.len (by decide)
 have HC := Lib.hid (fun W (hl : Later w W) => tcheck_any ts hlen hok tv W (hS.later hl) (hN.later hl))
 rw [ct_of_good hG hm] at HC
 have HCL := Lib.hid (fun W (hl : Later w W) => clone_nodes ts hlen tv W (hN.later hl))
 have n1 : ¬ day < 0 := by omega
 have n2 : ¬ 73048 < day := by omega
 clear hS hN hok hm hG hd0 hd1
 go_enter Tryz.func35, Tryz.ntmps35
 go_wp2_with (first
  | (go_at_call 80; go_must (refine (HC.out _ (by repeat (first | with_reducible (first | exact zq1 _ | assumption | refine zq2 ?_ | refine zq4 ?_ ?_ _ | refine zq5 ?_ _ | refine zq6 ?_ _ | refine zq7 ?_ | refine zq8 ?_ (by assumption)) | (simp only [zq10]; omega) | (simp; done) | (simp; omega)))).mono ?_; rintro e w1 ⟨rfl, hb1⟩))
  | (go_at_call 81; go_must (refine (HCL.out _ hb1).mono ?_; rintro e w2 ⟨v2, rfl, hn2, hq2, hb2⟩; obtain ⟨p2, c2, rfl⟩ := hn2.form; have HN2 := Lib.hid hn2; have HQ2 := Lib.hid hq2; clear hn2 hq2)))
 go_ret2
 have hl : Later ((w2.alloc (.cells #[.int .i64 0, .int .i64 day, .int .i64 1, .int .i64 1] 167)).alloc (.cells #[.slice p2 ts.length c2, .slice (some ⟨w2.heap.size, 0, none⟩) 1 1, .int .i64 (-1), .slice none 0 0] 170)) ((w2.alloc (.cells #[.int .i64 0, .int .i64 day, .int .i64 1, .int .i64 1] 167)).alloc (.cells #[.slice p2 ts.length c2, .slice (some ⟨w2.heap.size, 0, none⟩) 1 1, .int .i64 (-1), .slice none 0 0] 170)) := Later.refl _
 have hO := Own.two hl
 have h1 := hb1.size
 have h2 := hb2.size
 refine ⟨w2.heap.size + 1, .slice p2 ts.length c2, .slice (some ⟨w2.heap.size, 0, none⟩) 1 1, .slice none 0 0, by simp, ⟨Own.cons hO.2.1.1 hO.2.1.2.1 hO.2.1.2.2 trivial, HN2.out.later hl.un1.un1, held_lit day hl, .inl ⟨⟨none, rfl⟩, rfl⟩, fun e => ?_, fun e => ?_, fun e => by simp [Value.ownBlock] at e⟩, fun k hk => ?_, (hb1.trans hb2).trans hl.un1.un1⟩
 ·have := (HQ2.out.lo _ e).2; omega
 ·simp [Value.ownBlock] at e
 ·rcases hk with rfl | hk | hk | hk
  ·simp only [World.size_alloc]; omega
  ·have := HQ2.out.lo _ hk; simp only [World.size_alloc]; omega
  ·simp [Value.ownBlock] at hk; simp only [World.size_alloc]; omega
  ·simp [Value.ownBlock] at hk
end Go.Proofs.YtkjabiabeemfhaaGreatDoor
end
section
namespace Go.Proofs.YtkjabiabeemfhaaGreatDoor
open Go.RowKit Go.Sort
set_option maxHeartbeats 1600000 in
theorem sorderF_any (x y : Fl) (W : World) : Calls Tryz.prog 86 #[.agg (flCs x).toArray, .agg (flCs y).toArray] W fun e w' => e = .returned (.int .i64 (ordF x y)) ∧ ∃ q os', w' = grow (W.drewN q) os' := by
 obtain ⟨R, hR⟩ : ∃ R, ordF x y = R := ⟨_, rfl⟩
 rw [hR]
 unfold ordF at hR
 have HR := Lib.hid hR
 clear hR
 obtain ⟨a, ha⟩ : ∃ a, Lib.compareInt x.day y.day = a := ⟨_, rfl⟩
 obtain ⟨b, hb⟩ : ∃ b, Lib.compareInt x.cur y.cur = b := ⟨_, rfl⟩
 obtain ⟨c, hc⟩ : ∃ c, Lib.compareInt x.amt y.amt = c := ⟨_, rfl⟩
 rw [ha, hb, hc] at HR
 have H1 := Lib.hid (fun W => ha ▸ Tryz.cmp_Compare_int x.day y.day W)
 have H2 := Lib.hid (fun W => hb ▸ Tryz.cmp_Compare_int x.cur y.cur W)
 have H3 := Lib.hid (fun W => hc ▸ Tryz.cmp_Compare_int x.amt y.amt W)
 have HO := Lib.hid (fun (v : Value) W (h : IsInts W v [a, b, c]) => cmpOr_any [a, b, c] (by simp) v W h)
 rw [HR.out] at HO
 obtain ⟨x1, x2, x3⟩ := x
 obtain ⟨y1, y2, y3⟩ := y
 show Calls Tryz.prog 86 #[.agg #[.int .i64 x1, .int .i64 x2, .int .i64 x3], .agg #[.int .i64 y1, .int .i64 y2, .int .i64 y3]] W _
 simp only at H1 H2 H3
 clear ha hb hc HR
 have tok1 : True := trivial
 have tok2 : True := trivial
 go_enter Tryz.func86, Tryz.ntmps86
 go_upto_region 1 with (fail)
 refine wp_region_plan 18 (.one [0, 1, 2, 3, 5, 6, 7, 8, 10, 11, 12, 13] 4 (.one [] 9 (.one [] 14 (.one [] 15 (.one [] 16 (.done [17])))))) (by kernel_rfl) (by kernel_rfl) (fun _ _ d _ _ h => by cases d <;> exact h) ?_
 repeat' (first
  | ((first | refine plan_done (fun K hK => ?_) | refine plan_one (by rfl) (fun K hK => ?_)); (first | (simp only [zq9]; repeat (go_big_quiet_step (fail))) | simp only [pick_nil]); refine wpQuiet_nil (hK _ ?_); clear hK K)
  | ((with_reducible refine at_list ?_); go_wp2_with (first | (go_at_call 53; first | ((with_reducible refine (H1.out _).mono ?_); rintro e w3 ⟨rfl, rfl⟩) | ((with_reducible refine (H2.out _).mono ?_); rintro e w3 ⟨rfl, rfl⟩) | ((with_reducible refine (H3.out _).mono ?_); rintro e w3 ⟨rfl, rfl⟩)) | (go_at_call 52; go_must (refine (HO.out _ _ (ints3 a b c (by simp))).mono ?_; rintro e w9 ⟨rfl, rfl⟩))); first | refine behind_store (t := 18) (by decide) ?_ | refine behind (by with_reducible repeat (first | exact zq1 _ | assumption | refine zq2 ?_ | refine zq5 ?_ _ | refine zq6 ?_ _ | refine zq7 ?_ | refine zq8 ?_ (by assumption))) ?_))
 go_wp2
 go_ret
 exact ⟨rfl, 1, _, by rw [alloc_eq_grow, alloc_eq_grow, alloc_eq_grow, grow_grow, grow_grow]; rfl⟩
set_option maxHeartbeats 400000 in
theorem sflag_any (b : Bool) (w : World) : Calls Tryz.prog 85 #[.bool b] w fun e w' => e = .returned (.int .i64 (bI b)) ∧ w' = w := by
 cases b
 all_goals
  go_enter Tryz.func85, Tryz.ntmps85
  go_wp2
  go_ret
  exact ⟨rfl, rfl⟩
set_option maxHeartbeats 1600000 in
theorem sorderW_any (x y : Wt) (W : World) : Calls Tryz.prog 84 #[.agg (wtCs x).toArray, .agg (wtCs y).toArray] W fun e w' => e = .returned (.int .i64 (ordW x y)) ∧ ∃ q os', w' = grow (W.drewN q) os' := by
 obtain ⟨R, hR⟩ : ∃ R, ordW x y = R := ⟨_, rfl⟩
 rw [hR]
 unfold ordW at hR
 have HR := Lib.hid hR
 clear hR
 obtain ⟨p, hp⟩ : ∃ p, bI x.cho = p := ⟨_, rfl⟩
 obtain ⟨q, hq⟩ : ∃ p, bI y.cho = p := ⟨_, rfl⟩
 rw [hp, hq] at HR
 obtain ⟨a, ha⟩ : ∃ a, Lib.compareInt x.day y.day = a := ⟨_, rfl⟩
 obtain ⟨b, hb⟩ : ∃ b, Lib.compareInt p q = b := ⟨_, rfl⟩
 obtain ⟨c, hc⟩ : ∃ c, Lib.compareInt x.key y.key = c := ⟨_, rfl⟩
 rw [ha, hb, hc] at HR
 have H1 := Lib.hid (fun W => ha ▸ Tryz.cmp_Compare_int x.day y.day W)
 have H2 := Lib.hid (fun W => hb ▸ Tryz.cmp_Compare_int p q W)
 have H3 := Lib.hid (fun W => hc ▸ Tryz.cmp_Compare_int x.key y.key W)
 have H4 := Lib.hid (fun W => hp ▸ sflag_any x.cho W)
 have H5 := Lib.hid (fun W => hq ▸ sflag_any y.cho W)
 have HO := Lib.hid (fun (v : Value) W (h : IsInts W v [a, b, c]) => cmpOr_any [a, b, c] (by simp) v W h)
 rw [HR.out] at HO
 obtain ⟨x1, x2, x3⟩ := x
 obtain ⟨y1, y2, y3⟩ := y
 show Calls Tryz.prog 84 #[.agg #[.bool x1, .int .i64 x2, .int .i64 x3], .agg #[.bool y1, .int .i64 y2, .int .i64 y3]] W _
 simp only at H1 H2 H3 H4 H5
 clear ha hb hc HR hp hq
 go_enter Tryz.func84, Tryz.ntmps84
 go_upto_region 1 with (fail)
 refine wp_region_plan 20 (.one [0, 1, 2, 3, 5, 6, 8, 9, 12, 13, 14, 15] 4 (.one [] 7 (.one [] 10 (.one [] 11 (.one [] 16 (.one [] 17 (.one [] 18 (.done [19])))))))) (by kernel_rfl) (by kernel_rfl) (fun _ _ d _ _ h => by cases d <;> exact h) ?_
 repeat' (first
  | ((first | refine plan_done (fun K hK => ?_) | refine plan_one (by rfl) (fun K hK => ?_)); (first | (simp only [zq9]; repeat (go_big_quiet_step (fail))) | simp only [pick_nil]); refine wpQuiet_nil (hK _ ?_); clear hK K)
  | ((with_reducible refine at_list ?_); go_wp2_with (first | (go_at_call 53; first | ((with_reducible refine (H1.out _).mono ?_); rintro e w3 ⟨rfl, rfl⟩) | ((with_reducible refine (H2.out _).mono ?_); rintro e w3 ⟨rfl, rfl⟩) | ((with_reducible refine (H3.out _).mono ?_); rintro e w3 ⟨rfl, rfl⟩)) | (go_at_call 85; first | ((with_reducible refine (H4.out _).mono ?_); rintro e w3 ⟨rfl, rfl⟩) | ((with_reducible refine (H5.out _).mono ?_); rintro e w3 ⟨rfl, rfl⟩)) | (go_at_call 52; go_must (refine (HO.out _ _ (ints3 a b c (by simp))).mono ?_; rintro e w9 ⟨rfl, rfl⟩))); first | refine behind_store (t := 20) (by decide) ?_ | refine behind (by with_reducible repeat (first | exact zq1 _ | assumption | refine zq2 ?_ | refine zq5 ?_ _ | refine zq6 ?_ _ | refine zq7 ?_ | refine zq8 ?_ (by assumption))) ?_))
 all_goals
  go_wp2
  go_ret
  exact ⟨rfl, 1, _, by rw [alloc_eq_grow, alloc_eq_grow, alloc_eq_grow, grow_grow, grow_grow]; rfl⟩
theorem sort_sflows (l : List Fl) (hlen : l.length ≤ 1000000) (base : Nat) (v : Value) (w : World) (hQ : B.Que base 3 w v l.length (l.flatMap flCs)) :
  Calls Tryz.prog 48 #[v, .func (.func 86) #[] #[]] w fun e w' => e = .returned (.tuple #[]) ∧ B.Que base 3 w' v l.length ((sortL ordF l).flatMap flCs) ∧ S.LatB (fun b => v.ownBlock = some b) w w' :=
 sort_que Tryz.sortFlow 3 Tryz.isAgg50 Tryz.sizeOf50 flCs flCs_len (by decide) flCs_one ordF swoF totF 86 (enters_of Tryz.func86 (by kernel_rfl) rfl) sorderF_any l hlen base v w hQ
theorem sort_swaits (l : List Wt) (hlen : l.length ≤ 1000000) (base : Nat) (v : Value) (w : World) (hQ : B.Que base 3 w v l.length (l.flatMap wtCs)) :
  Calls Tryz.prog 50 #[v, .func (.func 84) #[] #[]] w fun e w' => e = .returned (.tuple #[]) ∧ B.Que base 3 w' v l.length ((sortL ordW l).flatMap wtCs) ∧ S.LatB (fun b => v.ownBlock = some b) w w' :=
 sort_que Tryz.sortWait 3 Tryz.isAgg46 Tryz.sizeOf46 wtCs wtCs_len (by decide) wtCs_one ordW swoW totW 84 (enters_of Tryz.func84 (by kernel_rfl) rfl) sorderW_any l hlen base v w hQ
end Go.Proofs.YtkjabiabeemfhaaGreatDoor
end
section
namespace Go.Proofs.YtkjabiabeemfhaaGreatDoor
open Go.RowKit
set_option maxRecDepth 100000
theorem wt_eq (b c : Bool) (a1 a2 b1 b2 : Int) (W : World) : (Op.equalIn 10000 46 (.agg #[.bool b, .int .i64 a1, .int .i64 a2]) (.agg #[.bool c, .int .i64 b1, .int .i64 b2])).run Tryz.prog W = .ok (decide ((⟨b, a1, a2⟩ : Wt) = (⟨c, b1, b2⟩ : Wt))) W := by
 have hS : Tryz.prog.underlying 46 = some (.struct (Tryz.prog.fieldsOf 46)) := by kernel_rfl
 have hp : Tryz.prog.stoodInHeld 46 = false := by kernel_rfl
 have u3 := Tryz.underlying3
 have ia3 := Tryz.isAgg3
 have z3 := Tryz.sizeOf3
 have u4 := Tryz.underlying4
 have ia4 := Tryz.isAgg4
 have z4 := Tryz.sizeOf4
 rw [show (10000 : Nat) = 9999 + 1 from rfl, run_equalIn_agg W 9999 46 _ _ hS hp]
 simp only [Program.fieldsOf, Tryz.underlying46]
 go_simp
 by_cases h0 : b = c <;> simp [h0]
 by_cases h1 : a1 = b1 <;> simp [h1]
 by_cases h2 : a2 = b2 <;> simp [h2]
theorem wt_eql (b c : Bool) (a1 a2 b1 b2 : Int) (W : World) : (binOp .eql 46 (.agg #[.bool b, .int .i64 a1, .int .i64 a2]) (.agg #[.bool c, .int .i64 b1, .int .i64 b2])).run Tryz.prog W = .ok (.bool (decide ((⟨b, a1, a2⟩ : Wt) = (⟨c, b1, b2⟩ : Wt)))) W := by
 rw [run_eql_struct, wt_eq]; rfl
theorem wt_neq (b c : Bool) (a1 a2 b1 b2 : Int) (W : World) : (binOp .neq 46 (.agg #[.bool b, .int .i64 a1, .int .i64 a2]) (.agg #[.bool c, .int .i64 b1, .int .i64 b2])).run Tryz.prog W = .ok (.bool (!decide ((⟨b, a1, a2⟩ : Wt) = (⟨c, b1, b2⟩ : Wt)))) W := by
 rw [run_neq_struct, wt_eq]; rfl
theorem wait_from (b o L cp k : Nat) (hk : k < L) (hc : L ≤ cp) (W : World) : (Instr.slice 34 (.slice (some ⟨b, o, none⟩) L cp) (some (.int .i64 (k : Int))) none none).run Tryz.prog W = .ok (.slice (some ⟨b, o + k * 3, none⟩) (L - k) (cp - k)) W := by
 rw [run_slice_l _ _ _ _ _ (by kernel_rfl) _ _ (by omega) (by omega)]
 have e : (sizeOf (Tryz.prog.elem 34)).run Tryz.prog W = .ok 3 W := by kernel_rfl
 rw [e]
 simp only [Result.andThen, sliced, Int.toNat_natCast]
 rw [if_neg (by omega)]
 simp only [Option.map]; rw [add_plain]
theorem wait_upto (b o L cp k : Nat) (hk : k ≤ cp) (W : World) : (Instr.slice 34 (.slice (some ⟨b, o, none⟩) L cp) none (some (.int .i64 (k : Int))) none).run Tryz.prog W = .ok (.slice (some ⟨b, o, none⟩) k cp) W := by
 rw [run_slice_h _ _ _ _ _ (by kernel_rfl) _ _ (by omega) (by omega)]
 have e : (sizeOf (Tryz.prog.elem 34)).run Tryz.prog W = .ok 3 W := by kernel_rfl
 rw [e]
 simp only [Result.andThen, sliced, Int.toNat_natCast, Nat.zero_mul, Nat.sub_zero]
 split
 ·rfl
 ·simp only [Option.map]; rw [add_plain]; rfl
theorem zero_wait (w : World) : (zeroValue 46).run Tryz.prog w = .ok (.agg #[.bool false, .int .i64 0, .int .i64 0]) w := by kernel_rfl
theorem clear_wait (w : World) (ty : TypeId) (b o n c : Nat) (hn : 0 < n) (hc : ∀ j, j < n * 3 → (w.cell? ⟨b, o + j, none⟩).isSome = true) (hf : ∀ j, j < n * 3 → w.frozen? ⟨b, o + j, none⟩ = false) :
  ∃ vs : List Value, vs.length = n * 3 ∧ (Builtin.clear_ #[34] ty #[.slice (some ⟨b, o, none⟩) n c]).run Tryz.prog w = .ok (.tuple #[]) (w.setCells b o vs) := by
 obtain ⟨z, hz⟩ : ∃ z : Array Value, z = (Value.agg #[.bool false, .int .i64 0, .int .i64 0]).cells := ⟨_, rfl⟩
 have hz3 : z.size = 3 := by rw [hz]; rfl
 have hlen : (Builtin.zeroCells z n).toList.length = n * 3 := by simp [Builtin.zeroCells, hz3]
 have hone : ∀ v ∈ (Builtin.zeroCells z n).toList, v.oneCell' = true := by
  intro v hv
  simp only [Builtin.zeroCells, Array.toList_map, List.mem_map] at hv
  obtain ⟨i, _, rfl⟩ := hv
  have hi := Nat.mod_lt i (show 0 < z.size by omega)
  rw [hz3] at hi ⊢
  rw [hz]
  have : i % 3 = 0 ∨ i % 3 = 1 ∨ i % 3 = 2 := by omega
  rcases this with h | h | h <;> rw [h] <;> rfl
 have hst := run_storeCells_cells (P := Tryz.prog) b o (Builtin.zeroCells z n).toList 0 w (by rw [hlen]; simpa using hc) (by rw [hlen]; simpa using hf) hone
 simp only [Nat.add_zero] at hst
 refine ⟨(Builtin.zeroCells z n).toList, hlen, ?_⟩
 obtain ⟨m, rfl⟩ : ∃ m, n = m + 1 := ⟨n - 1, by omega⟩
 rw [hz] at hst ⊢
 simp [Builtin.clear_, run_underlying Tryz.underlying34, zero_wait, hst]
namespace B
theorem Que.put {α : Type} {sz base : Nat} {w : World} {g o n cap : Nat} {M : List α} {cs : α → List Value} (hcs : ∀ x, (cs x).length = sz) (h : Que base sz w (.slice (some ⟨g, o, none⟩) n cap) n (M.flatMap cs)) (hM : M.length = n) {i : Nat} (hi : i < n) (x : α) :
  Que base sz (w.setCells g (o + i * sz) (cs x)) (.slice (some ⟨g, o, none⟩) n cap) n ((M.set i x).flatMap cs) := by
 refine ⟨by rw [flat_len (sz := sz) cs hcs, List.length_set, hM], ?_⟩
 rcases h.2 with ⟨h1, _⟩ | ⟨g', o', cap', h1, h2, h3, h4, h5, h6, h7⟩
 ·cases h1
 ·cases h1
  obtain ⟨p1, p2, p3, p4⟩ := plain_setCells g (cs x) (o + i * sz) w
  have hle : (i + 1) * sz ≤ n * sz := Nat.mul_le_mul_right sz hi
  rw [Nat.succ_mul] at hle
  have hcap : n * sz ≤ cap * sz := Nat.mul_le_mul_right sz h4
  have hin : ∀ j, j < (cs x).length → (w.cell? ⟨g, o + i * sz + j, Option.none⟩).isSome = true := fun j hj => by
   rw [hcs] at hj
   have := (h7 (i * sz + j) (by omega)).1
   rwa [← Nat.add_assoc] at this
  have key : ∀ j, j < n * sz → ((M.set i x).flatMap cs)[j]? = if i * sz ≤ j ∧ j < i * sz + sz then (cs x)[j - i * sz]? else (M.flatMap cs)[j]? := by
   intro j hj
   have hsz : 0 < sz := by
    rcases Nat.eq_zero_or_pos sz with h | h
    ·rw [h] at hj; simp at hj
    ·exact h
   have hq : j / sz < n := by rw [Nat.div_lt_iff_lt_mul hsz]; exact hj
   have hm := Nat.mod_lt j hsz
   have e : j = j / sz * sz + j % sz := by rw [Nat.mul_comm]; exact (Nat.div_add_mod j sz).symm
   have g1 := flat_get cs hcs (M.set i x) (j / sz) (by rw [List.length_set, hM]; exact hq) (j % sz) hm
   have g2 := flat_get cs hcs M (j / sz) (by rw [hM]; exact hq) (j % sz) hm
   rw [← e] at g1 g2
   rw [g1, g2, List.getElem_set]
   by_cases hji : i = j / sz
   ·subst hji
    rw [if_pos rfl, if_pos (by omega)]
    congr 1
    omega
   ·rw [if_neg hji, if_neg]
    rintro ⟨a, b⟩
    apply hji
    have : j / sz = i := by
     rw [Nat.div_eq_of_lt_le (by omega) (by rw [Nat.succ_mul]; omega)]
    exact this.symm
  refine .inr ⟨g, o, cap, rfl, h2, by rw [p4]; exact h3, h4, h5, fun j hj => ?_, fun j hj => ⟨?_, ?_⟩⟩
  ·rw [key j hj]
   by_cases hji : i * sz ≤ j ∧ j < i * sz + sz
   ·rw [if_pos hji]
    have := World.cell?_setCells_in g (cs x) (o + i * sz) w hin (j - i * sz) (by rw [hcs]; omega)
    rw [show o + i * sz + (j - i * sz) = o + j by omega] at this
    rw [this, List.getElem?_eq_getElem (by rw [hcs]; omega)]
   ·rw [if_neg hji, World.cell?_setCells_out g (cs x) (o + i * sz) w ⟨g, o + j, Option.none⟩ (fun _ _ => by
     rw [hcs]
     by_cases h : j < i * sz
     ·exact .inl (by show o + j < _; omega)
     ·exact .inr (by show _ ≤ o + j; omega)), h6 j hj]
  ·by_cases hji : i * sz ≤ j ∧ j < i * sz + sz
   ·have := World.cell?_setCells_in g (cs x) (o + i * sz) w hin (j - i * sz) (by rw [hcs]; omega)
    rw [show o + i * sz + (j - i * sz) = o + j by omega] at this
    rw [this]; rfl
   ·rw [World.cell?_setCells_out g (cs x) (o + i * sz) w ⟨g, o + j, Option.none⟩ (fun _ _ => by
     rw [hcs]
     by_cases h : j < i * sz
     ·exact .inl (by show o + j < _; omega)
     ·exact .inr (by show _ ≤ o + j; omega))]
    exact (h7 j hj).1
  ·rw [World.frozen?_setCells]; exact (h7 j hj).2
theorem Que.upto {sz base : Nat} {w : World} {g o n cap : Nat} {xs : List Value} (h : Que base sz w (.slice (some ⟨g, o, none⟩) n cap) n xs) {k : Nat} (hk : k ≤ n) (vs : List Value) (hvs : vs.length = (n - k) * sz) :
  Que base sz (w.setCells g (o + k * sz) vs) (.slice (some ⟨g, o, none⟩) k cap) k (xs.take (k * sz)) := by
 have hle : k * sz ≤ n * sz := Nat.mul_le_mul_right sz hk
 refine ⟨by rw [List.length_take, h.1]; omega, ?_⟩
 rcases h.2 with ⟨h1, _⟩ | ⟨g', o', cap', h1, h2, h3, h4, h5, h6, h7⟩
 ·cases h1
 ·cases h1
  obtain ⟨p1, p2, p3, p4⟩ := plain_setCells g vs (o + k * sz) w
  have hcap : n * sz ≤ cap * sz := Nat.mul_le_mul_right sz h4
  rw [Nat.sub_mul] at hvs
  have hin : ∀ j, j < vs.length → (w.cell? ⟨g, o + k * sz + j, Option.none⟩).isSome = true := fun j hj => by
   have := (h7 (k * sz + j) (by omega)).1
   rwa [← Nat.add_assoc] at this
  refine .inr ⟨g, o, cap, rfl, h2, by rw [p4]; exact h3, by omega, h5, fun j hj => ?_, fun j hj => ⟨?_, ?_⟩⟩
  ·rw [World.cell?_setCells_out g vs (o + k * sz) w ⟨g, o + j, Option.none⟩ (fun _ _ => .inl (by show o + j < _; omega)), h6 j (by omega), List.getElem?_take, if_pos hj]
  ·by_cases hji : k * sz ≤ j ∧ j < k * sz + vs.length
   ·have := World.cell?_setCells_in g vs (o + k * sz) w hin (j - k * sz) (by omega)
    rw [show o + k * sz + (j - k * sz) = o + j by omega] at this
    rw [this]; rfl
   ·rw [World.cell?_setCells_out g vs (o + k * sz) w ⟨g, o + j, Option.none⟩ (fun _ _ => by
     by_cases h : j < k * sz
     ·exact .inl (by show o + j < _; omega)
     ·exact .inr (by show _ ≤ o + j; omega))]
    exact (h7 j hj).1
  ·rw [World.frozen?_setCells]; exact (h7 j hj).2
theorem lat_setCells {Z : Nat → Prop} {a w : World} (h : S.LatB Z a w) {g o : Nat} (hg : Z g) (vs : List Value) : S.LatB Z a (w.setCells g o vs) := by
 obtain ⟨p1, p2, p3, p4⟩ := plain_setCells g vs o w
 exact h.trans ⟨p1, p2, p3, by rw [p4]; exact Nat.le_refl _, fun k _ hs => heap_setCells g vs o w k (fun e => hs (by rw [e]; exact hg))⟩
end B
end Go.Proofs.YtkjabiabeemfhaaGreatDoor
end
