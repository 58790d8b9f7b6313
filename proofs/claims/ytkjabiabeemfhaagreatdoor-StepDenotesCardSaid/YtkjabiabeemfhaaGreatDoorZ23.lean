/- step: what a go of a place ends with -/
import Derived.Test.YtkjabiabeemfhaaGreatDoorZ22
import Derived.Test.YtkjabiabeemfhaaGreatDoorZ8
import Derived.Test.YtkjabiabeemfhaaGreatDoorZ17
import Derived.Test.YtkjabiabeemfhaaGreatDoorZ19
import Derived.Test.YtkjabiabeemfhaaGreatDoorZ21
import Derived.Test.YtkjabiabeemfhaaGreatDoorZ14
set_option linter.all false
set_option linter.all false
section
namespace Go.Proofs.YtkjabiabeemfhaaGreatDoor
open Go.RowKit Go.Sort
attribute [local go_sem] Oper.semAt_some
set_option maxHeartbeats 400000 in
theorem values_make (p : Option Addr) (L cp : Nat) (w : World) :
  Calls Tryz.prog 196 #[.slice p L cp] w fun e w' => e = .returned (.func (.func 204) #[] #[.pointer (some ⟨w.heap.size, 0, none⟩)]) ∧
   w' = w.alloc (.cells #[.slice p L cp] 297) := by
 have hmf : ∀ (fn : Fn) (first cap : Array Value) (w : World), (Instr.makeFunc fn first cap).run Tryz.prog w = .ok (.func fn first cap) w := fun _ _ _ _ => rfl
 go_enter Tryz.func196, Tryz.ntmps196
 go_wp2
 go_ret
 exact ⟨rfl, rfl⟩
set_option maxHeartbeats 800000 in
theorem choices_any (fx : FxL) (ch : ChL) (hlen : ch.length ≤ 100000) (p m1 m2 : Nat) (w : World) (hF : FactsAt w p m1 m2 fx ch) :
  Calls Tryz.prog 178 #[.pointer (some ⟨p, 0, none⟩)] w fun e w' => ∃ b v, e = .returned (.func (.func 204) #[] #[.pointer (some ⟨b, 0, none⟩)]) ∧
   Own w' [(b, #[v])] ∧ IsRow 3 (chF ch) w' v (sortL ordP (ch.map (·.1))) ∧ w.heap.size ≤ b ∧ Later w w' := by
 have hc1 := hF.c1
 have HA := Lib.hid (fun W (hl : Later w W) => all_any ch hlen m2 W (hF.later hl).x2)
 clear hF
 go_enter Tryz.func178, Tryz.ntmps178
 go_wp2_with (first | (go_at_call 197; go_must (refine (HA.out _ (by repeat (first | with_reducible (first | exact zq1 _ | assumption | refine zq2 ?_ | refine zq4 ?_ ?_ _ | refine zq5 ?_ _ | refine zq6 ?_ _ | refine zq7 ?_ | refine zq8 ?_ (by assumption)) | (simp only [zq10]; omega) | (simp; done) | (simp; omega)))).mono ?_; rintro e w2 ⟨v, rfl, hR, hb2⟩; have HR := Lib.hid hR; obtain ⟨q, cq, rfl⟩ := hR.form; clear hR)) | (go_at_call 196; go_must (refine (values_make _ _ _ _).mono ?_; rintro e w3 ⟨rfl, rfl⟩)))
 go_ret
 exact ⟨_, _, rfl, own_alloc _ _ _, HR.out.later ((Later.refl _).alloc _), hb2.size, hb2.alloc _⟩
set_option maxHeartbeats 2000000 in
theorem values_run (ch : ChL) (Y : List (Int × Int)) (hlen : Y.length ≤ 100000) (n Bt n₀ ll : Nat) (v : Value) (w₁ : World) (h1 : w₁.heap.size = n₀) (hR : IsRow 3 (chF ch) w₁ v Y) (J Jx : List (Fin Y.length) → World → Prop) (W : World) (hJ : AbidesFrom W.heap.size J)
  (hY : ∀ pre (x : Fin Y.length) W, J pre W → pre.length < Y.length → YieldAt Fence.wide (n - 1) Tryz.prog ll #[.agg (chCs ch Y[x]).toArray] W fun e W' =>
   (e = .returned (.bool true) ∧ J (pre ++ [x]) W' ∧ Kb n₀ [Bt] W W') ∨ (e = .returned (.bool false) ∧ Jx (pre ++ [x]) W'))
  (hL : Below n₀ w₁ W) (ht : W.cell? ⟨Bt, 0, none⟩ = some v) (h0 : J [] W) :
  CallsIn Fence.wide n Tryz.prog 204 #[.func (.yield ll) #[] #[], .pointer (some ⟨Bt, 0, none⟩)] W fun e W' => (∃ v, e = .returned v) ∧
   ((∃ ys, ys = List.finRange Y.length ∧ J ys W') ∨ (∃ pre : List (Fin Y.length), (∃ j, pre = (List.finRange Y.length).take j) ∧ Jx pre W')) := by
 subst h1
 obtain ⟨p, cp, rfl⟩ := hR.form
 have HR := Lib.hid (fun W' (h : Later w₁ W') => hR.later h)
 have HJ := Lib.hid hJ
 have HY := Lib.hid hY
 clear hR hJ hY
 obtain ⟨N, hN⟩ : ∃ N, Y.length = N := ⟨_, rfl⟩
 have HN := Lib.hid hN
 rw [hN] at ht hlen
 clear hN
 refine callsIn_of_wp Tryz.func204 rfl trivial ?_ rfl
 simp only [Tryz.ntmps204, List.size_toArray, List.length_cons, List.length_nil, Nat.reduceAdd, Nat.reduceSub, Array.replicate_succ, Array.replicate_zero, List.push_toArray, List.append_toArray, List.nil_append, List.cons_append]
 gi_wp2
 gi_loopw [7] (fun s7 wr => ∃ j : Nat, j ≤ N ∧ s7 = .int .i64 j ∧ J ((List.finRange Y.length).take j) wr ∧ Hid (Later w₁ wr)) (fun s7 _ => N - (intOf s7).toNat)
 case atStart => exact ⟨0, Nat.zero_le _, rfl, by simpa using h0, Lib.hid hL⟩
 case round =>
  obtain ⟨j, hj, rfl, hJs, hLr⟩ := hrel
  by_cases hlt : j < N
  ·have hltI : (j : Int) < N := by omega
   have hjl : j < Y.length := by rw [HN.out]; exact hlt
   obtain ⟨b, o, cp', hv, hb, g⟩ := (HR.out wr hLr.out).full (i := j) hjl
   rw [HN.out] at hv
   cases hv
   have g0 := g 0 (by omega)
   have g1 := g 1 (by omega)
   have g2 := g 2 (by omega)
   simp only [chF, Nat.add_zero] at g0 g1 g2
   have htk : (List.finRange Y.length).take j ++ [⟨j, hjl⟩] = (List.finRange Y.length).take (j + 1) := by
    rw [List.take_succ_eq_append_getElem (by simpa using hjl)]; simp
   have hla := (Later.refl wr).alloc (.cells #[.int .i64 Y[j].1, .int .i64 Y[j].2, .int .i64 (pickOf ch Y[j])] 152)
   have hJa := abides_later HJ.out hJs hla
   obtain ⟨fn, tmps, assign, body, hy, hRd⟩ := HY.out _ ⟨j, hjl⟩ _ hJa (by rw [List.length_take, List.length_finRange]; omega)
   rw [htk] at hRd
   have e1 : (Y[(⟨j, hjl⟩ : Fin Y.length)]) = Y[j] := rfl
   rw [e1] at hy
   unfold chCs at hy
   have HLA := Lib.hid (Later.trans hLr.out hla)
   generalize pickOf ch Y[j] = X at *
   generalize Y[j].1 = y1 at *
   generalize Y[j].2 = y2 at *
   clear g htk hJs hJa e1 hla
   gi_wp2
   refine ⟨fun hh => (by cases hh), hRd.mono ?_⟩
   rintro e W3 (⟨rfl, hJ3, hk3⟩ | ⟨rfl, hJx3⟩)
   ·have hL3 : Later w₁ W3 := Below.trans HLA.out hk3.1
    clear hRd hk3 hy
    gi_wp2
    go_roundw
    case rel => exact ⟨j + 1, by omega, by go_num, hJ3, Lib.hid hL3⟩
    case measure => simp [intOf]; omega
   ·gi_wp2
    refine bodyPost_ret (results_none rfl _ _ _) rfl ?_
    exact ⟨⟨_, rfl⟩, .inr ⟨_, ⟨j + 1, rfl⟩, hJx3⟩⟩
  ·have hge : ¬ ((j : Int) < N) := by omega
   have hall : (List.finRange Y.length).take j = List.finRange Y.length := List.take_of_length_le (by rw [List.length_finRange, HN.out]; omega)
   rw [hall] at hJs
   have HJS := Lib.hid hJs
   clear hJs hall
   gi_wp2
   go_end0
   exact ⟨⟨_, rfl⟩, .inl HJS.out⟩
theorem values_stops (ch : ChL) (Y : List (Int × Int)) (hlen : Y.length ≤ 100000) (n Bt : Nat) (v : Value) (w₁ : World) (hR : IsRow 3 (chF ch) w₁ v Y) (ht : w₁.cell? ⟨Bt, 0, none⟩ = some v) :
  SeqStopsK Fence.wide n Tryz.prog 204 #[.pointer (some ⟨Bt, 0, none⟩)] (fun x : Fin Y.length => #[.agg (chCs ch Y[x]).toArray]) (Kb w₁.heap.size [Bt])
   (fun ys => ys = List.finRange Y.length) (fun pre => ∃ j, pre = (List.finRange Y.length).take j) Y.length w₁ := fun ll J Jx W hW hJ _ hY h0 =>
 values_run ch Y hlen n Bt _ ll v w₁ rfl hR J Jx W hJ hY hW ((hW.cell (World.block_lt_of_cell? _ _ ht)).trans ht) h0
theorem own_six {w w' : World} {A B C D E F : Array Value} {ta tb tc td te tf : TypeId} (h : Later ((((((w.alloc (.cells A ta)).alloc (.cells B tb)).alloc (.cells C tc)).alloc (.cells D td)).alloc (.cells E te)).alloc (.cells F tf)) w') :
  Own w' [(w.heap.size, A), (w.heap.size + 1, B), (w.heap.size + 1 + 1, C), (w.heap.size + 1 + 1 + 1, D), (w.heap.size + 1 + 1 + 1 + 1, E), (w.heap.size + 1 + 1 + 1 + 1 + 1, F)] := by
 have h2 := Own.two h
 have h4 := Own.four (Later.trans (((Later.refl _).alloc (.cells E te)).alloc (.cells F tf)) h)
 simp only [World.size_alloc] at h2
 exact ⟨h4.1, h4.2.1, h4.2.2.1, h4.2.2.2.1, h2.1, h2.2.1, trivial⟩
def hitB (ch : ChL) (key a b pk : Int) (p : Int × Int) : Bool := p.1 == key && decide (a ≤ p.2) && decide (p.2 ≤ b) && pickOf ch p == pk
def firstL (ch : ChL) (Y : List (Int × Int)) (key a b pk : Int) : Option Int := (Y.find? (hitB ch key a b pk)).map (·.2)
theorem find_take {α : Type} {p : α → Bool} {Y : List α} {j : Nat} (hj : j < Y.length) (h0 : ∀ i (hi : i < Y.length), i < j → p Y[i] = false) (h1 : p Y[j] = true) : Y.find? p = some Y[j] := by
 induction Y generalizing j with
 | nil => simp at hj
 | cons y r ih =>
  cases j with
  | zero => rw [List.find?_cons]; simp at h1; simp [h1]
  | succ j =>
   have := h0 0 (by simp) (by omega)
   rw [List.find?_cons]
   simp only [List.getElem_cons_zero] at this
   rw [this]
   exact ih (by simpa using hj) (fun i hi hlt => h0 (i + 1) (by simpa using hi) (by omega)) (by simpa using h1)
theorem take_snoc_fin {n j : Nat} {q : List (Fin n)} {x : Fin n} (h : (List.finRange n).take j = q ++ [x]) : x.1 = q.length ∧ ∀ i (hi : i < n), i < x.1 → (⟨i, hi⟩ : Fin n) ∈ q := by
 have get : ∀ i, i < q.length + 1 → ∃ hi : i < n, (q ++ [x])[i]? = some (⟨i, hi⟩ : Fin n) := fun i hi => by
  have hl : ((List.finRange n).take j).length = q.length + 1 := by rw [h]; simp
  rw [List.length_take, List.length_finRange] at hl
  have hin : i < n := by omega
  refine ⟨hin, ?_⟩
  rw [← h, List.getElem?_take, if_pos (by omega), List.getElem?_eq_getElem (by simpa using hin)]
  simp
 obtain ⟨h1, h2⟩ := get q.length (by omega)
 rw [List.getElem?_append_right (Nat.le_refl _), Nat.sub_self] at h2
 have hx : x = ⟨q.length, h1⟩ := by simpa using h2
 refine ⟨by rw [hx], fun i hi hlt => ?_⟩
 have hlt' : i < q.length := by rw [hx] at hlt; exact hlt
 obtain ⟨h3, h4⟩ := get i (by omega)
 rw [List.getElem?_append_left hlt'] at h4
 exact List.mem_of_getElem? h4
def FirstI (ch : ChL) (Y : List (Int × Int)) (n : Nat) (key a b pk : Int) (w : World) (pre : List (Fin Y.length)) (W : World) : Prop :=
 (∀ x ∈ pre, hitB ch key a b pk Y[x] = false) ∧ (W.cell? ⟨n, 0, none⟩ = some (.int .i64 key) ∧ W.cell? ⟨n + 1, 0, none⟩ = some (.int .i64 a) ∧ W.cell? ⟨n + 1 + 1, 0, none⟩ = some (.int .i64 b) ∧ W.cell? ⟨n + 1 + 1 + 1, 0, none⟩ = some (.int .i64 pk) ∧
  W.cell? ⟨n + 1 + 1 + 1 + 1, 0, none⟩ = some (.int .i64 0) ∧ W.cell? ⟨n + 1 + 1 + 1 + 1 + 1, 0, none⟩ = some (.bool false) ∧ W.frozen? ⟨n + 1 + 1 + 1 + 1, 0, none⟩ = false ∧ W.frozen? ⟨n + 1 + 1 + 1 + 1 + 1, 0, none⟩ = false) ∧ Below n w W
theorem firstI_own (ch : ChL) (Y : List (Int × Int)) {n B : Nat} (hB : n ≤ B) (key a b pk : Int) {w : World} (hn : n ≤ w.heap.size) : OwnFrom B (FirstI ch Y n key a b pk w) := fun s A C row hs hg hr => by
 have hr' := fun r e => (hr r e).2
 obtain ⟨h0, ⟨h1, h2, h3, h4, h5, h6, h7, h8⟩, h9⟩ := hs
 exact ⟨h0, ⟨cell_kept h1 hg hr', cell_kept h2 hg hr', cell_kept h3 hg hr', cell_kept h4 hg hr', cell_kept h5 hg hr', cell_kept h6 hg hr', (frozen_kept h5 hg hr').trans h7, (frozen_kept h6 hg hr').trans h8⟩, ownFrom_below hn hB s A C row h9 hg hr⟩
def FirstX (ch : ChL) (Y : List (Int × Int)) (n : Nat) (key a b pk : Int) (w : World) (c : Code) (pre : List (Fin Y.length)) (W : World) : Prop :=
 c = .ret ∧ (∃ (q : List (Fin Y.length)) (x : Fin Y.length), pre = q ++ [x] ∧ (∀ y ∈ q, hitB ch key a b pk Y[y] = false) ∧ hitB ch key a b pk Y[x] = true ∧ W.cell? ⟨n + 1 + 1 + 1 + 1, 0, none⟩ = some (.int .i64 Y[x].2)) ∧ W.cell? ⟨n + 1 + 1 + 1 + 1 + 1, 0, none⟩ = some (.bool true) ∧ Below n w W
theorem firstX_own (ch : ChL) (Y : List (Int × Int)) {n B : Nat} (hB : n ≤ B) (key a b pk : Int) {w : World} (hn : n ≤ w.heap.size) (c : Code) : OwnFrom B (FirstX ch Y n key a b pk w c) := fun s A C row hs hg hr => by
 have hr' := fun r e => (hr r e).2
 obtain ⟨h0, ⟨q, x, h1, h2, h3, h4⟩, h5, h6⟩ := hs
 exact ⟨h0, ⟨q, x, h1, h2, h3, cell_kept h4 hg hr'⟩, cell_kept h5 hg hr', ownFrom_below hn hB s A C row h6 hg hr⟩
def firstAct (p n bb k : Nat) (key a b pk x1 x2 x3 : Int) : Act :=
 { tmps := #[.pointer (some ⟨p, 0, none⟩), .int .i64 key, .int .i64 a, .int .i64 b, .int .i64 pk, undef, .pointer (some ⟨n, 0, none⟩), .pointer (some ⟨n + 1, 0, none⟩), .pointer (some ⟨n + 1 + 1, 0, none⟩), .pointer (some ⟨n + 1 + 1 + 1, 0, none⟩), .pointer (some ⟨n + 1 + 1 + 1 + 1, 0, none⟩), .pointer (some ⟨n + 1 + 1 + 1 + 1 + 1, 0, none⟩), .pointer (some ⟨k, 0, none⟩), .pointer (some ⟨p, 0, none⟩), .func (.func 204) #[] #[.pointer (some ⟨bb, 0, none⟩)], .agg #[.int .i64 x1, .int .i64 x2, .int .i64 x3],
  undef, undef, undef, undef, undef, undef, undef, undef, undef, undef, undef, undef, undef, undef, undef, undef, undef, undef, undef, undef, undef, undef, undef, undef], defers := [] }
def FirstZ (ch : ChL) (Y : List (Int × Int)) (p bb n : Nat) (key a b pk : Int) (w : World) (pre : List (Fin Y.length)) (x : Fin Y.length) (a' : Act) (W : World) : Prop :=
 ∃ k, a' = firstAct p n bb k key a b pk Y[x].1 Y[x].2 (pickOf ch Y[x]) ∧ FirstI ch Y n key a b pk w pre W ∧ W.cell? ⟨k, 0, none⟩ = some (.int .i64 Y[x].1) ∧ W.cell? ⟨k, 1, none⟩ = some (.int .i64 Y[x].2) ∧ W.cell? ⟨k, 2, none⟩ = some (.int .i64 (pickOf ch Y[x]))
theorem firstZ_own (ch : ChL) (Y : List (Int × Int)) {p bb n B : Nat} (hB : n ≤ B) (key a b pk : Int) {w : World} (hn : n ≤ w.heap.size) (pre : List (Fin Y.length)) (x : Fin Y.length) (a' : Act) : OwnFrom B (fun (_ : Unit) W => FirstZ ch Y p bb n key a b pk w pre x a' W) := fun s A C row hs hg hr => by
 have hr' := fun r e => (hr r e).2
 obtain ⟨k, h0, h1, h2, h3, h4⟩ := hs
 exact ⟨k, h0, firstI_own ch Y hB key a b pk hn pre A C row h1 hg hr, cell_kept h2 hg hr', cell_kept h3 hg hr', cell_kept h4 hg hr'⟩
set_option maxHeartbeats 3200000 in
theorem ffirst_any (fx : FxL) (ch : ChL) (hlen : ch.length ≤ 100000) (p m1 m2 : Nat) (key a b pk : Int) (w : World) (hF : FactsAt w p m1 m2 fx ch) :
  Calls Tryz.prog 138 #[.pointer (some ⟨p, 0, none⟩), .int .i64 key, .int .i64 a, .int .i64 b, .int .i64 pk] w fun e w' =>
   e = .returned (.tuple #[.int .i64 ((firstL ch (sortL ordP (ch.map (·.1))) key a b pk).getD 0), .bool (firstL ch (sortL ordP (ch.map (·.1))) key a b pk).isSome]) ∧ Later w w' := by
 obtain ⟨Y, hY⟩ : ∃ Y, sortL ordP (ch.map (·.1)) = Y := ⟨_, rfl⟩
 have HC := Lib.hid (fun W (hl : Later w W) => choices_any fx ch hlen p m1 m2 W (hF.later hl))
 rw [hY] at HC ⊢
 have HYL : Hid (Y.length = ch.length) := Lib.hid (by rw [← hY, (sortL_perm _ _).length_eq, List.length_map])
 clear hY hF
 refine callsIn_wide.1 (callsIn_of_wp_marks (n := 9) Tryz.func138 rfl trivial ?_ rfl)
 simp only [Tryz.ntmps138, List.size_toArray, List.length_cons, List.length_nil, Nat.reduceAdd, Nat.reduceSub, Array.replicate_succ, Array.replicate_zero, List.push_toArray, List.append_toArray, List.nil_append, List.cons_append]
 gi_wp2_with ((first | (refine ⟨trivial, ?_⟩; gi_at_call 178) | (refine ⟨trivial, fun hh => (by cases hh), ?_⟩; gi_at_call 178)); go_must (refine (callsIn_wide.2 (HC.out _ (by repeat (first | with_reducible (first | exact zq1 _ | assumption | refine zq2 ?_ | refine zq4 ?_ ?_ _ | refine zq5 ?_ _ | refine zq6 ?_ _ | refine zq7 ?_ | refine zq8 ?_ (by assumption)) | (simp only [zq10]; omega) | (simp; done) | (simp; omega))))).mono ?_; rintro e w1 ⟨bb, v, rfl, hO1, hR1, hb1, hl1⟩))
 have hlw : Later w w1 := by repeat (first | with_reducible (first | exact zq1 _ | assumption | refine zq2 ?_ | refine zq4 ?_ ?_ _ | refine zq5 ?_ _ | refine zq6 ?_ _ | refine zq7 ?_ | refine zq8 ?_ (by assumption)) | (simp only [zq10]; omega) | (simp; done) | (simp; omega))
 obtain ⟨⟨z0, c0, f0⟩, ⟨z1, c1, f1⟩, ⟨z2, c2, f2⟩, ⟨z3, c3, f3⟩, ⟨z4, c4, f4⟩, ⟨z5, c5, f5⟩, -⟩ := own_six hl1
 have HI0 : Hid (FirstI ch Y w.heap.size key a b pk w1 [] w1) := Lib.hid ⟨by simp, ⟨c0 0, c1 0, c2 0, c3 0, c4 0, c5 0, f4 0 (by simp), f5 0 (by simp)⟩, Below.refl _ _⟩
 have hzw := hlw.size
 have ht := (own_get hO1).2.1 0
 have hzb := hO1.1
 have HR1 := Lib.hid hR1
 have HT := Lib.hid ht
 have hYl : Y.length ≤ 100000 := by rw [HYL.out]; exact hlen
 clear c0 f0 c1 f1 c2 f2 c3 f3 c4 f4 c5 f5 hO1 hR1 ht HC hl1
 refine wpIn_range_W rfl (by omega) (gf := 204) (lb := #[.pointer (some ⟨bb, 0, none⟩)]) rfl trivial (enters_of Tryz.func204 (by kernel_rfl) rfl)
  (values_stops ch Y hYl 8 bb v w1 HR1.out HT.out) kb_t (fun W o o' h h1 h2 => kb_b (Nat.le_refl _) (by simpa using hzb.1) W _ o o' (by omega) h h1 h2) (fun _ => rfl)
  (FirstI ch Y w.heap.size key a b pk w1) (FirstX ch Y w.heap.size key a b pk w1) (firstI_own ch Y hzw key a b pk hzw) (firstX_own ch Y hzw key a b pk hzw) HI0.out
  (FirstZ ch Y p bb w.heap.size key a b pk w1) (firstZ_own ch Y hzw key a b pk hzw) ?assign ?body ?done ?stop
 case assign =>
  intro ll pre x W K hi _ hK
  have HII := Lib.hid hi
  have hzi := hi.2.2.size
  unfold chCs
  gi_wp2
  have hla := (Later.refl W).alloc (.cells #[.int .i64 Y[x].1, .int .i64 Y[x].2, .int .i64 (pickOf ch Y[x])] 152)
  obtain ⟨zz, cc, -⟩ := own_get (own_alloc W #[.int .i64 Y[x].1, .int .i64 Y[x].2, .int .i64 (pickOf ch Y[x])] 152)
  refine hK _ _ (KeepsOthers.alloc _ _) ⟨(Below.refl _ _).alloc hzi _, fun b hb i => ?_⟩ ⟨W.heap.size, rfl, ⟨hi.1, ?_, hi.2.2.trans (Below.mono hla (by omega))⟩, cc 0, cc 1, cc 2⟩
  ·obtain rfl : b = bb := by simpa using hb
   exact (bcell hla).1 _ _ (by have := hzb.1; omega)
  ·obtain ⟨-, ⟨h1, h2, h3, h4, h5, h6, h7, h8⟩, -⟩ := HII.out
   have kc : ∀ {A : Nat} {u : Value}, W.cell? ⟨A, 0, none⟩ = some u → (W.alloc (.cells #[.int .i64 Y[x].1, .int .i64 Y[x].2, .int .i64 (pickOf ch Y[x])] 152)).cell? ⟨A, 0, none⟩ = some u := fun h => ((bcell hla).1 _ _ (World.block_lt_of_cell? _ _ h)).trans h
   exact ⟨kc h1, kc h2, kc h3, kc h4, kc h5, kc h6, ((bcell hla).2 _ _ (World.block_lt_of_cell? _ _ h5)).trans h7, ((bcell hla).2 _ _ (World.block_lt_of_cell? _ _ h6)).trans h8⟩
 case body =>
  rintro ll pre x a' W ⟨k, rfl, hI, k0, k1, k2⟩
  have HII := Lib.hid hI
  obtain ⟨-, ⟨d0, d1, d2, d3, d4, d5, g4, g5⟩, hB⟩ := hI
  have hzB := hB.size
  have HH := Lib.hid (show hitB ch key a b pk Y[x] = (Y[x].1 == key && decide (a ≤ Y[x].2) && decide (Y[x].2 ≤ b) && pickOf ch Y[x] == pk) from rfl)
  have HX : Hid (∀ (q : List (Fin Y.length)), True) := Lib.hid (fun _ => trivial)
  have hmiss : Hid (hitB ch key a b pk Y[x] = false → FirstI ch Y w.heap.size key a b pk w1 (pre ++ [x]) W) := Lib.hid (fun h => ⟨fun y hy => by
   rcases List.mem_append.1 hy with hy | hy
   ·exact HII.out.1 y hy
   ·simp at hy; subst hy; exact h, HII.out.2⟩)
  obtain ⟨x1, hx1⟩ : ∃ x1, Y[x].1 = x1 := ⟨_, rfl⟩
  obtain ⟨x2, hx2⟩ : ∃ x1, Y[x].2 = x1 := ⟨_, rfl⟩
  obtain ⟨x3, hx3⟩ : ∃ x1, pickOf ch Y[x] = x1 := ⟨_, rfl⟩
  rw [hx1] at k0 HH ⊢
  rw [hx2] at k1 HH ⊢
  rw [hx3] at k2 HH ⊢
  have HX2 := Lib.hid hx2
  clear hx1 hx2 hx3 HX HI0 HR1 HT
  unfold firstAct
  by_cases e1 : x1 = key
  ·by_cases e2 : a ≤ x2
   ·by_cases e3 : x2 ≤ b
    ·by_cases e4 : x3 = pk
     ·have hh : hitB ch key a b pk Y[x] = true := by rw [HH.out]; simp [e1, e2, e3, e4]
      have HHT := Lib.hid hh
      clear hh HH hmiss
      subst e1 e4
      gi_wp2
      have hk4 := World.block_lt_of_cell? _ _ d4
      have hk5 := World.block_lt_of_cell? _ _ d5
      refine ⟨(KeepsOthers.setCell _ _ _).trans (KeepsOthers.setCell _ _ _), rfl, ⟨pre, x, rfl, HII.out.1, HHT.out, ?_⟩, ?_, (hB.setCell (p := ⟨w.heap.size + 1 + 1 + 1 + 1, 0, none⟩) (by show w.heap.size ≤ w.heap.size + 1 + 1 + 1 + 1; omega) _).setCell (p := ⟨w.heap.size + 1 + 1 + 1 + 1 + 1, 0, none⟩) (by show w.heap.size ≤ w.heap.size + 1 + 1 + 1 + 1 + 1; omega) _⟩
      ·rw [HX2.out, cell_other (by omega)]
       exact World.cell?_setCell_same' _ _ _ (by rw [d4]; rfl)
      ·exact World.cell?_setCell_same' _ _ _ (by rw [cell_other (by omega), d5]; rfl)
     ·have hh := Lib.hid (hmiss.out (by rw [HH.out]; simp [e4]))
      clear HH hmiss HII HX2
      gi_wp2
      exact ⟨KeepsOthers.refl _, Kb.refl _ _ _, hh.out⟩
    ·have hh := Lib.hid (hmiss.out (by rw [HH.out]; simp [e3]))
     clear HH hmiss HII HX2
     gi_wp2
     exact ⟨KeepsOthers.refl _, Kb.refl _ _ _, hh.out⟩
   ·have hh := Lib.hid (hmiss.out (by rw [HH.out]; simp [e2]))
    clear HH hmiss HII HX2
    gi_wp2
    exact ⟨KeepsOthers.refl _, Kb.refl _ _ _, hh.out⟩
  ·have hh := Lib.hid (hmiss.out (by rw [HH.out]; simp [e1]))
   clear HH hmiss HII HX2
   gi_wp2
   exact ⟨KeepsOthers.refl _, Kb.refl _ _ _, hh.out⟩
 case done =>
  rintro D ys W hD rfl hI hK
  obtain ⟨hm, ⟨d0, d1, d2, d3, d4, d5, g4, g5⟩, hB⟩ := hI
  have hnone : firstL ch Y key a b pk = none := by
   unfold firstL
   rw [List.find?_eq_none.2 (fun y hy => by
    obtain ⟨i, hi, rfl⟩ := List.getElem_of_mem hy
    have := hm ⟨i, hi⟩ (List.mem_finRange _)
    simpa using this)]
   rfl
  have HNO := Lib.hid hnone
  clear hnone hm
  gi_wp2
  obtain ⟨W2, hW2⟩ : ∃ W2, (W.setCell ⟨w.heap.size + 1 + 1 + 1 + 1, 0, none⟩ (.int .i64 0)).setCell ⟨w.heap.size + 1 + 1 + 1 + 1 + 1, 0, none⟩ (.bool false) = W2 := ⟨_, rfl⟩
  have e4 : W2.cell? ⟨w.heap.size + 1 + 1 + 1 + 1, 0, none⟩ = some (.int .i64 0) := by
   rw [← hW2, cell_other (by omega)]
   exact World.cell?_setCell_same' _ _ _ (by rw [d4]; rfl)
  have e5 : W2.cell? ⟨w.heap.size + 1 + 1 + 1 + 1 + 1, 0, none⟩ = some (.bool false) := by
   rw [← hW2]
   exact World.cell?_setCell_same' _ _ _ (by rw [cell_other (by omega), d5]; rfl)
  have hK2 : W2.heap[D]? = some (.deferred (some [])) := by
   rw [← hW2, Below.heap_setCell _ _ _ _ (show D ≠ w.heap.size + 1 + 1 + 1 + 1 + 1 by omega), Below.heap_setCell _ _ _ _ (show D ≠ w.heap.size + 1 + 1 + 1 + 1 by omega)]; exact hK
  have hB2 : Below w.heap.size w1 W2 := by
   rw [← hW2]
   exact (hB.setCell (p := ⟨w.heap.size + 1 + 1 + 1 + 1, 0, none⟩) (by show w.heap.size ≤ w.heap.size + 1 + 1 + 1 + 1; omega) _).setCell (p := ⟨w.heap.size + 1 + 1 + 1 + 1 + 1, 0, none⟩) (by show w.heap.size ≤ w.heap.size + 1 + 1 + 1 + 1 + 1; omega) _
  rw [hW2]
  clear hW2 d0 d1 d2 d3 d4 d5 g4 g5 hB hK HI0 HR1 HT
  refine ⟨by simp, .inl ⟨_, _, rfl, run_takeDeferred hK2, ?_⟩⟩
  have hk : ∀ r, some D = some r → ∃ o : Obj, W2.heap[r]? = some o ∧ o.isCells = false := fun r e => by cases e; exact ⟨_, hK2, rfl⟩
  have e4' := cell_kept e4 (grownBy_putObj' W2 D (.deferred none)) hk
  have e5' := cell_kept e5 (grownBy_putObj' W2 D (.deferred none)) hk
  refine ⟨.tuple #[.int .i64 0, .bool false], by simp [results, Tryz.results138, go_sem, e4', e5'], by rw [HNO.out]; rfl, ?_⟩
  exact Below.trans hlw (Below.trans (Below.mono hB2 (Nat.le_refl _)) (Below.grown (Below.refl _ _) (grownBy_putObj' W2 D (.deferred none)) (by have := hB2.size; omega) (fun k e => by cases e; omega)))
 case stop =>
  rintro D c pre W hD ⟨j, hj⟩ ⟨rfl, ⟨q, x, hq, hm, hh, h4⟩, h5, hB⟩ hK
  have hsome : firstL ch Y key a b pk = some Y[x].2 := by
   obtain ⟨h1, h2⟩ := take_snoc_fin (hj.symm.trans hq)
   unfold firstL
   rw [find_take (j := x.1) x.2 (fun i hi hlt => hm _ (h2 i hi hlt)) hh]
   rfl
  have HSO := Lib.hid hsome
  clear hsome hm hh hq hj
  gi_wp2
  clear HI0 HR1 HT
  refine ⟨by simp, .inl ⟨_, _, rfl, run_takeDeferred hK, ?_⟩⟩
  have hk : ∀ r, some D = some r → ∃ o : Obj, W.heap[r]? = some o ∧ o.isCells = false := fun r e => by cases e; exact ⟨_, hK, rfl⟩
  have e4' := cell_kept h4 (grownBy_putObj' W D (.deferred none)) hk
  have e5' := cell_kept h5 (grownBy_putObj' W D (.deferred none)) hk
  generalize Y[x].2 = X at *
  refine ⟨.tuple #[.int .i64 X, .bool true], by simp [results, Tryz.results138, go_sem, e4', e5'], by rw [HSO.out]; rfl, ?_⟩
  exact Below.trans hlw (Below.trans (Below.mono hB (Nat.le_refl _)) (Below.grown (Below.refl _ _) (grownBy_putObj' W D (.deferred none)) (by have := hB.size; omega) (fun k e => by cases e; omega)))
end Go.Proofs.YtkjabiabeemfhaaGreatDoor
end
section
namespace Go.Proofs.YtkjabiabeemfhaaGreatDoor
open Go.RowKit Go.Sort
theorem firstL_days {ch : ChL} (hn : (ch.map (·.1)).Nodup) (hok : ChOk ch) (key a b : Int) : firstL ch (sortL ordP (ch.map (·.1))) key a b 1 = firstD (getC ch) key a b := by
 unfold firstL
 refine first_days (R := fun x y => ltOf ordP y x = false) (sortL_sorted swoP totP _) (fun x y hx hy h => ?_) (fun y hy hp => ?_) (fun d h1 h2 h3 => ?_)
 ·unfold hitB at hx hy
  simp only [Bool.and_eq_true, beq_iff_eq] at hx hy
  rw [not_lt ltP_iff] at h
  unfold ltP at h
  have e1 := hx.1.1.1
  have e2 := hy.1.1.1
  omega
 ·unfold hitB at hp
  simp only [Bool.and_eq_true, beq_iff_eq, decide_eq_true_eq] at hp
  obtain ⟨⟨⟨p1, p2⟩, p3⟩, p4⟩ := hp
  have hy' := (sortL_perm ordP _).mem_iff.1 hy
  obtain ⟨⟨q, v⟩, hq, e⟩ := List.mem_map.1 hy'
  simp only at e
  subst e
  have hg := getA_some hn hq
  simp only at hg
  obtain ⟨o1, o2, o3⟩ := hok _ _ hg
  unfold pickOf at p4
  rw [hg] at p4
  simp only [Option.getD_some] at p4
  subst p4
  refine ⟨p2, p3, o2, o3, ?_⟩
  unfold getC
  rw [← p1]
  exact hg
 ·unfold getC at h3
  have hm : (key, d) ∈ ch.map (·.1) := by
   apply Classical.byContradiction
   intro hc
   rw [getA_none (fun p hp e => hc (by rw [← e]; exact List.mem_map_of_mem hp))] at h3
   cases h3
  refine ⟨(key, d), (sortL_perm ordP _).mem_iff.2 hm, ?_, rfl⟩
  unfold hitB pickOf
  rw [h3]
  simp [h1, h2]
end Go.Proofs.YtkjabiabeemfhaaGreatDoor
end
section
namespace Go.Proofs.YtkjabiabeemfhaaGreatDoor
open Go.RowKit
set_option maxRecDepth 100000
def TurnEnd (r : St) (kp : List Hd) (w0 : World) (b : Nat) (tv : Value) (tod : Int) (fp : Value) (H K : List Hd) (F : List Fl) (W : List Wt) (e : Ending) (w' : World) : Prop :=
 e = .returned (.int .i64 r.1) ∧ ∃ nv' kv' fv' wv', TurnAt w0.heap.size w' b tv tod fp nv' kv' fv' wv' (H ++ r.2.1) (K ++ kp) (F ++ r.2.2.1) (W ++ r.2.2.2) ∧ Later w0 w'
theorem turn_end {x r : St} {y kp : List Hd} {w0 : World} {b : Nat} {tv : Value} {tod : Int} {fp nv' kv' fv' wv' : Value} {H H' K K' : List Hd} {F F' : List Fl} {W W' : List Wt} {w' : World} (hs : TurnAt w0.heap.size w' b tv tod fp nv' kv' fv' wv' H' K' F' W') (hr : x = r) (hk : y = kp) (e1 : H' = H ++ r.2.1) (e4 : K' = K ++ kp) (e2 : F' = F ++ r.2.2.1) (e3 : W' = W ++ r.2.2.2) (hl : Later w0 w') :
  TurnEnd x y w0 b tv tod fp H K F W (.returned (.int .i64 r.1)) w' := by subst hr hk e1 e2 e3 e4; exact ⟨rfl, _, _, _, _, hs, hl⟩
theorem tthen_later {lo : Nat} {w : World} {b : Nat} {tv : Value} {tod : Int} {fp nv kv fv wv : Value} {H K : List Hd} {F : List Fl} {W : List Wt} (hlo : lo ≤ w.heap.size) (hlen : H.length ≤ 100000) (hst : TurnAt lo w b tv tod fp nv kv fv wv H K F W) (h : Hd) (at0 pl : Int) (hpl : (h.pl : Int) = pl) (W1 : World) (hl : Later w W1) :
  Calls Tryz.prog 168 #[.pointer (some ⟨b, 0, none⟩), .agg #[.int .i64 at0, .int .i64 h.day, .int .i64 h.n, .int .i64 h.d], .int .i64 pl] W1 fun e w' =>
   e = .returned (.tuple #[]) ∧ ∃ nv', TurnAt lo w' b tv tod fp nv' kv fv wv (H ++ [h]) K F W ∧ S.LatB (fun k => k = b ∨ nv.ownBlock = some k) W1 w' ∧ FreshV W1 nv nv' := by
 subst hpl
 exact tthen_any lo W1 b tv tod fp nv kv fv wv H K F W h at0 (Nat.le_trans hlo hl.size) hlen (hst.later hl)
theorem tkeep_later {lo : Nat} {w : World} {b : Nat} {tv : Value} {tod : Int} {fp nv kv fv wv : Value} {H K : List Hd} {F : List Fl} {W : List Wt} (hlo : lo ≤ w.heap.size) (hlen : K.length ≤ 100000) (asks : List Wt) (hlenW : W.length + asks.length ≤ 100000) (hst : TurnAt lo w b tv tod fp nv kv fv wv H K F W) (h : Hd) (at0 : Int) (ha : (h.pl : Int) = at0) (av : Value) (W1 : World) (hl : Later w W1) (hA : IsWaits W1 av asks) (hAb : ∀ k, av.ownBlock = some k → w.heap.size ≤ k) :
  Calls Tryz.prog 124 #[.pointer (some ⟨b, 0, none⟩), .agg #[.int .i64 at0, .int .i64 h.day, .int .i64 h.n, .int .i64 h.d], av] W1 fun e w' =>
   e = .returned (.tuple #[]) ∧ ∃ kv' wv', TurnAt lo w' b tv tod fp nv kv' fv wv' H (K ++ [h]) F (W ++ asks) ∧ S.LatB (fun k => k = b ∨ kv.ownBlock = some k ∨ wv.ownBlock = some k) W1 w' := by
 subst ha
 refine (tkeep_any lo W1 b tv tod fp nv kv fv wv H K F W h asks av (Nat.le_trans hlo hl.size) hlen hlenW (hst.later hl) hA (fun k hk => ?_)).mono (fun e w' ⟨he, kv', wv', h1, h2, h3, h4⟩ => ⟨he, kv', wv', h1, h2⟩)
 have h0 := hAb k hk
 refine ⟨fun e => ?_, fun e => ?_, fun e => ?_⟩
 ·have := hst.own.1.1; omega
 ·have := (hst.kept.lo k e).2; omega
 ·have := (hst.waits.lo k e).2; omega
theorem tasks_at {w0 : World} {ts : List Nd} {T : Tm} {tv : Value} {fx : FxL} {ch : ChL} {p m1 m2 : Nat} (hJ : JobAt w0 ts T tv fx ch p m1 m2) {w : World} (hw0 : Later w0 w) {b : Nat} {tod : Int} {nv kv fv wv : Value} {H K : List Hd} {F : List Fl} {W : List Wt}
  (hst : TurnAt w0.heap.size w b tv tod (.pointer (some ⟨p, 0, none⟩)) nv kv fv wv H K F W) {day : Int} (hd0 : 0 ≤ day) (hd1 : day ≤ 73048) (l : List (Nat × Tm)) (hl4 : l.length ≤ 4) (hnum : NumsAt ts l) {AL : List Wt} (hAL : l.flatMap (fun x => asksT (envT fx ch) day x.2) = AL) (W1 : World) (hl : Later w W1) (pv : Value) (hp : IsInts W1 pv (l.map (fun x => (x.1 : Int)))) :
  Calls Tryz.prog 170 #[.pointer (some ⟨b, 0, none⟩), .int .i64 day, pv] W1 fun e w' =>
   ∃ v', e = .returned v' ∧ IsWaits w' v' AL ∧ Later W1 w' ∧ ∀ k, v'.ownBlock = some k → w.heap.size ≤ k := by
 subst hAL
 exact (tasks_any hJ W1 (hw0.trans hl) b tod nv kv fv wv H K F W (hst.later hl) day hd0 hd1 l hl4 hnum pv hp).mono (fun e w' ⟨v', h1, h2, h3, h4⟩ => ⟨v', h1, h2, h3, fun k hk => Nat.le_trans hl.size (h4 k hk)⟩)
theorem numsAt_one {ts : List Nd} {k : Nat} {s : Tm} (h : TmAt ts k s ∧ NumT s ∧ wrongV ts (k : Nat) = 0) : NumsAt ts [(k, s)] := fun x hx => by rw [List.mem_singleton.1 hx]; exact h
theorem numsAt_two {ts : List Nd} {k k' : Nat} {s s' : Tm} (h : TmAt ts k s ∧ NumT s ∧ wrongV ts (k : Nat) = 0) (h' : TmAt ts k' s' ∧ NumT s' ∧ wrongV ts (k' : Nat) = 0) : NumsAt ts [(k, s), (k', s')] := fun x hx => by
 simp only [List.mem_cons, List.not_mem_nil, or_false] at hx
 rcases hx with rfl | rfl
 ·exact h
 ·exact h'
theorem asks_few (env : Env) (day : Int) (s : Tm) : (asksT env day s).length ≤ 64 := by
 have := flat_le env day [(0, s)]
 simpa using this
theorem none_new {m k : Nat} (h : (Value.slice none 0 0).ownBlock = some k) : m ≤ k := by simp [Value.ownBlock] at h
theorem waits_none (w : World) : IsWaits w (.slice none 0 0) [] := .inl ⟨⟨none, rfl⟩, rfl⟩
theorem waits_one {w : World} {ta : TypeId} {k : Nat} (c : Bool) (key day : Int) (hk : k = w.heap.size) : IsWaits (w.alloc (.cells #[.bool c, .int .i64 key, .int .i64 day] ta)).drew (.slice (some ⟨k, 0, none⟩) 1 1) [⟨c, key, day⟩] := by
 subst hk
 obtain ⟨z, hc, -⟩ := own_get (own_alloc w #[.bool c, .int .i64 key, .int .i64 day] ta)
 refine .inr ⟨w.heap.size, 0, 1, rfl, z, Nat.le_refl _, by unfold maxLen; simp, fun i hi j hj => ?_⟩
 obtain rfl : i = 0 := by simpa using hi
 show (w.alloc _).cell? _ = _
 rw [Nat.zero_mul, Nat.add_zero, Nat.zero_add, hc j]
 rcases j with _ | _ | _ | j
 ·rfl
 ·rfl
 ·rfl
 ·omega
theorem TurnAt.base {lo : Nat} {w : World} {b : Nat} {tv : Value} {tod : Int} {fp nv kv fv wv : Value} {H K : List Hd} {F : List Fl} {W : List Wt} (h : TurnAt lo w b tv tod fp nv kv fv wv H K F W) : ∀ k, (k = b ∨ nv.ownBlock = some k ∨ kv.ownBlock = some k ∨ fv.ownBlock = some k ∨ wv.ownBlock = some k) → lo ≤ k ∧ k < w.heap.size := by
 intro k hk
 rcases hk with rfl | hk | hk | hk | hk
 ·exact ⟨h.lob, h.own.1.1⟩
 ·exact h.next.lo k hk
 ·exact h.kept.lo k hk
 ·exact h.flows.lo k hk
 ·exact h.waits.lo k hk
theorem TurnAt.set {lo : Nat} {w : World} {b : Nat} {tv : Value} {tod : Int} {fp nv kv fv wv : Value} {H K : List Hd} {F : List Fl} {W : List Wt} (h : TurnAt lo w b tv tod fp nv kv fv wv H K F W) (A i : Nat) (hne : ∀ k, (k = b ∨ nv.ownBlock = some k ∨ kv.ownBlock = some k ∨ fv.ownBlock = some k ∨ wv.ownBlock = some k) → k ≠ A) (u : Value) : TurnAt lo (w.setCell ⟨A, i, none⟩ u) b tv tod fp nv kv fv wv H K F W := by
 have hb : b ≠ A := hne b (.inl rfl)
 exact ⟨B.own_far h.own (fun z hz e => by
   simp only [List.mem_cons, List.not_mem_nil, or_false] at hz
   subst hz
   exact hb e.symm) u, h.lob, h.next.set (fun e => hne A (.inr (.inl e)) rfl) u, h.kept.set (fun e => hne A (.inr (.inr (.inl e))) rfl) u, h.flows.set (fun e => hne A (.inr (.inr (.inr (.inl e)))) rfl) u, h.waits.set (fun e => hne A (.inr (.inr (.inr (.inr e)))) rfl) u,
  h.nvb, h.kvb, h.fvb, h.wvb, h.nk, h.nf, h.nw, h.kf, h.kw, h.fw⟩
end Go.Proofs.YtkjabiabeemfhaaGreatDoor
end
