/- a range over a map in whose round memory is laid: the step, the round's entry -/
import Derived.Test.YtkjabiabeemfhaaGreatDoorW16
import Derived.Test.YtkjabiabeemfhaaGreatDoorW9
import Derived.Test.YtkjabiabeemfhaaGreatDoorW8
import Derived.Test.YtkjabiabeemfhaaGreatDoorW14
import Derived.RangeFuncBox
import Derived.RangeFuncNested
import Derived.OwnWalkIn
import Derived.Test.YtkjabiabeemfhaaGreatDoorW11
import Derived.Test.YtkjabiabeemfhaaGreatDoorW17
import Derived.Test.YtkjabiabeemfhaaGreatDoorW15
import Derived.Shelf.SlSortCmp.NoneTotal
import Derived.Shelf.SlSortCmp.WholeK
import Derived.Test.YtkjabiabeemfhaaGreatDoorW3
import Derived.Laws.IdiomRangeMap
set_option linter.all false
set_option linter.all false
section
namespace Go.Proofs.YtkjabiabeemfhaaGreatDoor
open Go.RowKit
set_option maxRecDepth 100000
attribute [local go_sem] Oper.semAt_some
theorem wpListIn_push {F : Fence} {m : Nat} {P : Program} {w : World} {base : Nat} {e sz : Nat} {v : Value} {n : Nat} {xs : List Value} {ops : Array Oper} {rest : List Oper} {o : Oper} {a : Act} {Q : Exit → Act → World → Prop} {t bytes : Nat} {ta : TypeId} {news : Array Value}
    (T : SliceOf P t e sz bytes) (hM : w.ownsRow base e sz v n xs) (hbase : base ≤ w.heap.size) (hgd : o.guard = none) (s x : Operand)
    (ho : o.op = .call { callee := .builtin .append, args := #[s, x], argTypes := #[t, t] }) (hs : a.eval s = v) (c b : Nat) (hx : a.eval x = .slice (some ⟨b, 0, none⟩) 1 c) (hb : b = w.heap.size) (hl : news.size = sz) (h1 : ∀ u ∈ news.toList, u.oneCell' = true)
    (h63 : (n + 1) * bytes ≤ 140737488355328) (h64 : n + 1 ≤ maxLen)
    (h : ∀ v' w', w'.ownsRow base e sz v' (n + 1) (xs ++ news.toList) → (w.alloc (.cells news ta)).grownBy w' v.ownBlock → wpListIn F m P ops Q rest (a.put o.dst v') w') : wpListIn F m P ops Q (o :: rest) a (w.alloc (.cells news ta)) := by
  subst hb
  obtain ⟨i, z, t1, t2, t3, t4, t5, t6, t7⟩ := T
  have hc := (own_get (own_alloc w news ta)).2.1
  refine wpListIn_append_own _ hgd s x t ho base e i z sz bytes t1 t2 t3 t4 t5 t6 t7 v n xs hs (hM.alloc _) ⟨w.heap.size, 0, none⟩ 1 c news.toList hx (by rw [Nat.one_mul, Array.length_toList, hl]) ?_ h1 h64 h63 (by simp; omega) (fun v' w' a b _ => h v' w' a b)
  intro j u hj
  rw [add_plain, Nat.zero_add, hc j, ← Array.getElem?_toList, hj]
def placesF (k : Nat) (l : List Tm) (pre : List (Fin l.length)) : List Value := pre.map (fun x => Value.int .i64 (placeN k l x.1 : Int))
theorem placesF_all (k : Nat) (l : List Tm) : placesF k l (List.finRange l.length) = (placesI k l l.length).map (Value.int .i64) := by
  unfold placesF placesI
  rw [List.map_map]
  apply List.ext_getElem
  · simp
  · intro i h1 h2; simp
def BelowI (k : Nat) (l : List Tm) (n B Bt : Nat) (u : Value) (w : World) (pre : List (Fin l.length)) (W : World) : Prop :=
  (∃ v, Boxed W B 94 v ∧ W.ownsRow n 3 1 v pre.length (placesF k l pre) ∧ pre.length ≤ l.length) ∧ Boxed W Bt 22 u ∧ Below n w W
theorem belowI_own (k : Nat) (l : List Tm) {n B Bt : Nat} (u : Value) {w : World} {C : Nat} (hn : n ≤ w.heap.size) (hC : n ≤ C) : OwnFrom C (BelowI k l n B Bt u w) :=
  OwnFrom.and (Own.from (holdsRow_own n B 94 3 1 (fun pre : List (Fin l.length) => pre.length) (placesF k l) (fun pre _ => pre.length ≤ l.length)) C)
    (OwnFrom.and (Own.from (boxed_own Bt 22 (fun _ : List (Fin l.length) => u)) C) (ownFrom_below hn hC))
set_option maxHeartbeats 2000000 in
theorem tbelow_any (ts : List Nd) (hlen : ts.length ≤ 100000) (k : Nat) (x : Nd) (l : List Tm) (v : Value) (w : World) (hT : TmAt ts k (.node x l)) (hS : Shapes w) (hN : IsNodes w v ts) :
    Calls Tryz.prog 125 #[v, .int .i64 k] w fun e w' => ∃ v', e = .returned (.tuple #[v', .int .i64 0]) ∧ w'.ownsRow w.heap.size 3 1 v' l.length ((placesI k l l.length).map (Value.int .i64)) ∧ Later w w' := by
  obtain ⟨p, cp, rfl⟩ := hN.form
  have HK := Lib.hid (fun W => kids_make p ts.length cp (k : Int) W)
  have HZ := Lib.hid (tsize_any ts k (.node x l) _ w hlen hT hS hN)
  have hST := Lib.hid hS
  have hNT := Lib.hid hN
  have HT := Lib.hid hT
  obtain ⟨hr1, hr2, hr3, hr4⟩ := hT.root
  have hml := many_le x.op
  rw [← hr4] at hml
  clear hS hN hT hr1 hr2 hr3 hr4
  obtain ⟨Z, hZ⟩ : ∃ Z, ((Tm.node x l).size : Int) = Z := ⟨_, rfl⟩
  rw [hZ] at HZ
  clear hZ
  refine callsIn_wide.1 (callsIn_of_wp_marks (n := 9) Tryz.func125 rfl trivial ?_ rfl)
  simp only [Tryz.ntmps125, List.size_toArray, List.length_cons, List.length_nil, Nat.reduceAdd, Nat.reduceSub, Array.replicate_succ, Array.replicate_zero, List.push_toArray, List.append_toArray, List.nil_append, List.cons_append]
  gi_wp2_with (first | ((first | (refine ⟨trivial, ?_⟩; gi_at_call 167) | (refine ⟨trivial, fun hh => (by cases hh), ?_⟩; gi_at_call 167)); go_must (refine (callsIn_wide.2 HZ.out).mono ?_; rintro e w1 ⟨rfl, hb1⟩)) | ((first | (refine ⟨trivial, ?_⟩; gi_at_call 120) | (refine ⟨trivial, fun hh => (by cases hh), ?_⟩; gi_at_call 120)); go_must (refine (callsIn_wide.2 (HK.out _)).mono ?_; rintro e w2 ⟨rfl, rfl⟩)))
  have hO := Own.three (Later.refl (((w1.alloc (.cells #[.slice none 0 0] 94)).alloc (.cells #[.slice p ts.length cp] 22)).alloc (.cells #[.int .i64 k] 3)))
  have hbx : Boxed (((w1.alloc (.cells #[.slice none 0 0] 94)).alloc (.cells #[.slice p ts.length cp] 22)).alloc (.cells #[.int .i64 k] 3)) w1.heap.size 94 (.slice none 0 0) := ((Boxed.new w1 94 (.slice none 0 0)).alloc _).alloc _
  have hbt : Boxed (((w1.alloc (.cells #[.slice none 0 0] 94)).alloc (.cells #[.slice p ts.length cp] 22)).alloc (.cells #[.int .i64 k] 3)) (w1.heap.size + 1) 22 (.slice p ts.length cp) := by have := (Boxed.new (w1.alloc (.cells #[.slice none 0 0] 94)) 22 (.slice p ts.length cp)).alloc (.cells #[.int .i64 k] 3); rwa [World.size_alloc] at this
  have hLL : Later w (((w1.alloc (.cells #[.slice none 0 0] 94)).alloc (.cells #[.slice p ts.length cp] 22)).alloc (.cells #[.int .i64 k] 3)) := ((hb1.alloc _).alloc _).alloc _
  obtain ⟨W0, hW0⟩ : ∃ W0, (((w1.alloc (.cells #[.slice none 0 0] 94)).alloc (.cells #[.slice p ts.length cp] 22)).alloc (.cells #[.int .i64 k] 3)) = W0 := ⟨_, rfl⟩
  rw [hW0] at hO hbx hbt hLL ⊢
  have hzw : w1.heap.size + 1 + 1 < W0.heap.size := hO.2.2.1.1
  have hz1 := hb1.size
  have d1 := hO.2.1.2.1 0
  have d2 := hO.2.2.1.2.1 0
  have HLL := Lib.hid hLL
  have hzW := hLL.size
  have HI0 : Hid (BelowI k l w.heap.size w1.heap.size (w1.heap.size + 1) (.slice p ts.length cp) W0 [] W0) := Lib.hid ⟨⟨_, hbx, World.ownsRow_nil _ _ _ _, Nat.zero_le _⟩, hbt, Below.refl _ _⟩
  clear hW0 hO hbx hbt hLL
  refine wpIn_rangeFunc_ownF rfl (by omega) (gf := 166) (lb := #[.pointer (some ⟨w1.heap.size + 1 + 1, 0, none⟩), .pointer (some ⟨w1.heap.size + 1, 0, none⟩)]) rfl trivial (enters_of Tryz.func166 (by kernel_rfl) rfl)
    (kids_stops ts hlen k x l HT.out 8 (w1.heap.size + 1) (w1.heap.size + 1 + 1) (.slice p ts.length cp) w W0 hST.out hNT.out HLL.out d1 d2) kb_t (kb_b hzW (by simp; omega)) (Below.refl _ _) (fun _ => rfl)
    (BelowI k l w.heap.size w1.heap.size (w1.heap.size + 1) (.slice p ts.length cp) W0) (fun _ _ _ => False) (belowI_own k l _ hzW hzW) (fun _ _ _ _ _ hs _ _ => hs) HI0.out
    (fun i => { tmps := #[.slice p ts.length cp, .int .i64 k, undef, undef, .slice none 0 0, .int .i64 0, .int .i64 Z, .int .i64 0, .pointer (some ⟨w1.heap.size, 0, none⟩), undef, .int .i64 (placeN k l i.1 : Int), .tuple #[.int .i64 Z, .int .i64 0], .slice p ts.length cp, .int .i64 k, .tuple #[.int .i64 Z, .int .i64 0], .int .i64 Z, .int .i64 0, .int .i64 0, .bool false, undef, .slice p ts.length cp, .int .i64 k, .func (.func 166) #[] #[.pointer (some ⟨w1.heap.size + 1 + 1, 0, none⟩), .pointer (some ⟨w1.heap.size + 1, 0, none⟩)], .int .i64 (i.1 : Int), .int .i64 (placeN k l i.1 : Int), undef, undef, undef, undef, undef], defers := [] }) ?assign ?body ?done ?stop
  case assign =>
    intro ll i W K hK
    gi_wp2
    exact hK
  case body =>
    rintro ll pre i W ⟨⟨u, hbx, hrow, hpl⟩, hc, hB⟩ hlt
    have hcB := hbx.cell
    have hfB := hbx.frozen
    have hzB := hB.size
    obtain ⟨pu, cu, rfl⟩ := B.owns_form hrow
    have HROW := Lib.hid hrow
    have HBX := Lib.hid hbx
    have HS : Hid (placesF k l (pre ++ [i]) = placesF k l pre ++ [.int .i64 (placeN k l i.1 : Int)]) := Lib.hid (by simp [placesF])
    have HB := Lib.hid hB
    have HC := Lib.hid hc
    obtain ⟨m, hm⟩ : ∃ m, pre.length = m := ⟨_, rfl⟩
    have HM := Lib.hid hm
    rw [hm] at HROW HBX hcB hlt
    generalize (placeN k l i.1 : Int) = X at *
    clear hrow hbx hm hpl hB hc HI0 hST hNT HK HZ
    gi_wp2_with (gi_at_builtin; go_must (refine wpListIn_push (base := w.heap.size) sliceInt HROW.out (by omega) rfl _ _ rfl rfl 1 _ rfl (by simp) rfl (by simp [Value.oneCell']) (by omega) (by unfold maxLen; omega) ?_; intro v9 w9 k1 k2; obtain ⟨hx1, hx2, hx3, hx4, hx5⟩ := Boxed.appended HBX.out (by decide) HROW.out (by omega) (by omega) k1 k2; have hcx := hx1.cell; have hfx := hx1.frozen; obtain ⟨p9, c9, rfl⟩ := B.owns_form k1))
    have hcn := HC.out.not_row (by decide) HROW.out
    have hbt9 : Boxed w9 (w1.heap.size + 1) 22 (.slice p ts.length cp) := (HC.out.alloc _).kept k2 hcn
    have hbt10 : Boxed (w9.setCell ⟨w1.heap.size, 0, none⟩ (.slice p9 (m + 1) c9)) (w1.heap.size + 1) 22 (.slice p ts.length cp) := Boxed.other hbt9 (by omega) _
    refine ⟨hx4, ⟨hx5, fun b hb j => ?_⟩, ⟨_, hx2, ?_, ?_⟩, hbt10, HB.out.trans hx5⟩
    · obtain rfl : b = w1.heap.size + 1 := by simpa using hb
      have h1 : (w9.setCell ⟨w1.heap.size, 0, none⟩ (.slice p9 (m + 1) c9)).heap[w1.heap.size + 1]? = W.heap[w1.heap.size + 1]? := by
        rw [show W.heap[w1.heap.size + 1]? = _ from HC.out, show (w9.setCell ⟨w1.heap.size, 0, none⟩ (.slice p9 (m + 1) c9)).heap[w1.heap.size + 1]? = _ from hbt10]
      exact World.cell?_of_block (w := W) (a := ⟨w1.heap.size + 1, j, none⟩) h1
    · rw [List.length_append, HM.out, HS.out]; exact hx3
    · rw [List.length_append, HM.out]; simp; omega
  case done =>
    rintro D ys W hD rfl ⟨⟨u, hbx, hrow, hpl⟩, hc, hB⟩ hK
    rw [List.length_finRange, placesF_all] at hrow
    obtain ⟨pu, cu, rfl⟩ := B.owns_form hrow
    have hcB := hbx.cell
    have HROW := Lib.hid hrow
    have HB := Lib.hid hB
    clear hbx hrow hpl hc hB HI0 hST hNT HK HZ
    gi_wp2
    refine ⟨by simp, .inl ⟨_, _, rfl, run_takeDeferred hK, ?_⟩⟩
    refine ⟨.tuple #[.slice pu l.length cu, .int .i64 0], by simp [results, Tryz.results125, go_sem], _, rfl, ownsRow_putObj HROW.out _ hK rfl, ?_⟩
    exact Below.trans (Below.trans HLL.out HB.out) (Below.grown (Below.refl _ _) (grownBy_putObj' W D (.deferred none)) (by have := HB.out.size; omega) (fun k e => by cases e; omega))
  case stop =>
    rintro D c pre W _ _ h _
    exact h.elim
end Go.Proofs.YtkjabiabeemfhaaGreatDoor
end
section
namespace Go.Proofs.YtkjabiabeemfhaaGreatDoor
open Go.RowKit
set_option maxRecDepth 100000
theorem zero_choice (w : World) : (zeroValue 152).run Tryz.prog w = .ok (.agg #[.int .i64 0, .int .i64 0, .int .i64 0]) w := by kernel_rfl
set_option maxHeartbeats 1600000 in
theorem choice_any (p m1 m2 : Nat) (fx : List ((Int × Int) × (Int × Int))) (ch : List ((Int × Int) × Int)) (k d : Int) (w : World) (hF : FactsAt w p m1 m2 fx ch) (hk : I64 k) (hd : I64 d) :
    Calls Tryz.prog 25 #[.pointer (some ⟨p, 0, none⟩), .int .i64 k, .int .i64 d] w fun e w' =>
      e = .returned (.tuple #[.int .i64 ((getA ch (k, d)).getD 0), .bool (getA ch (k, d)).isSome]) ∧ Later w w' := by
  obtain ⟨lit, hlit⟩ := place_key (k, d) hk hd
  have HL := Lib.hid (fun W (hl : Later w W) => map_lookup place_law placeV_inj Tryz.underlying146 (hF.x2.later hl) (k, d) hlit (zero_choice W))
  have g0 := hF.c1
  have z0 := World.block_lt_of_cell? _ _ g0
  obtain ⟨g, hg⟩ : ∃ g, getA ch (k, d) = g := ⟨_, rfl⟩
  have hrun : ∃ a b, ∀ W, Later w W → (Instr.lookup 146 (.map (some m2)) (.agg #[.int .i64 k, .int .i64 d]) true).run Tryz.prog W = .ok (.tuple #[.agg #[.int .i64 a, .int .i64 b, .int .i64 (g.getD 0)], .bool g.isSome]) W := by
    cases hga : getA ch (k, d) with
    | none => rw [← hg, hga]; exact ⟨0, 0, fun W hl => by have := HL.out W hl; rw [hga] at this; exact this⟩
    | some v => rw [← hg, hga]; exact ⟨k, d, fun W hl => by have := HL.out W hl; rw [hga] at this; exact this⟩
  obtain ⟨a, b, hrun⟩ := hrun
  rw [hg]
  generalize g.getD 0 = g1 at hrun ⊢
  generalize g.isSome = g2 at hrun ⊢
  clear HL hF hk hd hlit hg
  have hrun1 := hrun _ (Later.refl _)
  go_enter Tryz.func25, Tryz.ntmps25
  go_wp2
  go_ret2
  exact ⟨rfl, by repeat (first | with_reducible exact Later.refl _ | with_reducible assumption | with_reducible refine Later.ofdrew ?_ | with_reducible refine Later.ofdrewN ?_ | with_reducible refine Later.setCell ?_ ?_ _ | with_reducible refine Later.alloc ?_ _ | with_reducible refine Later.drewN ?_ _ | with_reducible refine Later.drew ?_ | (with_reducible refine Later.trans ?_ (by assumption)) | (simp only [World.size_setCell, World.size_alloc, World.heap_drewN]; omega) | (simp; done) | (simp; omega))⟩
end Go.Proofs.YtkjabiabeemfhaaGreatDoor
end
section
namespace Go.Proofs.YtkjabiabeemfhaaGreatDoor
open Go.RowKit
set_option maxRecDepth 100000
theorem step14 (env : Env) (tod a b' vn vd : Int) (l : List Tm) (k : Nat) (day n d : Int) : stepT env tod ⟨14, a, b', vn, vd⟩ l k day n d = (0, if day ≤ a then kidH l k 0 a n d else [], [], []) := by simp [stepT]
end Go.Proofs.YtkjabiabeemfhaaGreatDoor
end
section
namespace Go.Proofs.YtkjabiabeemfhaaGreatDoor
open Go.RowKit
set_option maxRecDepth 100000
def ValE (lo : Nat) (w : World) (b : Nat) (tv : Value) (tod : Int) (fp rv fv wv : Value) (H : List Hd) (F : List Fl) (W : List Wt) (A : Nat) (asks : List Wt) (E : Int) (K : Bool) (out : List Q2) (e : Ending) (w' : World) : Prop :=
  ∃ wv', StudyAt lo w' b tv tod fp rv fv wv' H F (W ++ if E = 0 ∧ K = false then asks else []) ∧ S.LatB (fun k => k = b ∨ wv.ownBlock = some k) w w' ∧ S.LatB (fun k => k < A) w w' ∧
    ∃ v' k', e = .returned (.tuple #[v', .bool k', .int .i64 E]) ∧ (E = 0 → k' = K ∧ IsRats w' v' out)
theorem ValE.out {lo : Nat} {w : World} {b : Nat} {tv : Value} {tod : Int} {fp rv fv wv : Value} {H : List Hd} {F : List Fl} {W : List Wt} {A : Nat} {asks : List Wt} {E : Int} {K : Bool} {out : List Q2} {e : Ending} {w' : World} (h : ValE lo w b tv tod fp rv fv wv H F W A asks E K out e w') :
    ∃ wv', StudyAt lo w' b tv tod fp rv fv wv' H F (W ++ if E = 0 ∧ K = false then asks else []) ∧ S.LatB (fun k => k = b ∨ wv.ownBlock = some k) w w' ∧ S.LatB (fun k => k < A) w w' ∧ ∃ v' k', e = .returned (.tuple #[v', .bool k', .int .i64 E]) ∧ (E = 0 → k' = K ∧ IsRats w' v' out) := h
section
variable {w0 : World} {ts : List Nd} {T : Tm} {tv : Value} {fx : FxL} {ch : ChL} {p m1 m2 : Nat}
end
theorem own_new {n c k : Nat} {i : Nat} {w : World} (h : (Value.slice (some ⟨i, 0, none⟩) n c).ownBlock = some k) (hi : w.heap.size ≤ i) : w.heap.size ≤ k := by cases h; exact hi
end Go.Proofs.YtkjabiabeemfhaaGreatDoor
end
section
namespace Go.Proofs.YtkjabiabeemfhaaGreatDoor
open Go.RowKit Go.Sort
theorem sort_que {P : Program} {ρ : Go.Shelf.Ren} {α : Type} [Inhabited α] (L : SlLaysF0.n6 P ρ) (k : Nat) (aE : ∀ w, (isAgg (ρ.t 24)).run P w = .ok true w) (zE : ∀ w, (Go.sizeOf (ρ.t 24)).run P w = .ok k w) (cs : α → List Value) (hk : ∀ x, (cs x).length = k) (h0 : 0 < k)
    (h1 : ∀ x, ∀ v ∈ cs x, v.oneCell' = true) (cf : α → α → Int) (hO : SWO (ltOf cf)) (hT : ∀ x y, (ltOf cf) x y = false → (ltOf cf) y x = false → x = y) (g : Nat) (eg : ∀ args w, (callFunc g args).run P w = .ok (.enter g args) w)
    (hcmp : ∀ x y W, Calls P g #[.agg (cs x).toArray, .agg (cs y).toArray] W fun e w' => e = .returned (.int .i64 (cf x y)) ∧ ∃ q os', w' = grow (W.drewN q) os')
    (l : List α) (hlen : l.length ≤ 1000000) (base : Nat) (v : Value) (w : World) (hQ : B.Que base k w v l.length (l.flatMap cs)) :
    Calls P (ρ.f 6) #[v, .func (.func g) #[] #[]] w fun e w' => e = .returned (.tuple #[]) ∧ B.Que base k w' v l.length ((sortL cf l).flatMap cs) ∧ S.LatB (fun b => v.ownBlock = some b) w w' := by
  rcases hQ.2 with ⟨h2, h3⟩ | ⟨b, o, cap, h2, h3, h4, h5, h6, h7, h8⟩
  · have hl : l = [] := List.eq_nil_of_length_eq_zero h3
    subst hl h2
    exact (AnyF.slices_SortFunc_none L none 0 _ w).mono fun e w' ⟨he, hw⟩ => ⟨he, by subst hw; rw [show sortL cf [] = [] by simp [sortL]]; exact hQ, by subst hw; exact S.LatB.refl _⟩
  · subst h2
    obtain ⟨hH, -, hb⟩ := B.holdsK_of_que hk h0 hQ
    refine (AnyQ.slices_SortFunc_total L k aE zE cs hk h1 cf hO g #[] b o cap l.toArray w eg (fun m os dk _ x y => hcmp x y _) hH hb (by simp; omega) hT).mono fun e w' ⟨he, n, os, hw⟩ => ⟨he, ?_⟩
    subst hw
    obtain ⟨h9, h10⟩ := B.que_sorted (d' := (sortL cf l).toArray) (m := n) (os := os) hk h0 hQ (by simp [sortL])
    exact ⟨h9, h10.mono (fun k hk => by rw [hk]; rfl)⟩
end Go.Proofs.YtkjabiabeemfhaaGreatDoor
end
section
namespace Go.Proofs.YtkjabiabeemfhaaGreatDoor
open Go.RowKit
set_option maxRecDepth 100000
open Go.WideMaps Go.ChangeMaps
section
variable {P : Program}
theorem heap_put_same {w : World} {r : Nat} {o o' : Obj} (h : w.heap[r]? = some o) : (setBlock w r o').heap[r]? = some o' := by
  have : r < w.heap.size := (Array.getElem?_eq_some_iff.1 h).1
  simp [setBlock, this]
theorem heap_put_other (w : World) {r k : Nat} (o : Obj) (h : k ≠ r) : (setBlock w r o).heap[k]? = w.heap[k]? := by
  simp only [setBlock]
  rw [Array.getElem?_setIfInBounds_ne (fun e => h e.symm)]
theorem run_setObj_at {w : World} {r : Nat} {a : Option Nat} {b c : Nat} {s : Array Nat} (h : w.heap[r]? = some (.mapIter a b s c)) (o' : Obj) : (setObj r o').run P w = .ok () (setBlock w r o') := by
  simp only [setObj, Sem.run, h]
  rfl
theorem run_next_at (w : World) (ty : TypeId) (r bm since c0 : Nat) (seen : Array Nat) (es : Array MapEntry) (clock : Nat) (hr : w.heap[r]? = some (.mapIter (some bm) since seen c0)) (hb : w.heap[bm]? = some (.map es clock)) (hold : ∀ x ∈ es.toList, x.born < since) (hsc : since ≤ c0) :
    ((leftOf es seen).size = 0 ∧ (Instr.next (.pointer (some ⟨r, 0, none⟩)) false ty).run P w = .ok (.tuple #[.bool false]) w) ∨
    ∃ e ∈ (leftOf es seen).toList, ∃ w', (Instr.next (.pointer (some ⟨r, 0, none⟩)) false ty).run P w = .ok (.tuple #[.bool true, e.key, e.val]) w' ∧ w'.heap[r]? = some (.mapIter (some bm) since (seen.push e.born) clock) ∧ w.grownBy w' (some r) ∧ w'.heap.size = w.heap.size := by
  simp only [Instr.next, getObj, Sem.run_bind, Sem.run, hr, hb, Result.andThen, next_test_false seen es since c0 hold hsc, Bool.false_eq_true, if_false]
  unfold leftOf
  have hmem : ∀ x ∈ (Array.filter (fun e => !seen.contains e.born) es).toList, x.born < since := fun x hx => hold x (by simp at hx ⊢; exact hx.1)
  generalize Array.filter (fun e => !seen.contains e.born) es = L at hmem ⊢
  have e1 : L.filter (fun x => decide (x.born < since)) = L := Array.filter_eq_self.2 (fun x hx => by simpa using hmem x (by simpa using hx))
  have e2 : L.filter (fun x => decide (x.born ≥ since)) = #[] := by
    rw [Array.filter_eq_empty_iff]
    intro x hx
    have := hmem x (by simpa using hx)
    simp
    omega
  simp only [e1, e2, Array.append_empty]
  by_cases h0 : L.size = 0
  · left
    have : L = #[] := Array.eq_empty_of_size_eq_zero h0
    subst this
    refine ⟨rfl, ?_⟩
    simp [choose, Sem.run, Question.forced]
  · right
    have hne : L.isEmpty = false := by simp [Array.isEmpty, h0]
    simp only [hne, Bool.false_eq_true, if_false, Array.empty_append, Array.size_map]
    have hch : ∃ (j : Nat) (w1 : World), j < L.size ∧ w1.os = w.os ∧ w1.tape = w.tape ∧ w1.output = w.output ∧ w1.heap = w.heap ∧ (choose (Question.mapNext L.size)).run P w = .ok j w1 := by
      by_cases hf : L.size ≤ 1
      · exact ⟨0, w, by omega, rfl, rfl, rfl, rfl, by simp [choose, Sem.run, Question.forced, hf]⟩
      · exact ⟨_, w.drew, Nat.mod_lt _ (by omega), rfl, rfl, rfl, rfl, by
          simp only [choose, Sem.run, Question.forced, decide_eq_true_eq, hf, if_false, Question.cut]
          rfl⟩
    obtain ⟨j, w1, hj, a1, a2, a3, a4, hrun⟩ := hch
    have hr1 : w1.heap[r]? = some (.mapIter (some bm) since seen c0) := by rw [a4]; exact hr
    refine ⟨L[j], by simp, setBlock w1 r (.mapIter (some bm) since (seen.push L[j].born) clock), ?_, heap_put_same hr1, ⟨a1, a2, a3, by simp [setBlock, a4], fun k _ hk => ?_⟩, by simp [setBlock, a4]⟩
    · simp only [hrun, Array.getElem?_map, Array.getElem?_eq_getElem hj, Option.map_some, Sem.run_bind, run_setObj_at hr1, Result.andThen]
      rfl
    · rw [heap_put_other _ _ (fun e => hk (by rw [e])), a4]
theorem run_entry_at (w : World) (r bm since : Nat) (seen : Array Nat) (es : Array MapEntry) (clock : Nat) (e : MapEntry) (hr : w.heap[r]? = some (.mapIter (some bm) since (seen.push e.born) clock)) (hb : w.heap[bm]? = some (.map es clock)) (he : e ∈ es.toList) (hn : (es.toList.map (·.born)).Nodup) :
    (Instr.entry (.pointer (some ⟨r, 0, none⟩))).run P w = .ok (.tuple #[e.key, e.val]) w := by
  have hf : es.find? (·.born == e.born) = some e := by rw [← Array.find?_toList]; exact find_born e es.toList hn he
  simp only [Instr.entry, getObj, Sem.run_bind, Sem.run, hr, hb, Result.andThen, Array.back?_push, bne_self_eq_false, Bool.false_eq_true, if_false, hf]
  rfl
variable {ops : Array Oper} {rest : List Oper} {o : Oper} {a : Act} {w : World} {Q : Exit → Act → World → Prop}
end
section
variable {κ β : Type} {P : Program} {k : TypeId} {ek : κ → Value} {ev : κ → β → Value} {l : List (κ × β)} {es : Array MapEntry}
structure Got (es : Array MapEntry) (l : List (κ × β)) (seen : Array Nat) (xs : List κ) : Prop where
  nodup : xs.Nodup
  mem : ∀ (i : Nat) (e : MapEntry) (p : κ × β), es.toList[i]? = some e → l[i]? = some p → (seen.contains e.born = true ↔ p.1 ∈ xs)
  sub : ∀ x ∈ xs, ∃ p ∈ l, p.1 = x
theorem Got.start (es : Array MapEntry) (l : List (κ × β)) : Got es l #[] [] := ⟨by simp, by simp, by simp⟩
theorem left_at {seen : Array Nat} {e : MapEntry} (he : e ∈ (leftOf es seen).toList) : ∃ i : Nat, es.toList[i]? = some e ∧ seen.contains e.born = false := by
  obtain ⟨h1, h2⟩ := mem_left he
  obtain ⟨i, hi, rfl⟩ := List.getElem_of_mem h1
  exact ⟨i, List.getElem?_eq_getElem hi, h2⟩
theorem Got.step {seen : Array Nat} {xs : List κ} {e : MapEntry} {i : Nat} {p : κ × β} (h : Got es l seen xs) (hlen : es.toList.length = l.length) (hl : (l.map (·.1)).Nodup) (hb : (es.toList.map (·.born)).Nodup) (he : es.toList[i]? = some e) (hp : l[i]? = some p) (hn : seen.contains e.born = false) :
    Got es l (seen.push e.born) (xs ++ [p.1]) := by
  have hnot : p.1 ∉ xs := fun hm => by rw [(h.mem i e p he hp).2 hm] at hn; cases hn
  refine ⟨?_, fun j e' p' he' hp' => ?_, fun x hx => ?_⟩
  · rw [List.nodup_append]
    refine ⟨h.nodup, by simp, ?_⟩
    intro a ha b hb
    simp at hb
    subst hb
    rintro rfl
    exact hnot ha
  · rw [contains_push, Bool.or_eq_true, h.mem j e' p' he' hp', List.mem_append, List.mem_singleton, beq_iff_eq]
    have : e'.born = e.born ↔ p'.1 = p.1 := by
      constructor
      · intro hbe
        have hij : j = i := by
          have a1 : (es.toList.map (·.born))[j]? = some e.born := by rw [List.getElem?_map, he', ← hbe]; rfl
          have a2 : (es.toList.map (·.born))[i]? = some e.born := by rw [List.getElem?_map, he]; rfl
          exact (List.getElem?_inj (List.getElem?_eq_some_iff.1 a1).1 hb).1 (a1.trans a2.symm)
        subst hij
        rw [hp] at hp'
        cases hp'
        rfl
      · intro hpe
        have hij : j = i := by
          have a1 : (l.map (·.1))[j]? = some p.1 := by rw [List.getElem?_map, hp', ← hpe]; rfl
          have a2 : (l.map (·.1))[i]? = some p.1 := by rw [List.getElem?_map, hp]; rfl
          exact (List.getElem?_inj (List.getElem?_eq_some_iff.1 a1).1 hl).1 (a1.trans a2.symm)
        subst hij
        rw [he] at he'
        cases he'
        rfl
    rw [this]
  · rcases List.mem_append.1 hx with hx | hx
    · exact h.sub x hx
    · simp at hx; subst hx; exact ⟨p, List.mem_of_getElem? hp, rfl⟩
theorem Got.all {seen : Array Nat} {xs : List κ} (h : Got es l seen xs) (hlen : es.toList.length = l.length) (hl : (l.map (·.1)).Nodup) (h0 : (leftOf es seen).size = 0) : xs.Perm (l.map (·.1)) := by
  rw [List.perm_ext_iff_of_nodup h.nodup hl]
  intro x
  constructor
  · intro hx
    obtain ⟨p, hp, rfl⟩ := h.sub x hx
    exact List.mem_map_of_mem hp
  · intro hx
    obtain ⟨p, hp, rfl⟩ := List.mem_map.1 hx
    obtain ⟨i, hi, rfl⟩ := List.getElem_of_mem hp
    have hie : i < es.toList.length := by omega
    refine (h.mem i es.toList[i] l[i] (List.getElem?_eq_getElem hie) (List.getElem?_eq_getElem hi)).1 ?_
    cases hc : seen.contains es.toList[i].born with
    | true => rfl
    | false =>
      have : es.toList[i] ∈ (leftOf es seen) := by
        unfold leftOf
        rw [Array.mem_filter]
        exact ⟨Array.mem_toList_iff.1 (List.getElem_mem hie), by rw [hc]; rfl⟩
      have h1 : leftOf es seen = #[] := Array.eq_empty_of_size_eq_zero h0
      rw [h1] at this
      exact absurd this (by simp)
theorem nodup_len [DecidableEq κ] : ∀ (xs ys : List κ), xs.Nodup → (∀ x ∈ xs, x ∈ ys) → xs.length ≤ ys.length
  | [], _, _, _ => Nat.zero_le _
  | x :: r, ys, hn, hs => by
    rw [List.nodup_cons] at hn
    have hx := hs x (List.mem_cons_self ..)
    have h1 := nodup_len r (ys.erase x) hn.2 (fun y hy => by
      have hne : y ≠ x := fun e => hn.1 (e ▸ hy)
      exact (List.mem_erase_of_ne hne).2 (hs y (List.mem_cons_of_mem _ hy)))
    rw [List.length_erase_of_mem hx] at h1
    have := List.length_pos_of_mem hx
    rw [List.length_cons]
    omega
theorem Got.len [DecidableEq κ] {seen : Array Nat} {xs : List κ} (h : Got es l seen xs) : xs.length ≤ l.length := by
  have := nodup_len xs (l.map (·.1)) h.nodup (fun x hx => by obtain ⟨p, hp, rfl⟩ := h.sub x hx; exact List.mem_map_of_mem hp)
  simpa using this
end
end Go.Proofs.YtkjabiabeemfhaaGreatDoor
end
