/- walks: chattelref05.Keys, chattellaw01.Ints, term.Size -/
import Derived.Test.YtkjabiabeemfhaaGreatDoorQ17
import Derived.Shelf.GgSortFunc.InsertionK
import Derived.Test.YtkjabiabeemfhaaGreatDoorQ1
import Derived.Shelf.SlSortCmp.Insertion
import Derived.Test.YtkjabiabeemfhaaGreatDoorQ16
set_option linter.all false
set_option linter.all false
section
/- rows of structs of a call's own, sorted by the library -/
namespace Go.Proofs.YtkjabiabeemfhaaGreatDoor
open Go.RowKit Go.Sort
namespace B
section
variable {α : Type} [Inhabited α] {k base : Nat} {w : World} {cs : α → List Value}
theorem cell_put (w : World) (g o : Nat) (F : Array Value) (p : Nat) (h : (w.cell? ⟨g, p, none⟩).isSome = true) :
    (putRow id w g o F).cell? ⟨g, p, none⟩ = if o ≤ p ∧ p < o + F.size then some F[p - o]! else w.cell? ⟨g, p, none⟩ := by
  unfold putRow mapBlock World.cell? at *
  simp only [Array.getElem?_modify, if_true] at *
  cases hh : w.heap[g]? with
  | none => rw [hh] at h; simp at h
  | some ob =>
    cases ob with
    | cells c e fr =>
      rw [hh] at h
      simp only [Option.map_some, onCells, putCells, Array.getElem?_mapIdx, Option.isSome_none, Bool.false_eq_true, if_false] at h ⊢
      obtain ⟨v, hv⟩ := Option.isSome_iff_exists.1 h
      rw [hv]
      simp only [Option.map_some, id]
      split <;> rfl
    | _ => rw [hh] at h; simp at h
theorem frozen_put (w : World) (g o : Nat) (F : Array Value) (a : Addr) : (putRow id w g o F).frozen? a = w.frozen? a := by
  unfold putRow mapBlock World.frozen?
  simp only [Array.getElem?_modify]
  by_cases hg : g = a.block
  · subst hg
    simp only [if_true]
    cases hh : w.heap[a.block]? with
    | none => rfl
    | some ob =>
      cases ob with
      | cells c e fr => simp [onCells, putCells]
      | _ => rfl
  · simp [hg]
theorem heap_put (w : World) (g o : Nat) (F : Array Value) (b : Nat) (h : b ≠ g) : (putRow id w g o F).heap[b]? = w.heap[b]? := by
  unfold putRow mapBlock
  simp only [Array.getElem?_modify]
  rw [if_neg (fun e => h e.symm)]
theorem flat_at {xs : List α} (hk : ∀ x, (cs x).length = k) (h0 : 0 < k) {j : Nat} (hj : j < xs.length * k) : (xs.flatMap cs)[j]? = some ((flatK cs k xs.toArray)[j]!) := by
  have hi : j / k < xs.length := by rw [Nat.div_lt_iff_lt_mul h0]; exact hj
  have hm := Nat.mod_lt j h0
  have e : j = j / k * k + j % k := by rw [Nat.mul_comm]; exact (Nat.div_add_mod j k).symm
  rw [get_flatK cs k xs.toArray j (by simpa using hj)]
  conv => lhs; rw [e]
  rw [flat_get cs hk xs (j / k) hi (j % k) hm]
  have h1 : xs.toArray[j / k]! = xs[j / k] := by rw [getElem!_pos _ _ (by simpa using hi)]; simp
  rw [h1, getElem!_pos _ _ (by rw [hk]; exact hm), List.getElem?_eq_getElem (by rw [hk]; exact hm)]
theorem holdsK_of_que {xs : List α} {g o n cap : Nat} (hk : ∀ x, (cs x).length = k) (h0 : 0 < k) (h : Que base k w (.slice (some ⟨g, o, none⟩) n cap) n (xs.flatMap cs)) : HoldsK cs k w g o xs.toArray ∧ n = xs.length ∧ g < w.heap.size := by
  have hn : n = xs.length := by have := h.1; rw [flat_len cs hk] at this; exact (Nat.eq_of_mul_eq_mul_right h0 this).symm
  subst hn
  rcases h.2 with ⟨h1, _⟩ | ⟨g', o', cap', h1, h2, h3, h4, h5, h6, h7⟩
  · cases h1
  · cases h1
    refine ⟨fun j hj => ?_, rfl, h3⟩
    rw [size_flatK, List.size_toArray] at hj
    have hc : xs.length * k ≤ cap * k := Nat.mul_le_mul_right k h4
    refine ⟨?_, (h7 j (by omega)).2⟩
    rw [h6 j hj, flat_at hk h0 hj]; rfl
/-- Behind a sort: the row holds the others, and nothing else has changed. -/
theorem que_sorted {xs : List α} {d' : Array α} {g o n cap m : Nat} {os : Array Obj} (hk : ∀ x, (cs x).length = k) (h0 : 0 < k) (h : Que base k w (.slice (some ⟨g, o, none⟩) n cap) n (xs.flatMap cs)) (hs : d'.size = n) :
    Que base k (sortWorldK cs k w g o m d' os) (.slice (some ⟨g, o, none⟩) n cap) n (d'.toList.flatMap cs) ∧ S.LatB (fun b => b = g) w (sortWorldK cs k w g o m d' os) := by
  rcases h.2 with ⟨h1, _⟩ | ⟨g', o', cap', h1, h2, h3, h4, h5, h6, h7⟩
  · cases h1
  · cases h1
    have hc : n * k ≤ cap * k := Nat.mul_le_mul_right k h4
    have hsz : (putRowK cs k (Sort.ahead w m) g o d').heap.size = w.heap.size := by unfold putRowK putRow mapBlock; simp [Sort.ahead]
    have cellG : ∀ p, (sortWorldK cs k w g o m d' os).cell? ⟨g, p, none⟩ = (putRow id w g o (flatK cs k d')).cell? ⟨g, p, none⟩ := fun p => by
      unfold sortWorldK
      rw [cell?_grow _ _ _ (by rw [hsz]; exact h3)]
      rfl
    have frozG : ∀ p, (sortWorldK cs k w g o m d' os).frozen? ⟨g, p, none⟩ = w.frozen? ⟨g, p, none⟩ := fun p => by
      unfold sortWorldK
      rw [frozen?_grow _ _ _ (by rw [hsz]; exact h3)]
      exact frozen_put w g o _ _
    refine ⟨⟨by rw [flat_len cs hk, Array.length_toList, hs], .inr ⟨g, o, cap, rfl, h2, ?_, h4, h5, fun j hj => ?_, fun j hj => ?_⟩⟩, ?_⟩
    · unfold sortWorldK; rw [size_grow, hsz]; omega
    · rw [cellG, cell_put w g o _ _ (h7 j (by omega)).1, size_flatK, hs, if_pos ⟨by omega, by omega⟩, show o + j - o = j by omega]
      rw [flat_at hk h0 (by rw [Array.length_toList, hs]; exact hj)]
    · rw [frozG, cellG, cell_put w g o _ _ (h7 j hj).1]
      refine ⟨?_, (h7 j hj).2⟩
      split
      · rfl
      · exact (h7 j hj).1
    · unfold sortWorldK
      refine ⟨rfl, rfl, rfl, by rw [size_grow, hsz]; omega, fun b hb hne => ?_⟩
      rw [heap_grow_old _ _ (by rw [hsz]; exact hb)]
      exact heap_put w g o _ b hne
end
end B
end Go.Proofs.YtkjabiabeemfhaaGreatDoor
end
section
/- orders of flows and waits: the closures that the sort calls -/
namespace Go.Proofs.YtkjabiabeemfhaaGreatDoor
open Go.RowKit Go.Sort

def firstNz : List Int → Int
  | [] => 0
  | x :: r => if x ≠ 0 then x else firstNz r
theorem firstNz_drop {l : List Int} {j : Nat} (h : ∀ i (hi : i < l.length), i < j → l[i] = 0) : firstNz l = firstNz (l.drop j) := by
  induction l generalizing j with
  | nil => simp
  | cons x r ih =>
    cases j with
    | zero => rfl
    | succ j =>
      have h0 : x = 0 := h 0 (by simp) (by omega)
      rw [List.drop_succ_cons, ← ih (fun i hi hj => by have := h (i + 1) (by simpa using hi) (by omega); simpa using this)]
      simp [firstNz, h0]
set_option maxHeartbeats 800000 in
theorem cmpOr_any (l : List Int) (hlen : l.length ≤ 100000) (v : Value) (w : World) (hN : IsInts w v l) : Calls Tryz.prog 52 #[v] w fun e w' => e = .returned (.int .i64 (firstNz l)) ∧ w' = w := by
  obtain ⟨p, cp, rfl⟩ := hN.form
  have HN := Lib.hid hN
  clear hN
  obtain ⟨L, hL⟩ : ∃ L, l.length = L := ⟨_, rfl⟩
  rw [hL] at HN hlen ⊢
  have HL := Lib.hid hL
  obtain ⟨R, hR⟩ : ∃ R, firstNz l = R := ⟨_, rfl⟩
  rw [hR]
  have HR := Lib.hid hR
  clear hL hR
  go_enter Tryz.func52, Tryz.ntmps52
  go_wp2
  go_loopw [8] (fun s8 wr => ∃ j : Nat, j ≤ L ∧ s8 = .int .i64 j ∧ Hid (∀ i (h : i < l.length), i < j → l[i] = 0) ∧ wr = w) (fun s8 _ => L - (intOf s8).toNat)
  case atStart => exact ⟨0, Nat.zero_le _, rfl, Lib.hid (fun i _ h => by omega), rfl⟩
  case round =>
    obtain ⟨j, hj, rfl, H0, rfl⟩ := hrel
    by_cases hlt : j < L
    · have hltI : (j : Int) < L := by omega
      have hjl : j < l.length := by rw [HL.out]; exact hlt
      obtain ⟨b, o, cp', hv, hb, g⟩ := HN.out.full hjl
      rw [HL.out] at hv
      cases hv
      have HD : Hid (R = if l[j] ≠ 0 then l[j] else firstNz (l.drop (j + 1))) := Lib.hid (by
        rw [← HR.out, firstNz_drop H0.out, List.drop_eq_getElem_cons hjl]; rfl)
      have HS : Hid (l[j] = 0 → ∀ i (h : i < l.length), i < j + 1 → l[i] = 0) := Lib.hid (fun e i h h1 => by
        by_cases h2 : i = j
        · subst h2; exact e
        · exact H0.out i h (by omega))
      generalize l[j] = x at *
      clear H0 HN HR
      by_cases hx : x = 0
      · subst hx
        have H1 := Lib.hid (HS.out rfl)
        clear HS HD
        go_wp2
        go_roundw
        case rel => exact ⟨j + 1, by omega, by go_num, H1, trivial⟩
        case measure => simp [intOf]; omega
      · have hb1 : (x != 0) = true := by rw [bne_iff_ne]; exact hx
        have hb2 : (x == 0) = false := by rw [beq_eq_false_iff_ne]; exact hx
        have hRx : Hid (R = x) := Lib.hid (by rw [HD.out, if_pos hx])
        clear HS HD
        go_wp2
        go_ret
        exact ⟨ret_int hRx.out.symm, rfl⟩
    · have hge : ¬ ((j : Int) < L) := by omega
      have hR0 : Hid (R = 0) := Lib.hid (by
        rw [← HR.out, firstNz_drop H0.out, List.drop_of_length_le (by rw [HL.out]; omega)]; rfl)
      clear H0 HN HR
      go_wp2
      go_ret
      exact ⟨ret_int hR0.out.symm, rfl⟩

/-! Flows -/
theorem ints3 {w : World} {ta : TypeId} {k : Nat} (a b c : Int) (hk : k = w.heap.size) : IsInts (w.alloc (.cells #[.int .i64 a, .int .i64 b, .int .i64 c] ta)).drew (.slice (some ⟨k, 0, none⟩) 3 3) [a, b, c] := by
  subst hk
  obtain ⟨z, hc, -⟩ := own_get (own_alloc w #[.int .i64 a, .int .i64 b, .int .i64 c] ta)
  refine .inr ⟨w.heap.size, 0, 3, rfl, z, Nat.le_refl _, by unfold maxLen; omega, fun j hj => ?_⟩
  have hj3 : j < 3 := hj
  show (w.alloc _).cell? _ = _
  rw [Nat.zero_add, hc j]
  rcases j with _ | _ | _ | j
  · rfl
  · rfl
  · rfl
  · omega
def ordF (x y : Fl) : Int := firstNz [Lib.compareInt x.day y.day, Lib.compareInt x.cur y.cur, Lib.compareInt x.amt y.amt]
set_option maxHeartbeats 1600000 in
theorem dorder_any (x y : Fl) (W : World) : Calls Tryz.prog 49 #[.agg (flCs x).toArray, .agg (flCs y).toArray] W fun e w' => e = .returned (.int .i64 (ordF x y)) ∧ ∃ q os', w' = grow (W.drewN q) os' := by
  obtain ⟨R, hR⟩ : ∃ R, ordF x y = R := ⟨_, rfl⟩
  rw [hR]
  unfold ordF at hR
  have HR := Lib.hid hR
  clear hR
  obtain ⟨a, ha⟩ : ∃ a, Lib.compareInt x.day y.day = a := ⟨_, rfl⟩
  obtain ⟨b, hb⟩ : ∃ b, Lib.compareInt x.cur y.cur = b := ⟨_, rfl⟩
  obtain ⟨c, hc⟩ : ∃ c, Lib.compareInt x.amt y.amt = c := ⟨_, rfl⟩
  rw [ha, hb, hc] at HR
  have H1 := Lib.hid (fun W => ha ▸ Tryz.cmp_Compare_int x.day y.day W)
  have H2 := Lib.hid (fun W => hb ▸ Tryz.cmp_Compare_int x.cur y.cur W)
  have H3 := Lib.hid (fun W => hc ▸ Tryz.cmp_Compare_int x.amt y.amt W)
  have HO := Lib.hid (fun (v : Value) W (h : IsInts W v [a, b, c]) => cmpOr_any [a, b, c] (by simp) v W h)
  rw [HR.out] at HO
  obtain ⟨x1, x2, x3⟩ := x
  obtain ⟨y1, y2, y3⟩ := y
  show Calls Tryz.prog 49 #[.agg #[.int .i64 x1, .int .i64 x2, .int .i64 x3], .agg #[.int .i64 y1, .int .i64 y2, .int .i64 y3]] W _
  simp only at H1 H2 H3
  clear ha hb hc HR
  have tok1 : True := trivial
  have tok2 : True := trivial
  go_enter Tryz.func49, Tryz.ntmps49
  go_upto_region 1 with (fail)
  refine wp_region_plan 18 (.one [0, 1, 2, 3, 5, 6, 7, 8, 10, 11, 12, 13] 4 (.one [] 9 (.one [] 14 (.one [] 15 (.one [] 16 (.done [17])))))) (by kernel_rfl) (by kernel_rfl) (fun _ _ d _ _ h => by cases d <;> exact h) ?_
  repeat' (first
    | (refine plan_done (fun K hK => ?_); (first | (simp only [pick_cons, pick_nil, toList_some_append, List.getElem?_toArray, List.getElem?_cons_zero, List.getElem?_cons_succ]; repeat (go_big_quiet_step (fail))) | simp only [pick_nil]); refine wpQuiet_nil (hK _ ?_); clear hK K)
    | (refine plan_one (by rfl) (fun K hK => ?_); (first | (simp only [pick_cons, pick_nil, toList_some_append, List.getElem?_toArray, List.getElem?_cons_zero, List.getElem?_cons_succ]; repeat (go_big_quiet_step (fail))) | simp only [pick_nil]); refine wpQuiet_nil (hK _ ?_); clear hK K)
    | ((with_reducible refine at_list ?_); go_wp2_with (first | (go_at_call 53; first | ((with_reducible refine (H1.out _).mono ?_); rintro e w3 ⟨rfl, rfl⟩) | ((with_reducible refine (H2.out _).mono ?_); rintro e w3 ⟨rfl, rfl⟩) | ((with_reducible refine (H3.out _).mono ?_); rintro e w3 ⟨rfl, rfl⟩)) | (go_at_call 52; go_must (refine (HO.out _ _ (ints3 a b c (by simp))).mono ?_; rintro e w9 ⟨rfl, rfl⟩))); first | refine behind_store (t := 18) (by decide) ?_ | refine behind (by repeat (first | with_reducible exact Later.refl _ | with_reducible assumption | with_reducible refine Later.ofdrew ?_ | with_reducible refine Later.ofdrewN ?_ | with_reducible refine Later.alloc ?_ _ | with_reducible refine Later.drewN ?_ _ | with_reducible refine Later.drew ?_ | (with_reducible refine Later.trans ?_ (by assumption)))) ?_))
  go_wp2
  go_ret
  exact ⟨rfl, 1, _, by rw [alloc_eq_grow, alloc_eq_grow, alloc_eq_grow, grow_grow, grow_grow]; rfl⟩

/-! Waits -/
def wtCs (x : Wt) : List Value := [.bool x.cho, .int .i64 x.key, .int .i64 x.day]
def bI (b : Bool) : Int := if b then 1 else 0
def ordW (x y : Wt) : Int := firstNz [Lib.compareInt x.day y.day, Lib.compareInt (bI x.cho) (bI y.cho), Lib.compareInt x.key y.key]
set_option maxHeartbeats 400000 in
theorem flag_any (b : Bool) (w : World) : Calls Tryz.prog 54 #[.bool b] w fun e w' => e = .returned (.int .i64 (bI b)) ∧ w' = w := by
  cases b
  all_goals
    go_enter Tryz.func54, Tryz.ntmps54
    go_wp2
    go_ret
    exact ⟨rfl, rfl⟩
set_option maxHeartbeats 1600000 in
theorem worder_any (x y : Wt) (W : World) : Calls Tryz.prog 51 #[.agg (wtCs x).toArray, .agg (wtCs y).toArray] W fun e w' => e = .returned (.int .i64 (ordW x y)) ∧ ∃ q os', w' = grow (W.drewN q) os' := by
  obtain ⟨R, hR⟩ : ∃ R, ordW x y = R := ⟨_, rfl⟩
  rw [hR]
  unfold ordW at hR
  have HR := Lib.hid hR
  clear hR
  obtain ⟨p, hp⟩ : ∃ p, bI x.cho = p := ⟨_, rfl⟩
  obtain ⟨q, hq⟩ : ∃ p, bI y.cho = p := ⟨_, rfl⟩
  rw [hp, hq] at HR
  obtain ⟨a, ha⟩ : ∃ a, Lib.compareInt x.day y.day = a := ⟨_, rfl⟩
  obtain ⟨b, hb⟩ : ∃ b, Lib.compareInt p q = b := ⟨_, rfl⟩
  obtain ⟨c, hc⟩ : ∃ c, Lib.compareInt x.key y.key = c := ⟨_, rfl⟩
  rw [ha, hb, hc] at HR
  have H1 := Lib.hid (fun W => ha ▸ Tryz.cmp_Compare_int x.day y.day W)
  have H2 := Lib.hid (fun W => hb ▸ Tryz.cmp_Compare_int p q W)
  have H3 := Lib.hid (fun W => hc ▸ Tryz.cmp_Compare_int x.key y.key W)
  have H4 := Lib.hid (fun W => hp ▸ flag_any x.cho W)
  have H5 := Lib.hid (fun W => hq ▸ flag_any y.cho W)
  have HO := Lib.hid (fun (v : Value) W (h : IsInts W v [a, b, c]) => cmpOr_any [a, b, c] (by simp) v W h)
  rw [HR.out] at HO
  obtain ⟨x1, x2, x3⟩ := x
  obtain ⟨y1, y2, y3⟩ := y
  show Calls Tryz.prog 51 #[.agg #[.bool x1, .int .i64 x2, .int .i64 x3], .agg #[.bool y1, .int .i64 y2, .int .i64 y3]] W _
  simp only at H1 H2 H3 H4 H5
  clear ha hb hc HR hp hq
  go_enter Tryz.func51, Tryz.ntmps51
  go_upto_region 1 with (fail)
  refine wp_region_plan 20 (.one [0, 1, 2, 3, 5, 6, 8, 9, 12, 13, 14, 15] 4 (.one [] 7 (.one [] 10 (.one [] 11 (.one [] 16 (.one [] 17 (.one [] 18 (.done [19])))))))) (by kernel_rfl) (by kernel_rfl) (fun _ _ d _ _ h => by cases d <;> exact h) ?_
  repeat' (first
    | (refine plan_done (fun K hK => ?_); (first | (simp only [pick_cons, pick_nil, toList_some_append, List.getElem?_toArray, List.getElem?_cons_zero, List.getElem?_cons_succ]; repeat (go_big_quiet_step (fail))) | simp only [pick_nil]); refine wpQuiet_nil (hK _ ?_); clear hK K)
    | (refine plan_one (by rfl) (fun K hK => ?_); (first | (simp only [pick_cons, pick_nil, toList_some_append, List.getElem?_toArray, List.getElem?_cons_zero, List.getElem?_cons_succ]; repeat (go_big_quiet_step (fail))) | simp only [pick_nil]); refine wpQuiet_nil (hK _ ?_); clear hK K)
    | ((with_reducible refine at_list ?_); go_wp2_with (first | (go_at_call 53; first | ((with_reducible refine (H1.out _).mono ?_); rintro e w3 ⟨rfl, rfl⟩) | ((with_reducible refine (H2.out _).mono ?_); rintro e w3 ⟨rfl, rfl⟩) | ((with_reducible refine (H3.out _).mono ?_); rintro e w3 ⟨rfl, rfl⟩)) | (go_at_call 54; first | ((with_reducible refine (H4.out _).mono ?_); rintro e w3 ⟨rfl, rfl⟩) | ((with_reducible refine (H5.out _).mono ?_); rintro e w3 ⟨rfl, rfl⟩)) | (go_at_call 52; go_must (refine (HO.out _ _ (ints3 a b c (by simp))).mono ?_; rintro e w9 ⟨rfl, rfl⟩))); first | refine behind_store (t := 20) (by decide) ?_ | refine behind (by repeat (first | with_reducible exact Later.refl _ | with_reducible assumption | with_reducible refine Later.ofdrew ?_ | with_reducible refine Later.ofdrewN ?_ | with_reducible refine Later.alloc ?_ _ | with_reducible refine Later.drewN ?_ _ | with_reducible refine Later.drew ?_ | (with_reducible refine Later.trans ?_ (by assumption)))) ?_))
  all_goals
    go_wp2
    go_ret
    exact ⟨rfl, 1, _, by rw [alloc_eq_grow, alloc_eq_grow, alloc_eq_grow, grow_grow, grow_grow]; rfl⟩

end Go.Proofs.YtkjabiabeemfhaaGreatDoor
end
section
/- flows and waits in order: what lists in order are (plain) -/
namespace Go.Proofs.YtkjabiabeemfhaaGreatDoor
open Go.RowKit Go.Sort

def ltF (x y : Fl) : Prop := x.day < y.day ∨ x.day = y.day ∧ (x.cur < y.cur ∨ x.cur = y.cur ∧ x.amt < y.amt)
def ltW (x y : Wt) : Prop := x.day < y.day ∨ x.day = y.day ∧ (bI x.cho < bI y.cho ∨ bI x.cho = bI y.cho ∧ x.key < y.key)
theorem first3 (a b c a' b' c' : Int) : (firstNz [Lib.compareInt a a', Lib.compareInt b b', Lib.compareInt c c'] < 0) ↔ (a < a' ∨ a = a' ∧ (b < b' ∨ b = b' ∧ c < c')) := by
  unfold firstNz firstNz firstNz firstNz Lib.compareInt
  repeat' split
  all_goals (first | omega | (simp_all <;> omega))
theorem ltF_iff (x y : Fl) : ltOf ordF x y = true ↔ ltF x y := by unfold ltOf ordF ltF; rw [decide_eq_true_iff]; exact first3 _ _ _ _ _ _
theorem ltW_iff (x y : Wt) : ltOf ordW x y = true ↔ ltW x y := by unfold ltOf ordW ltW; rw [decide_eq_true_iff]; exact first3 _ _ _ _ _ _
theorem bI_inj {a b : Bool} (h : bI a = bI b) : a = b := by cases a <;> cases b <;> first | rfl | (exact absurd h (by decide))
theorem not_lt {α : Type} {lt : α → α → Bool} {R : α → α → Prop} (h : ∀ x y, lt x y = true ↔ R x y) {x y : α} : lt x y = false ↔ ¬ R x y := by rw [← h]; simp
theorem swoF : SWO (ltOf ordF) where
  irrefl x := by rw [not_lt ltF_iff]; unfold ltF; omega
  trans x y z h1 h2 := by rw [ltF_iff] at *; unfold ltF at *; omega
  ntrans x y z h1 h2 := by rw [not_lt ltF_iff] at *; unfold ltF at *; omega
theorem swoW : SWO (ltOf ordW) where
  irrefl x := by rw [not_lt ltW_iff]; unfold ltW; omega
  trans x y z h1 h2 := by rw [ltW_iff] at *; unfold ltW at *; omega
  ntrans x y z h1 h2 := by rw [not_lt ltW_iff] at *; unfold ltW at *; omega
theorem totF (x y : Fl) (h1 : ltOf ordF x y = false) (h2 : ltOf ordF y x = false) : x = y := by
  rw [not_lt ltF_iff] at *
  unfold ltF at *
  obtain ⟨a, b, c⟩ := x
  obtain ⟨d, e, f⟩ := y
  simp only at *
  have : a = d := by omega
  have : b = e := by omega
  have : c = f := by omega
  simp only [*]
theorem totW (x y : Wt) (h1 : ltOf ordW x y = false) (h2 : ltOf ordW y x = false) : x = y := by
  rw [not_lt ltW_iff] at *
  unfold ltW at *
  obtain ⟨a, b, c⟩ := x
  obtain ⟨d, e, f⟩ := y
  simp only at *
  have : c = f := by omega
  have : bI a = bI d := by omega
  have := bI_inj this
  have : b = e := by omega
  simp only [*]
theorem wtCs_len (x : Wt) : (wtCs x).length = 3 := rfl
theorem wtCs_one (x : Wt) : ∀ u ∈ wtCs x, u.oneCell' = true := by
  intro u hu
  simp only [wtCs, List.mem_cons, List.not_mem_nil, or_false] at hu
  rcases hu with rfl | rfl | rfl <;> rfl
def sortL {α : Type} (cf : α → α → Int) (l : List α) : List α := l.mergeSort (fun x y => !(ltOf cf) y x)
/-! Lists in order -/
theorem sortL_perm {α : Type} (cf : α → α → Int) (l : List α) : (sortL cf l).Perm l := List.mergeSort_perm _ _
theorem sortL_sorted {α : Type} {cf : α → α → Int} (hO : SWO (ltOf cf)) (hT : ∀ x y, (ltOf cf) x y = false → (ltOf cf) y x = false → x = y) (l : List α) : (sortL cf l).Pairwise (fun x y => ltOf cf y x = false) := by
  have h := List.pairwise_mergeSort (le := fun x y => !(ltOf cf) y x) (fun a b c h1 h2 => by simp at *; exact hO.ntrans c b a h2 h1) (fun a b => by
    cases h1 : ltOf cf b a with
    | false => rfl
    | true =>
      cases h2 : ltOf cf a b with
      | false => rfl
      | true => have := hO.trans a b a h2 h1; rw [hO.irrefl] at this; cases this) l
  exact h.imp (fun h => by simpa using h)
/-- Two lists in order of the same elements are one. -/
theorem order_unique {α : Type} {cf : α → α → Int} (hT : ∀ x y, (ltOf cf) x y = false → (ltOf cf) y x = false → x = y) {l m : List α} (h : l.Perm m) (hl : l.Pairwise (fun x y => ltOf cf y x = false)) (hm : m.Pairwise (fun x y => ltOf cf y x = false)) : l = m :=
  List.Perm.eq_of_pairwise (fun a b _ _ h1 h2 => hT a b h2 h1) hl hm h
end Go.Proofs.YtkjabiabeemfhaaGreatDoor
end
section
/- denote: a contract that is gone through (the study), and what is put behind -/
namespace Go.Proofs.YtkjabiabeemfhaaGreatDoor
open Go.RowKit
set_option maxRecDepth 100000

def hdCs (h : Hd) : List Value := [.int .i64 h.pl, .int .i64 h.day, .int .i64 h.n, .int .i64 h.d]
theorem hdCs_len (h : Hd) : (hdCs h).length = 4 := rfl
theorem hdInfo : (Tryz.prog.info? 185).map (fun i => (i.zero, i.size, i.bytes)) = some (some (.agg #[.int .i64 0, .int .i64 0, .int .i64 0, .int .i64 0]), 4, 32) := by kernel_rfl
theorem sliceHold : SliceOf Tryz.prog 103 185 4 32 := sliceOf_mk Tryz.underlying103 hdInfo rfl (by decide)
theorem wtInfo : (Tryz.prog.info? 46).map (fun i => (i.zero, i.size, i.bytes)) = some (some (.agg #[.bool false, .int .i64 0, .int .i64 0]), 3, 24) := by kernel_rfl
theorem sliceWait : SliceOf Tryz.prog 34 46 3 24 := sliceOf_mk Tryz.underlying34 wtInfo rfl (by decide)

structure StudyAt (lo : Nat) (w : World) (b : Nat) (tv : Value) (tod : Int) (fp rv fv wv : Value) (H : List Hd) (F : List Fl) (W : List Wt) : Prop where
  own : Own w [(b, #[tv, .int .i64 tod, fp, rv, fv, wv])]
  lob : lo ≤ b
  rest : B.Que lo 4 w rv H.length (H.flatMap hdCs)
  flows : B.Que lo 3 w fv F.length (F.flatMap flCs)
  waits : B.Que lo 3 w wv W.length (W.flatMap wtCs)
  rb : rv.ownBlock ≠ some b
  fb : fv.ownBlock ≠ some b
  wb : wv.ownBlock ≠ some b
  rf : B.Apart rv fv
  rw : B.Apart rv wv
  fw : B.Apart fv wv
section
variable {lo : Nat} {w w' : World} {b : Nat} {tv : Value} {tod : Int} {fp rv fv wv : Value} {H : List Hd} {F : List Fl} {W : List Wt}
theorem StudyAt.later (h : StudyAt lo w b tv tod fp rv fv wv H F W) (hb : Later w w') : StudyAt lo w' b tv tod fp rv fv wv H F W :=
  ⟨h.own.later hb, h.lob, h.rest.later hb, h.flows.later hb, h.waits.later hb, h.rb, h.fb, h.wb, h.rf, h.rw, h.fw⟩
/-- What is behind a world stays, where no block of it changes. -/
theorem lat_base {Z : Nat → Prop} {w0 : World} (h : S.LatB Z w w') (hl : Later w0 w) (hZ : ∀ k, Z k → w0.heap.size ≤ k) : Later w0 w' :=
  ⟨h.os.trans hl.os, h.tape.trans hl.tape, h.output.trans hl.output, Nat.le_trans hl.size h.size, fun k hk => (h.block k (Nat.lt_of_lt_of_le hk hl.size) (fun e => Nat.lt_irrefl _ (Nat.lt_of_lt_of_le hk (hZ k e)))).trans (hl.block k hk)⟩
theorem lat_step {Z Z' : Nat → Prop} {a : World} (h : S.LatB Z a w) (hZ : ∀ k, Z' k → Z k ∨ a.heap.size ≤ k) (k : S.LatB Z' w w') : S.LatB Z a w' :=
  ⟨k.os.trans h.os, k.tape.trans h.tape, k.output.trans h.output, Nat.le_trans h.size k.size, fun i hi hs => (k.block i (Nat.lt_of_lt_of_le hi h.size) (fun e => (hZ i e).elim hs (fun h => by omega))).trans (h.block i hi hs)⟩
theorem StudyAt.put_rest {w1 w9 : World} {v9 : Value} {L' : List Hd} (hst : StudyAt lo w b tv tod fp rv fv wv H F W) (hl : Later w w1) (hg : w1.grownBy w9 rv.ownBlock) (h3 : v9.ownBlock = rv.ownBlock ∨ ∀ k, v9.ownBlock = some k → w.heap.size ≤ k) (hq : B.Que lo 4 w9 v9 L'.length (L'.flatMap hdCs)) :
    StudyAt lo (w9.setCell ⟨b, 3, none⟩ v9) b tv tod fp v9 fv wv L' F W ∧ S.LatB (fun k => k = b ∨ rv.ownBlock = some k) w (w9.setCell ⟨b, 3, none⟩ v9) := by
  have hz := hst.own.1.1
  have hnb : v9.ownBlock ≠ some b := by
    rcases h3 with h3 | h3
    · rw [h3]; exact hst.rb
    · intro e; have := h3 b e; omega
  have hown : Own w9 [(b, #[tv, .int .i64 tod, fp, rv, fv, wv])] := B.own_grown (hst.own.later hl) hg (fun z hz => by
    simp only [List.mem_cons, List.not_mem_nil, or_false] at hz
    subst hz
    exact hst.rb)
  have qflows := ((hst.flows.later hl).beside hg (fun k hk e => hst.rf k e hk)).set (k := b) (i := 3) hst.fb v9
  have qwaits := ((hst.waits.later hl).beside hg (fun k hk e => hst.rw k e hk)).set (k := b) (i := 3) hst.wb v9
  exact ⟨⟨B.own_at hown (by simp) v9, hst.lob, hq.set hnb v9, qflows, qwaits, hnb, hst.fb, hst.wb, (B.Que.apart hst.rf hst.flows h3), (B.Que.apart hst.rw hst.waits h3), hst.fw⟩,
    ((S.LatB.of hl).grown hg (fun k hk => .inr hk)).setCell (.inl (.inl rfl)) v9⟩
theorem StudyAt.put_flows {w1 w9 : World} {v9 : Value} {L' : List Fl} (hst : StudyAt lo w b tv tod fp rv fv wv H F W) (hl : Later w w1) (hg : w1.grownBy w9 fv.ownBlock) (h3 : v9.ownBlock = fv.ownBlock ∨ ∀ k, v9.ownBlock = some k → w.heap.size ≤ k) (hq : B.Que lo 3 w9 v9 L'.length (L'.flatMap flCs)) :
    StudyAt lo (w9.setCell ⟨b, 4, none⟩ v9) b tv tod fp rv v9 wv H L' W ∧ S.LatB (fun k => k = b ∨ fv.ownBlock = some k) w (w9.setCell ⟨b, 4, none⟩ v9) := by
  have hz := hst.own.1.1
  have hnb : v9.ownBlock ≠ some b := by
    rcases h3 with h3 | h3
    · rw [h3]; exact hst.fb
    · intro e; have := h3 b e; omega
  have hown : Own w9 [(b, #[tv, .int .i64 tod, fp, rv, fv, wv])] := B.own_grown (hst.own.later hl) hg (fun z hz => by
    simp only [List.mem_cons, List.not_mem_nil, or_false] at hz
    subst hz
    exact hst.fb)
  have qrest := ((hst.rest.later hl).beside hg (fun k hk e => hst.rf.symm k e hk)).set (k := b) (i := 4) hst.rb v9
  have qwaits := ((hst.waits.later hl).beside hg (fun k hk e => hst.fw k e hk)).set (k := b) (i := 4) hst.wb v9
  exact ⟨⟨B.own_at hown (by simp) v9, hst.lob, qrest, hq.set hnb v9, qwaits, hst.rb, hnb, hst.wb, (B.Que.apart hst.rf.symm hst.rest h3).symm, hst.rw, (B.Que.apart hst.fw hst.waits h3)⟩,
    ((S.LatB.of hl).grown hg (fun k hk => .inr hk)).setCell (.inl (.inl rfl)) v9⟩
theorem StudyAt.put_waits {w1 w9 : World} {v9 : Value} {L' : List Wt} (hst : StudyAt lo w b tv tod fp rv fv wv H F W) (hl : Later w w1) (hg : w1.grownBy w9 wv.ownBlock) (h3 : v9.ownBlock = wv.ownBlock ∨ ∀ k, v9.ownBlock = some k → w.heap.size ≤ k) (hq : B.Que lo 3 w9 v9 L'.length (L'.flatMap wtCs)) :
    StudyAt lo (w9.setCell ⟨b, 5, none⟩ v9) b tv tod fp rv fv v9 H F L' ∧ S.LatB (fun k => k = b ∨ wv.ownBlock = some k) w (w9.setCell ⟨b, 5, none⟩ v9) := by
  have hz := hst.own.1.1
  have hnb : v9.ownBlock ≠ some b := by
    rcases h3 with h3 | h3
    · rw [h3]; exact hst.wb
    · intro e; have := h3 b e; omega
  have hown : Own w9 [(b, #[tv, .int .i64 tod, fp, rv, fv, wv])] := B.own_grown (hst.own.later hl) hg (fun z hz => by
    simp only [List.mem_cons, List.not_mem_nil, or_false] at hz
    subst hz
    exact hst.wb)
  have qrest := ((hst.rest.later hl).beside hg (fun k hk e => hst.rw.symm k e hk)).set (k := b) (i := 5) hst.rb v9
  have qflows := ((hst.flows.later hl).beside hg (fun k hk e => hst.fw.symm k e hk)).set (k := b) (i := 5) hst.fb v9
  exact ⟨⟨B.own_at hown (by simp) v9, hst.lob, qrest, qflows, hq.set hnb v9, hst.rb, hst.fb, hnb, hst.rf, (B.Que.apart hst.rw.symm hst.rest h3).symm, (B.Que.apart hst.fw.symm hst.flows h3).symm⟩,
    ((S.LatB.of hl).grown hg (fun k hk => .inr hk)).setCell (.inl (.inl rfl)) v9⟩
/-- The first one that is held is taken away. -/
theorem sliced_cut (p : Addr) (n cap : Nat) (h : 1 ≤ cap) : sliced (some p) 1 n cap 4 = .slice (some (if cap - 1 = 0 then p else p.add (1 * 4))) (n - 1) (cap - 1) := by
  unfold sliced
  by_cases hc : cap = 1
  · subst hc; simp
  · rw [if_neg hc, if_neg (by omega)]; rfl
theorem add_block (p : Addr) (k : Nat) : (p.add k).block = p.block := by unfold Addr.add; split <;> rfl
theorem que_pop {w : World} {lo : Nat} {p : Addr} {n cap : Nat} {h : Hd} {r : List Hd} (hq : B.Que lo 4 w (.slice (some p) n cap) n ((h :: r).flatMap hdCs)) (hn : n = r.length + 1) :
    1 ≤ cap ∧ n ≤ cap ∧ B.Que lo 4 w (sliced (some p) 1 n cap 4) r.length (r.flatMap hdCs) ∧ (sliced (some p) 1 n cap 4).ownBlock = some p.block := by
  have hcap : n ≤ cap := by
    rcases hq.2 with ⟨h1, _⟩ | ⟨g, o, c, h1, _, _, h4, _⟩
    · cases h1
    · cases h1; exact h4
  have h1 : 1 ≤ cap := by omega
  have hc := hq.cut (k := 1) (by omega)
  refine ⟨h1, hcap, ?_, ?_⟩
  · rw [sliced_cut p n cap h1]
    have e1 : ((h :: r).flatMap hdCs).drop (1 * 4) = r.flatMap hdCs := by rw [List.flatMap_cons]; rfl
    have e2 : n - 1 = r.length := by omega
    rw [e1, e2] at hc
    rw [e2]
    exact hc
  · rw [sliced_cut p n cap h1]
    simp only [Value.ownBlock]
    split
    · rfl
    · rw [add_block]
theorem StudyAt.cut {p : Addr} {n cap : Nat} {h : Hd} {r : List Hd} {w1 : World} (hst : StudyAt lo w b tv tod fp (.slice (some p) n cap) fv wv (h :: r) F W) (hn : n = r.length + 1) (hl : Later w w1) :
    StudyAt lo (w1.setCell ⟨b, 3, none⟩ (sliced (some p) 1 n cap 4)) b tv tod fp (sliced (some p) 1 n cap 4) fv wv r F W ∧ S.LatB (fun k => k = b) w (w1.setCell ⟨b, 3, none⟩ (sliced (some p) 1 n cap 4)) := by
  have hq := hst.rest
  rw [show (h :: r).length = n from by rw [hn]; rfl] at hq
  obtain ⟨-, -, h3, h4⟩ := que_pop hq hn
  have hb : (Value.slice (some p) n cap).ownBlock = some p.block := rfl
  have hnb : (sliced (some p) 1 n cap 4).ownBlock ≠ some b := by rw [h4, ← hb]; exact hst.rb
  have hs := hst.later hl
  have hap : ∀ {u : Value}, B.Apart (.slice (some p) n cap) u → B.Apart (sliced (some p) 1 n cap 4) u := fun ha k hk => ha k (by rw [hb, ← h4]; exact hk)
  exact ⟨⟨B.own_at hs.own (by simp) _, hst.lob, (h3.later hl).set hnb _, hs.flows.set hst.fb _, hs.waits.set hst.wb _, hnb, hst.fb, hst.wb, hap hst.rf, hap hst.rw, hst.fw⟩, S.LatB.setCell (S := fun k => k = b) (S.LatB.of hl) (.inl rfl) _⟩
end

namespace B
theorem news_at {w : World} {ta : TypeId} (news : Array Value) : ∀ j u, news.toList[j]? = some u → (w.alloc (.cells news ta)).drew.cell? ((⟨w.heap.size, 0, none⟩ : Addr).add j) = some u := by
  intro j u hj
  have hc := (own_get (own_alloc w news ta)).2.1 j
  rw [add_plain, Nat.zero_add]
  rw [← Array.getElem?_toList] at hc
  exact hc.trans hj
/-- One element is put behind a queue in a drawn region. -/
theorem wpList_quePushD {P : Program} {w : World} {e sz base : Nat} {v : Value} {n : Nat} {xs : List Value} {ops : Array Oper} {rest : List Oper} {o : Oper} {a : Act} {Q : Exit → Act → World → Prop} {t bytes : Nat} {ta : TypeId} (news : Array Value) (T : SliceOf P t e sz bytes) (hM : Que base sz w v n xs) (hbase : base ≤ w.heap.size) (hgd : o.guard = none) (s x : Operand)
    (ho : o.op = .call { callee := .builtin .append, args := #[s, x], argTypes := #[t, t] }) (hs : a.eval s = v) (c b : Nat) (hx : a.eval x = .slice (some ⟨b, 0, none⟩) 1 c) (hb : b = w.heap.size) (hl : news.size = sz) (h1 : ∀ u ∈ news.toList, u.oneCell' = true)
    (h63 : (n + 1) * bytes ≤ 140737488355328) (h64 : n + 1 ≤ maxLen)
    (h : ∀ v' w', Que base sz w' v' (n + 1) (xs ++ news.toList) → (w.alloc (.cells news ta)).drew.grownBy w' v.ownBlock → (v'.ownBlock = v.ownBlock ∨ ∀ k, v'.ownBlock = some k → w.heap.size ≤ k) → wpList P ops Q rest (a.put o.dst v') w') : wpList P ops Q (o :: rest) a (w.alloc (.cells news ta)).drew := by
  subst hb
  refine wpList_que T (hM.later (((Later.refl _).alloc _).drew)) ?_ hgd s x ho hs ⟨w.heap.size, 0, Option.none⟩ 1 c news.toList hx (by rw [Nat.one_mul, Array.length_toList, hl]) (news_at news) h1 h63 h64 (fun v' w' a b c => h v' w' a b (c.imp id (fun h k hk => ?_)))
  · exact Nat.le_trans hbase (((Later.refl w).alloc _).drew).size
  · exact Nat.le_trans (((Later.refl w).alloc _).drew).size (h k hk)
end B

set_option maxHeartbeats 1600000 in
theorem sput_any (lo : Nat) (w : World) (b : Nat) (tv : Value) (tod : Int) (fp rv fv wv : Value) (H : List Hd) (F : List Fl) (W : List Wt) (h : Hd) (hlo : lo ≤ w.heap.size) (hlen : H.length ≤ 1000000) (hst : StudyAt lo w b tv tod fp rv fv wv H F W) :
    Calls Tryz.prog 92 #[.pointer (some ⟨b, 0, none⟩), .int .i64 h.pl, .int .i64 h.day, .agg #[.int .i64 h.n, .int .i64 h.d]] w fun e w' =>
      e = .returned (.tuple #[]) ∧ ∃ rv', StudyAt lo w' b tv tod fp rv' fv wv (H ++ [h]) F W ∧ S.LatB (fun k => k = b ∨ rv.ownBlock = some k) w w' ∧ (rv'.ownBlock = rv.ownBlock ∨ ∀ k, rv'.ownBlock = some k → w.heap.size ≤ k) := by
  obtain ⟨T, pl, day, n, d⟩ := h
  show Calls _ _ #[_, .int .i64 pl, .int .i64 day, .agg #[.int .i64 n, .int .i64 d]] _ _
  obtain ⟨K, hK⟩ : ∃ K, H.length = K := ⟨_, rfl⟩
  obtain ⟨rp, rc, hr⟩ := hst.rest.form
  have HST := Lib.hid hst
  rw [hK] at hr hlen
  have HK := Lib.hid hK
  have hrb := hst.rb
  obtain ⟨⟨z, c, f⟩, -⟩ := id hst.own
  clear hst hK
  subst hr
  have c3 : w.cell? ⟨b, 3, none⟩ = some (.slice rp K rc) := c 3
  have f3 : w.frozen? ⟨b, 3, none⟩ = false := f 3 (by simp)
  clear c f
  go_enter Tryz.func92, Tryz.ntmps92
  go_upto_region 1 with (fail)
  refine wp_opaque (fun W1 hb1 => ?_)
  have hO1 := Own.one hb1
  have hw1 := hb1.un1
  clear hb1
  obtain ⟨⟨z7, c7, f7⟩, -⟩ := id hO1
  have hz1 := hw1.size
  replace c3 := ((bcell hw1).1 _ 3 z).trans c3
  replace f3 := ((bcell hw1).2 _ 3 z).trans f3
  have HS1 := Lib.hid (HST.out.later hw1)
  have hne : ¬ (Value.slice rp K rc).ownBlock = some w.heap.size := fun e => by have := HST.out.rest.lo _ e; omega
  have hzb : b < W1.heap.size := Nat.lt_of_lt_of_le z hz1
  have HL : Hid (H.length = K ∧ K ≤ 1000000) := Lib.hid ⟨HK.out, hlen⟩
  have HF : Hid (∀ z ∈ [(b, (#[tv, .int .i64 tod, fp, .slice rp K rc, fv, wv] : Array Value))], (Value.slice rp K rc).ownBlock ≠ some z.1) := Lib.hid (fun z hz => by
    simp only [List.mem_cons, List.not_mem_nil, or_false] at hz
    subst hz
    exact hrb)
  have HX := HST
  clear HST HK hO1
  refine S.wp_region_plan (S := (fun k => (Value.slice rp K rc).ownBlock = some k)) 13 (.two [0, 1, 5, 6, 7, 8] 2 (.one [3, 4] 9 (.one [] 10 (.one [] 11 (.one [12] 13 (.done []))))) 9 (.one [] 2 (.one [3, 4] 10 (.one [] 11 (.one [12] 13 (.done [])))))) (by kernel_rfl) (by kernel_rfl) (fun _ _ d _ _ h => by cases d <;> exact h) ?_
  repeat' (first
    | (refine S.plan_done (fun K hK => ?_); (first | (simp only [pick_cons, pick_nil, toList_some_append, List.getElem?_toArray, List.getElem?_cons_zero, List.getElem?_cons_succ]; repeat (go_big_quiet_step (fail))) | simp only [pick_nil]); refine wpQuiet_nil (hK _ ?_); clear hK K)
    | (refine S.plan_one (by rfl) (fun K hK => ?_); (first | (simp only [pick_cons, pick_nil, toList_some_append, List.getElem?_toArray, List.getElem?_cons_zero, List.getElem?_cons_succ]; repeat (go_big_quiet_step (fail))) | simp only [pick_nil]); refine wpQuiet_nil (hK _ ?_); clear hK K)
    | (refine S.plan_two (by rfl) (by rfl) (fun K hK => ?_); (first | (simp only [pick_cons, pick_nil, toList_some_append, List.getElem?_toArray, List.getElem?_cons_zero, List.getElem?_cons_succ]; repeat (go_big_quiet_step (fail))) | simp only [pick_nil]); refine wpQuiet_nil (hK _ ?_); clear hK K; refine ⟨?_, ?_⟩)
    | ((with_reducible refine at_list ?_); (try simp only [List.getElem_toArray, List.getElem_cons_succ, List.getElem_cons_zero]); go_wp2_with ((at_builtin; go_must (refine B.wpList_quePushD (base := lo) (n := K) (xs := H.flatMap hdCs) #[.int .i64 pl, .int .i64 day, .int .i64 n, .int .i64 d] sliceHold (HL.out.1 ▸ HS1.out.rest) (Nat.le_trans hlo hz1) rfl _ _ rfl rfl 1 W1.heap.size rfl rfl rfl (by simp [Value.oneCell']) (by have := HL.out; omega) (by have := HL.out; unfold maxLen; omega) ?_; intro v9 w9 h1 h2 h3; obtain ⟨p8, c8, rfl⟩ := B.Que.form h1; have hS9 := S.LatB.grown (S := fun k => (Value.slice rp K rc).ownBlock = some k) (S.LatB.refl _) h2 (fun k hk => hk); have hO9 := B.own_grown (HS1.out.own.later (((Later.refl _).alloc _).drew)) h2 HF.out; have hc9 : w9.cell? ⟨b, 3, none⟩ = some (.slice rp K rc) := hO9.1.2.1 3; have hf9 : w9.frozen? ⟨b, 3, none⟩ = false := hO9.1.2.2 3 (by simp); have HO9 := Lib.hid hO9; clear hO9))); first | refine S.behind_store (t := 13) (by decide) ?_ | refine S.behind (by repeat (first | with_reducible exact S.LatB.refl _ | with_reducible assumption | with_reducible refine S.LatB.ofdrew ?_ | with_reducible refine S.LatB.drew ?_ | with_reducible refine S.LatB.alloc ?_ _ | (with_reducible refine S.LatB.of ?_))) ?_))
  all_goals
    go_wp2
    go_end0
    refine ⟨rfl, .slice p8 (K + 1) c8, ?_⟩
    have hx := HX.out.put_rest ((hw1.alloc _).drew) h2 (L' := H ++ [⟨T, pl, day, n, d⟩]) (h3.imp id (fun h k hk => Nat.le_trans hz1 (h k hk))) (by rw [List.flatMap_append, List.length_append, HL.out.1]; exact h1)
    exact ⟨hx.1, hx.2, h3.imp id (fun h k hk => Nat.le_trans hz1 (h k hk))⟩
end Go.Proofs.YtkjabiabeemfhaaGreatDoor
end
section
/- walks: chattelref05.Keys, chattellaw01.Ints, term.Size -/
namespace Go.Proofs.YtkjabiabeemfhaaGreatDoor
open Go.RowKit
set_option maxRecDepth 100000

theorem keyB_take (op op' : Int) (l : List Nd) (j i : Nat) (hi : i < l.length) : keyB op op' (l.take (i + 1)) j = (keyB op op' (l.take i) j || decide ((l[i].op = op ∨ l[i].op = op') ∧ l[i].a = (j : Int))) := by
  unfold keyB
  rw [List.take_succ_eq_append_getElem hi, List.any_append]
  simp

set_option maxHeartbeats 1600000 in
theorem tsize_any (ts : List Nd) (j : Nat) (s : Tm) (v : Value) (w : World) (hlen : ts.length ≤ 100000) (hs : TmAt ts j s) (hS : Shapes w) (hN : IsNodes w v ts) :
    Calls Tryz.prog 167 #[v, .int .i64 j] w fun e w' => e = .returned (.tuple #[.int .i64 (s.size : Int), .int .i64 0]) ∧ Later w w' := by
  have hle := hs.le
  have hp := s.size_pos
  have HE := Lib.hid (fun W (hl : Later w W) => end_any ts hlen _ j v W (Nat.le_refl _) (by omega) (hS.later hl) (hN.later hl))
  rw [hs.end_] at HE
  have ho : optI (some (j + s.size)) = ((j + s.size : Nat) : Int) := rfl
  rw [ho] at HE
  obtain ⟨p0, c0, rfl⟩ := hN.form
  generalize ts.length = L at *
  generalize s.size = z at *
  obtain ⟨q, hq⟩ : ∃ q, j + z = q := ⟨_, rfl⟩
  rw [hq] at HE hle
  clear hN hS hs ho
  have hzq : (z : Int) = (q : Int) - (j : Int) := by omega
  rw [hzq]
  have HQ := Lib.hid hq
  have hjq : j < q := by omega
  clear hq hzq
  go_enter Tryz.func167, Tryz.ntmps167
  go_wp2_with (go_at_call 78; go_must (refine (HE.out _ (by repeat (first | with_reducible exact Later.refl _ | with_reducible assumption | with_reducible refine Later.ofdrew ?_ | with_reducible refine Later.ofdrewN ?_ | with_reducible refine Later.setCell ?_ ?_ _ | with_reducible refine Later.alloc ?_ _ | with_reducible refine Later.drewN ?_ _ | with_reducible refine Later.drew ?_ | (with_reducible refine Later.trans ?_ (by assumption)) | (simp only [World.size_setCell, World.size_alloc, World.heap_drewN]; omega) | (simp; done) | (simp; omega)))).mono ?_; rintro e w2 ⟨rfl, hb2⟩))
  go_ret2
  exact ⟨rfl, hb2⟩
end Go.Proofs.YtkjabiabeemfhaaGreatDoor
end
