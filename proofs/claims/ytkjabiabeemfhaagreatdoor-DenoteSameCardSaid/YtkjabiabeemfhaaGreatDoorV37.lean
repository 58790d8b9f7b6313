/- DenoteSame: what its walk reads of literals -/
import Derived.Test.YtkjabiabeemfhaaGreatDoorV17
import Derived.Test.YtkjabiabeemfhaaGreatDoorV36
import Derived.Test.YtkjabiabeemfhaaGreatDoorV22
import Derived.Test.YtkjabiabeemfhaaGreatDoorV15
import Derived.Test.YtkjabiabeemfhaaGreatDoorV23
import Derived.Test.YtkjabiabeemfhaaGreatDoorV35
import Derived.Shelf.Spec.SlicesGrow
import Derived.Ground.Names8Prog
import Derived.Test.YtkjabiabeemfhaaGreatDoorProg
import Derived.Test.YtkjabiabeemfhaaGreatDoorV14
import Derived.Test.YtkjabiabeemfhaaGreatDoorV20
import Derived.Test.YtkjabiabeemfhaaGreatDoorV34
set_option linter.all false
set_option linter.all false
section
namespace Go.Proofs.YtkjabiabeemfhaaGreatDoor
open Go.RowKit
set_option maxRecDepth 100000
theorem row_len {α : Type} {sz : Nat} {f : α → Nat → Value} {w : World} {v : Value} {xs : List α} (h : IsRow sz f w v xs) : xs.length ≤ 9223372036854775807 := by
  rcases h with ⟨_, rfl⟩ | ⟨b, o, cap, h1, h2, h3, h4, h5⟩
  · exact Nat.zero_le _
  · unfold maxLen at h4; omega
set_option maxHeartbeats 1600000 in
theorem made_big (l : List Td) (hlen : l.length ≤ 9223372036854775807) (hok : ∀ x ∈ l, x.ok) (v : Value) (w : World) (hN : IsTolds w v l) :
    Calls Tryz.prog 15 #[v] w fun e w' => ∃ p m1 m2, e = .returned (.pointer (some ⟨p, 0, none⟩)) ∧ FactsAt w' p m1 m2 (madeFx l) (madeCh l) ∧ w.heap.size ≤ m1 ∧ w.heap.size ≤ m2 ∧ Later w w' := by
  obtain ⟨p0, cp, rfl⟩ := hN.form
  have HN := Lib.hid hN
  have HNEW := Lib.hid (fnew_any w)
  have HTL := Lib.hid (fun (j : Nat) (h : j < l.length) p m1 m2 fx ch W hF => tell_any p m1 m2 fx ch l[j] W hF (hok _ (List.getElem_mem _)))
  clear hok hN
  obtain ⟨L, hL⟩ : ∃ L, l.length = L := ⟨_, rfl⟩
  rw [hL] at HN hlen ⊢
  have HL := Lib.hid hL
  clear hL
  go_enter Tryz.func15, Tryz.ntmps15
  go_wp2_with (go_at_call 36; go_must (refine HNEW.out.mono ?_; rintro e w1 ⟨p, m1, m2, rfl, hF1, h1, h2, hb1⟩))
  have HF1 := Lib.hid hF1
  clear hF1 HNEW
  go_loopw [4] (fun s4 wr => ∃ j : Nat, j ≤ L ∧ s4 = .int .i64 j ∧ Hid (FactsAt wr p m1 m2 ((l.take j).foldl tellFx []) ((l.take j).foldl tellCh [])) ∧ Later w wr) (fun s4 _ => L - (intOf s4).toNat)
  case atStart => exact ⟨0, Nat.zero_le _, rfl, HF1, hb1⟩
  case round =>
    obtain ⟨j, hj, rfl, hF, hlat⟩ := hrel
    by_cases hlt : j < L
    · have hjl : j < l.length := by rw [HL.out]; exact hlt
      obtain ⟨b, o, cp2, hv, hb, gg⟩ := HN.out.full (i := j) hjl
      rw [HL.out] at hv
      cases hv
      have g0 := ((bcell hlat).1 _ _ hb).trans (gg 0 (by omega))
      have g1 := ((bcell hlat).1 _ _ hb).trans (gg 1 (by omega))
      have g2 := ((bcell hlat).1 _ _ hb).trans (gg 2 (by omega))
      have g3 := ((bcell hlat).1 _ _ hb).trans (gg 3 (by omega))
      have g4 := ((bcell hlat).1 _ _ hb).trans (gg 4 (by omega))
      have g5 := ((bcell hlat).1 _ _ hb).trans (gg 5 (by omega))
      have HC := Lib.hid (HTL.out j hjl p m1 m2 _ _ wr hF.out)
      have ht : l.take (j + 1) = l.take j ++ [l[j]] := List.take_succ_eq_append_getElem hjl
      have HT1 := Lib.hid (show (l.take (j + 1)).foldl tellFx [] = tellFx ((l.take j).foldl tellFx []) l[j] by rw [ht, List.foldl_append]; rfl)
      have HT2 := Lib.hid (show (l.take (j + 1)).foldl tellCh [] = tellCh ((l.take j).foldl tellCh []) l[j] by rw [ht, List.foldl_append]; rfl)
      unfold Td.val at HC
      simp only [Td.cell, Nat.add_zero] at g0 g1 g2 g3 g4 g5
      generalize (l[j]).c = x0 at g0 HC
      generalize (l[j]).k = x1 at g1 HC
      generalize (l[j]).d = x2 at g2 HC
      generalize (l[j]).n = x3 at g3 HC
      generalize (l[j]).m = x4 at g4 HC
      generalize (l[j]).p = x5 at g5 HC
      clear gg ht hF HTL
      go_wp2_with (go_at_call 26; go_must (refine HC.out.mono ?_; rintro e w3 ⟨rfl, hF3, mm, hmm, hg3⟩))
      go_roundw
      case rel => exact ⟨j + 1, by omega, by go_num, Lib.hid (by rw [HT1.out, HT2.out]; exact hF3), Later.grown hlat hg3 (fun k e => by cases e; rcases hmm with rfl | rfl <;> assumption)⟩
      case measure => simp [intOf]; omega
    · have hfin : l.take j = l := List.take_of_length_le (by rw [HL.out]; omega)
      have hFF := hF.out
      rw [hfin] at hFF
      have HFF := Lib.hid hFF
      clear hF hFF hfin
      go_wp2
      go_ret
      exact ⟨p, m1, m2, rfl, HFF.out, h1, h2, hlat⟩
end Go.Proofs.YtkjabiabeemfhaaGreatDoor
end
section
namespace Go.Proofs.YtkjabiabeemfhaaGreatDoor
open Go.RowKit Go.Sort
def scaleN : Nd := ⟨13, 0, 0, 0, 0⟩
def condN : Nd := ⟨15, 0, 0, 0, 0⟩
def oneN : Nd := ⟨1, 0, 0, 1, 1⟩
def noughtN : Nd := ⟨1, 0, 0, 0, 1⟩
def zeroN : Nd := ⟨9, 0, 0, 0, 0⟩
section
variable {env : Env} {ts : List Nd} {T : Tm} {day tod : Int}
theorem depth_pos (t : Tm) : 1 ≤ t.depth := by cases t; unfold Tm.depth; omega
theorem head_good {x : Nd} {l : List Tm} {us : List Nd} (hu : x :: l.flatMap Tm.flat = us) (h2 : makesI x.op = 2) (hl : l.length = manyN x.op) (hb : ∀ i (h : i < l.length), makesI (l[i]).root.op = belI x.op i) (hf : fieldsB x = true) (hk : ∀ t ∈ l, Part t)
    (hn : us.length ≤ 64) (hd : (Tm.node x l).depth ≤ 12) : Good us (.node x l) := by
  subst hu
  rcases joins_ct h2 hl hb hf hk with ⟨_, hG⟩ | ⟨_, h | h⟩
  · exact hG
  · omega
  · omega
theorem bel_four {A B : Tm} {op : Int} {n : Int} {a b c d : Tm} (h0 : makesI a.root.op = belI op 0) (h1 : makesI b.root.op = belI op 1) (h2 : makesI c.root.op = belI op 2) (h3 : makesI d.root.op = belI op 3) : ∀ i (h : i < [a, b, c, d].length), makesI ([a, b, c, d][i]).root.op = belI op i := by
  intro i hi
  rcases i with _ | _ | _ | _ | i
  · exact h0
  · exact h1
  · exact h2
  · exact h3
  · simp at hi; omega
theorem parts_four {a b c d : Tm} (h0 : Part a) (h1 : Part b) (h2 : Part c) (h3 : Part d) : ∀ t ∈ [a, b, c, d], Part t := fun t ht => by
  simp only [List.mem_cons, List.not_mem_nil, or_false] at ht
  rcases ht with rfl | rfl | rfl | rfl <;> assumption
theorem same_scale (hG : Good ts T) (hm : makesI T.root.op = 2) (hn : ts.length ≤ 40) (hd : T.depth ≤ 11) : outT env (scaleN :: oneN :: ts) day tod = outT env ts day tod := by
  have hp := depth_pos T
  have hJ : Good (scaleN :: oneN :: ts) (.node scaleN [numO, T]) := head_good (by simp [(part_of hG).2, numO, Tm.flat, Tm.flat.flats, oneN]) (by decide) rfl (bel_two (m := 1) (m' := 2) (by decide) hm (by decide) (by decide)) (by decide) (partsB_two (part_num (.inr rfl)) (part_of hG).1) (by simp; omega)
    (by simp only [Tm.depth, Tm.depth.depths, numO]; omega)
  by_cases hr : day < 0 ∨ 73048 < day ∨ tod < -1 ∨ 73048 < tod
  · rw [out_late hJ (show makesI 13 = 2 by decide) hr, out_late hG hm hr]
  · rw [out_good hJ (show makesI 13 = 2 by decide) hr, out_good hG hm hr]
    exact den_scale T 0 0 day
theorem same_and (hG : Good ts T) (hm : makesI T.root.op = 2) (hn : ts.length ≤ 40) (hd : T.depth ≤ 11) : outT env (andN :: zeroN :: ts) day tod = outT env ts day tod := by
  have hp := depth_pos T
  have hJ : Good (andN :: zeroN :: ts) (.node andN [zeroT, T]) := head_good (by simp [(part_of hG).2, zeroT, Tm.flat, Tm.flat.flats, zeroN]) (by decide) rfl (bel_two (m := 2) (m' := 2) (by decide) hm (by decide) (by decide)) (by decide) (partsB_two part_zero (part_of hG).1) (by simp; omega)
    (by simp only [Tm.depth, Tm.depth.depths, zeroT]; omega)
  by_cases hr : day < 0 ∨ 73048 < day ∨ tod < -1 ∨ 73048 < tod
  · rw [out_late hJ (show makesI 12 = 2 by decide) hr, out_late hG hm hr]
  · rw [out_good hJ (show makesI 12 = 2 by decide) hr, out_good hG hm hr]
    refine (den_and zeroT T 0 0 0 day 1 1).trans ?_
    rw [den_zero]
    exact comb_nil_eq (fun h => den_err h)
theorem same_when (hG : Good ts T) (hm : makesI T.root.op = 2) (hn : ts.length ≤ 40) (hd : T.depth ≤ 11) (h0 : 0 ≤ day) (h1 : day ≤ 73048) : outT env (whenN day :: ts) day tod = outT env ts day tod := by
  have hp := depth_pos T
  have hJ : Good (whenN day :: ts) (.node (whenN day) [T]) := head_good (when_flat hG day) (show makesI 14 = 2 by decide) rfl (bel_one hm (show belI 14 0 = 2 by decide)) (when_fields h0 h1) (partsB_one (part_of hG).1) (by simp; omega)
    (by simp only [Tm.depth, Tm.depth.depths]; omega)
  exact (when_out hG hm hJ h0 h1 h0 h1).2 (Int.le_refl _)
theorem cond_good {a b : Int} (ha : a = 0 ∨ a = 1) (hb : b = 0 ∨ b = 1) {U V : Tm} (hU : Part U) (hV : Part V) (mU : makesI U.root.op = 2) (mV : makesI V.root.op = 2) (dU : U.depth ≤ 11) (dV : V.depth ≤ 11) {us : List Nd} (hu : condN :: (⟨1, 0, 0, a, 1⟩ : Nd) :: (⟨1, 0, 0, b, 1⟩ : Nd) :: (U.flat ++ V.flat) = us) (hn : us.length ≤ 64) :
    Good us (.node condN [.node ⟨1, 0, 0, a, 1⟩ [], .node ⟨1, 0, 0, b, 1⟩ [], U, V]) := by
  have hp := depth_pos U
  refine head_good (by rw [← hu]; simp [Tm.flat, Tm.flat.flats]) (by decide) rfl (bel_four (A := U) (B := V) (n := 0) (show makesI 1 = belI 15 0 by decide) (show makesI 1 = belI 15 1 by decide) (by rw [mU]; decide) (by rw [mV]; decide)) (by decide) (parts_four (part_num ha) (part_num hb) hU hV) hn ?_
  simp only [Tm.depth, Tm.depth.depths]
  omega
theorem zero_flat : zeroT.flat = [zeroN] := rfl
theorem same_cond (hG : Good ts T) (hm : makesI T.root.op = 2) (hn : ts.length ≤ 40) (hd : T.depth ≤ 11) {b : Int} (hb : b = 0 ∨ b = 1) : outT env (condN :: oneN :: ⟨1, 0, 0, b, 1⟩ :: zeroN :: ts) day tod = outT env ts day tod := by
  have hJ := cond_good (us := condN :: oneN :: ⟨1, 0, 0, b, 1⟩ :: zeroN :: ts) (a := 1) (b := b) (U := zeroT) (V := T) (.inr rfl) hb part_zero (part_of hG).1 (by decide) hm (by decide) hd (by rw [(part_of hG).2, zero_flat]; rfl) (by simp; omega)
  by_cases hr : day < 0 ∨ 73048 < day ∨ tod < -1 ∨ 73048 < tod
  · rw [out_late hJ (show makesI 15 = 2 by decide) hr, out_late hG hm hr]
  · rw [out_good hJ (show makesI 15 = 2 by decide) hr, out_good hG hm hr]
    refine (den_cond 1 b zeroT T 0 0 day 1 1).trans ?_
    rw [if_neg (by omega)]
theorem same_not (hG : Good ts T) (hm : makesI T.root.op = 2) (hn : ts.length ≤ 40) (hd : T.depth ≤ 11) : outT env (condN :: oneN :: noughtN :: (ts ++ [zeroN])) day tod = if day < 0 ∨ 73048 < day ∨ tod < -1 ∨ 73048 < tod then (18, [], []) else (0, [], []) := by
  have hJ := cond_good (us := condN :: oneN :: noughtN :: (ts ++ [zeroN])) (a := 1) (b := 0) (U := T) (V := zeroT) (.inr rfl) (.inl rfl) (part_of hG).1 part_zero hm (by decide) hd (by decide) (by rw [(part_of hG).2, zero_flat]; rfl) (by simp; omega)
  split
  · rename_i hr
    exact out_late hJ (show makesI 15 = 2 by decide) hr
  · rename_i hr
    rw [out_good hJ (show makesI 15 = 2 by decide) hr]
    refine (den_cond 1 0 T zeroT 0 0 day 1 1).trans ?_
    rw [if_neg (by decide), den_zero]
end
end Go.Proofs.YtkjabiabeemfhaaGreatDoor
end
section
namespace Go.Proofs.YtkjabiabeemfhaaGreatDoor
open Go.RowKit
set_option maxRecDepth 100000
theorem Own.five {w w' : World} {A B C D E : Array Value} {ta tb tc td te : TypeId} (h : Later (((((w.alloc (.cells A ta)).alloc (.cells B tb)).alloc (.cells C tc)).alloc (.cells D td)).alloc (.cells E te)) w') : Own w' [(w.heap.size, A), (w.heap.size + 1, B), (w.heap.size + 1 + 1, C), (w.heap.size + 1 + 1 + 1, D), (w.heap.size + 1 + 1 + 1 + 1, E)] := by
  have := Own.four h; rw [World.size_alloc] at this
  exact Own.boxed (Later.trans (((((Later.refl _).alloc _).alloc _).alloc _).alloc _) h) this
theorem Own.six {w w' : World} {A B C D E F : Array Value} {ta tb tc td te tf : TypeId} (h : Later ((((((w.alloc (.cells A ta)).alloc (.cells B tb)).alloc (.cells C tc)).alloc (.cells D td)).alloc (.cells E te)).alloc (.cells F tf)) w') : Own w' [(w.heap.size, A), (w.heap.size + 1, B), (w.heap.size + 1 + 1, C), (w.heap.size + 1 + 1 + 1, D), (w.heap.size + 1 + 1 + 1 + 1, E), (w.heap.size + 1 + 1 + 1 + 1 + 1, F)] := by
  have := Own.five h; rw [World.size_alloc] at this
  exact Own.boxed (Later.trans ((((((Later.refl _).alloc _).alloc _).alloc _).alloc _).alloc _) h) this
def headsS (day : Int) : List (List Nd) := [[scaleN, oneN], [andN, zeroN], [whenN day], [condN, oneN, noughtN, zeroN], [condN, oneN, oneN, zeroN]]
theorem headsS_len (day : Int) : (headsS day).length = 5 := rfl
theorem heads_env {env : Env} {ts : List Nd} {T : Tm} {day tod : Int} (hG : Good ts T) (hm : makesI T.root.op = 2) (hn : ts.length ≤ 40) (hd : T.depth ≤ 11) (h0 : 0 ≤ day) (h1 : day ≤ 73048) : ∀ h ∈ headsS day, outT env (h ++ ts) day tod = outT env ts day tod ∧ h.length ≤ 4 ∧ ∀ x ∈ h, x.ok := by
  intro h hh
  simp only [headsS, List.mem_cons, List.not_mem_nil, or_false] at hh
  rcases hh with rfl | rfl | rfl | rfl | rfl
  · refine ⟨same_scale hG hm hn hd, by decide, fun x hx => ?_⟩
    simp only [List.mem_cons, List.not_mem_nil, or_false] at hx
    rcases hx with rfl | rfl <;> (unfold Nd.ok I64 <;> decide)
  · refine ⟨same_and hG hm hn hd, by decide, fun x hx => ?_⟩
    simp only [List.mem_cons, List.not_mem_nil, or_false] at hx
    rcases hx with rfl | rfl <;> (unfold Nd.ok I64 <;> decide)
  · refine ⟨same_when hG hm hn hd h0 h1, by simp, fun x hx => ?_⟩
    simp only [List.mem_cons, List.not_mem_nil, or_false] at hx
    subst hx
    unfold Nd.ok I64 whenN
    simp only
    omega
  · refine ⟨same_cond hG hm hn hd (.inl rfl), by decide, fun x hx => ?_⟩
    simp only [List.mem_cons, List.not_mem_nil, or_false] at hx
    rcases hx with rfl | rfl | rfl | rfl <;> (unfold Nd.ok I64 <;> decide)
  · refine ⟨same_cond hG hm hn hd (.inr rfl), by decide, fun x hx => ?_⟩
    simp only [List.mem_cons, List.not_mem_nil, or_false] at hx
    rcases hx with rfl | rfl | rfl | rfl <;> (unfold Nd.ok I64 <;> decide)
def HeadsAt (w : World) (b s : Nat) (l : List (List Nd)) : Prop := b < w.heap.size ∧ ∀ j (h : j < l.length), w.cell? ⟨b, j, none⟩ = some (.slice (some ⟨s + j, 0, none⟩) (l[j]).length (l[j]).length) ∧ IsNodes w (.slice (some ⟨s + j, 0, none⟩) (l[j]).length (l[j]).length) l[j]
theorem HeadsAt.later {w w' : World} {b s : Nat} {l : List (List Nd)} (h : HeadsAt w b s l) (hl : Later w w') : HeadsAt w' b s l :=
  ⟨Nat.lt_of_lt_of_le h.1 hl.size, fun j hj => ⟨((bcell hl).1 _ _ h.1).trans (h.2 j hj).1, (h.2 j hj).2.later hl⟩⟩
theorem heads_at {w w' : World} {day : Int} {ta tb tc td te tf : TypeId} (h : Later ((((((w.alloc (.cells #[.int .i64 13, .int .i64 0, .int .i64 0, .int .i64 0, .int .i64 0, .int .i64 1, .int .i64 0, .int .i64 0, .int .i64 1, .int .i64 1] ta)).alloc (.cells #[.int .i64 12, .int .i64 0, .int .i64 0, .int .i64 0, .int .i64 0, .int .i64 9, .int .i64 0, .int .i64 0, .int .i64 0, .int .i64 0] tb)).alloc (.cells #[.int .i64 14, .int .i64 day, .int .i64 0, .int .i64 0, .int .i64 0] tc)).alloc (.cells #[.int .i64 15, .int .i64 0, .int .i64 0, .int .i64 0, .int .i64 0, .int .i64 1, .int .i64 0, .int .i64 0, .int .i64 1, .int .i64 1, .int .i64 1, .int .i64 0, .int .i64 0, .int .i64 0, .int .i64 1, .int .i64 9, .int .i64 0, .int .i64 0, .int .i64 0, .int .i64 0] td)).alloc (.cells #[.int .i64 15, .int .i64 0, .int .i64 0, .int .i64 0, .int .i64 0, .int .i64 1, .int .i64 0, .int .i64 0, .int .i64 1, .int .i64 1, .int .i64 1, .int .i64 0, .int .i64 0, .int .i64 1, .int .i64 1, .int .i64 9, .int .i64 0, .int .i64 0, .int .i64 0, .int .i64 0] te)).alloc (.cells #[.slice (some ⟨w.heap.size, 0, none⟩) 2 2, .slice (some ⟨w.heap.size + 1, 0, none⟩) 2 2, .slice (some ⟨w.heap.size + 1 + 1, 0, none⟩) 1 1, .slice (some ⟨w.heap.size + 1 + 1 + 1, 0, none⟩) 4 4, .slice (some ⟨w.heap.size + 1 + 1 + 1 + 1, 0, none⟩) 4 4] tf)) w') :
    HeadsAt w' (w.heap.size + 1 + 1 + 1 + 1 + 1) w.heap.size (headsS day) := by
  have hO := Own.six h
  obtain ⟨o1, o2, o3, o4, o5, ⟨z, c, -⟩, -⟩ := hO
  have n1 := nodes_of_own (Own.cons o1.1 o1.2.1 o1.2.2 trivial) [scaleN, oneN] rfl (by decide)
  have n2 := nodes_of_own (Own.cons o2.1 o2.2.1 o2.2.2 trivial) [andN, zeroN] rfl (by decide)
  have n3 := nodes_of_own (Own.cons o3.1 o3.2.1 o3.2.2 trivial) [whenN day] rfl (by unfold maxLen; simp)
  have n4 := nodes_of_own (Own.cons o4.1 o4.2.1 o4.2.2 trivial) [condN, oneN, noughtN, zeroN] rfl (by decide)
  have n5 := nodes_of_own (Own.cons o5.1 o5.2.1 o5.2.2 trivial) [condN, oneN, oneN, zeroN] rfl (by decide)
  refine ⟨z, fun j hj => ?_⟩
  rw [headsS_len] at hj
  rcases j with _ | _ | _ | _ | _ | j
  · exact ⟨c 0, n1⟩
  · exact ⟨c 1, n2⟩
  · exact ⟨c 2, n3⟩
  · exact ⟨c 3, n4⟩
  · exact ⟨c 4, n5⟩
  · omega
end Go.Proofs.YtkjabiabeemfhaaGreatDoor
end
