/- chattelref09.ahead, Put: one more flow, put in its place -/
import Derived.Test.YtkjabiabeemfhaaGreatDoorZ39
import Derived.Test.YtkjabiabeemfhaaGreatDoorZ21
import Derived.Test.YtkjabiabeemfhaaGreatDoorZ10
import Derived.Test.YtkjabiabeemfhaaGreatDoorZ17
import Derived.Test.YtkjabiabeemfhaaGreatDoorZ20
import Derived.Test.YtkjabiabeemfhaaGreatDoorZ14
import Derived.Test.YtkjabiabeemfhaaGreatDoorZ15
set_option linter.all false
set_option linter.all false
section
namespace Go.Proofs.YtkjabiabeemfhaaGreatDoor
open Go.RowKit
set_option maxRecDepth 100000
theorem any_take {ts : List Nd} {f : Nd → Bool} {i : Nat} (h : i < ts.length) : (ts.take (i + 1)).any f = ((ts.take i).any f || f ts[i]) := by
 rw [List.take_succ_eq_append_getElem h, List.any_append]
 simp
set_option maxRecDepth 20000 in
set_option maxHeartbeats 3200000 in
theorem fresh_any (ts : List Nd) (hlen : ts.length ≤ 100000) (x : Td) (hx : x.ok) (day : Int) (p m1 m2 : Nat) (fx : FxL) (ch : ChL) (v : Value) (w : World) (hN : IsNodes w v ts) (hF : FactsAt w p m1 m2 fx ch) :
  Calls Tryz.prog 46 #[v, .pointer (some ⟨p, 0, none⟩), x.val, .int .i64 day] w fun e w' => e = .returned (.bool (freshB ts (fx, ch) x day)) ∧ Later w w' := by
 have HFI := Lib.hid (fun W (hl : Later w W) => fixing_any p m1 m2 fx ch x.k x.d W (hF.later hl) hx.1 hx.2.1)
 have HCH := Lib.hid (fun W (hl : Later w W) => choice_any p m1 m2 fx ch x.k x.d W (hF.later hl) hx.1 hx.2.1)
 have HGI : Hid ((gotF fx x.k x.d).2.2 = (getA fx (x.k, x.d)).isSome) := Lib.hid (gotF_some fx x.k x.d)
 obtain ⟨⟨gn, gd, gi⟩, hgg⟩ : ∃ g, gotF fx x.k x.d = g := ⟨_, rfl⟩
 rw [hgg] at HFI HGI
 simp only at HFI HGI
 obtain ⟨ci, hci⟩ : ∃ g, (getA ch (x.k, x.d)).isSome = g := ⟨_, rfl⟩
 obtain ⟨cp, hcp⟩ : ∃ g, (getA ch (x.k, x.d)).getD 0 = g := ⟨_, rfl⟩
 rw [hci, hcp] at HCH
 obtain ⟨R, hR⟩ : ∃ R, freshB ts (fx, ch) x day = R := ⟨_, rfl⟩
 rw [hR]
 have HR : Hid (R = if x.c then !(ci || ts.any (fun y => y.op == 17 && (y.a == x.k && (x.p == 1 && decide (x.d ≤ day))))) else !gi) := Lib.hid (by rw [← hR]; unfold freshB; simp only [hci, HGI.out])
 have HN := Lib.hid hN
 obtain ⟨pv, cv, rfl⟩ := hN.form
 obtain ⟨L, hL⟩ : ∃ L, ts.length = L := ⟨_, rfl⟩
 have HL := Lib.hid hL
 rw [hL] at HN hlen
 rw [hL]
 clear hgg hci hcp hR hN hF hx hL HGI
 obtain ⟨xc, xk, xd, xn, xm, xp⟩ := x
 unfold Td.val
 simp only at HFI HCH HR ⊢
 go_enter Tryz.func46, Tryz.ntmps46
 go_upto_region 1 with (fail)
 refine wp_opaque (fun w0 hb0 => ?_)
 have hO0 := Own.one hb0
 have hl0 := hb0.un1
 obtain ⟨A, hA⟩ : ∃ A, w.heap.size = A := ⟨_, rfl⟩
 rw [hA] at hO0 ⊢
 have HO0 := Lib.hid hO0
 obtain ⟨⟨z0, d0, -⟩, -⟩ := hO0
 have a0 : w0.cell? ⟨A, 0, none⟩ = some (.bool xc) := d0 0
 have a1 : w0.cell? ⟨A, 1, none⟩ = some (.int .i64 xk) := d0 1
 have a2 : w0.cell? ⟨A, 2, none⟩ = some (.int .i64 xd) := d0 2
 clear hb0 d0 hA
 go_upto_region 2 with (go_at_call 24; go_must (refine (HFI.out _ hl0).mono ?_; rintro e w1 ⟨rfl, hb1⟩))
 refine wp_opaque (fun w2 hb2 => ?_)
 have hl12 : Later w0 w2 := hb1.trans hb2.un1
 have hl2 := hl0.trans hl12
 obtain ⟨⟨z2, d2, -⟩, -⟩ := HO0.out.later hl12
 clear a0 a1 a2 hb1 hb2 z0
 have a0 : w2.cell? ⟨A, 0, none⟩ = some (.bool xc) := d2 0
 have a1 : w2.cell? ⟨A, 1, none⟩ = some (.int .i64 xk) := d2 1
 have a2 : w2.cell? ⟨A, 2, none⟩ = some (.int .i64 xd) := d2 2
 clear d2
 cases xc with
 | false =>
  have HR2 : Hid (R = !gi) := Lib.hid (by rw [HR.out]; rfl)
  clear HR HCH
  go_wp2
  go_ret
  exact ⟨by rw [HR2.out]; rfl, hl2⟩
 | true =>
  have HR2 : Hid (R = !(ci || ts.any (fun y => y.op == 17 && (y.a == xk && (xp == 1 && decide (xd ≤ day)))))) := Lib.hid (by rw [HR.out]; rfl)
  clear HR HFI
  go_upto_region 5 with (go_at_call 25; go_must (refine (HCH.out _ hl2).mono ?_; rintro e w3 ⟨rfl, hb3⟩))
  have hl3 := hl2.trans hb3
  have HO3 := Lib.hid (HO0.out.later (hl12.trans hb3))
  clear HCH a0 a1 a2 z2
  go_upto_region 6 with (fail)
  go_loopw [10, 11] (fun s10 s11 wr => ∃ i : Nat, i ≤ L ∧ s11 = .int .i64 i ∧ s10 = .bool (ci || (ts.take i).any (fun y => y.op == 17 && (y.a == xk && (xp == 1 && decide (xd ≤ day))))) ∧ Later w3 wr) (fun _ s11 _ => L - (intOf s11).toNat)
  case atStart => exact ⟨0, Nat.zero_le _, rfl, by simp, Later.refl _⟩
  case round =>
   obtain ⟨i, hi, rfl, rfl, hlq⟩ := hrel
   by_cases hlt : i < L
   ·have hil : i < ts.length := by rw [HL.out]; exact hlt
    have hltI : (i : Int) < L := by omega
    obtain ⟨bb, oo, cc, hv, hbb, -, g0, g1, -, -, -⟩ := (HN.out.later (hl3.trans hlq)).full hil
    rw [HL.out] at hv
    cases hv
    have HT := Lib.hid (congrArg (fun b => ci || b) (any_take (f := fun y => y.op == 17 && (y.a == xk && (xp == 1 && decide (xd ≤ day)))) hil))
    simp only [← Bool.or_assoc] at HT
    obtain ⟨b0, hb0⟩ : ∃ b, (ci || (ts.take i).any (fun y => y.op == 17 && (y.a == xk && (xp == 1 && decide (xd ≤ day))))) = b := ⟨_, rfl⟩
    rw [hb0] at HT ⊢
    generalize ts[i].op = O0 at *
    generalize ts[i].a = A0 at *
    obtain ⟨⟨z0, d0, -⟩, -⟩ := HO3.out.later hlq
    have a1 : wr.cell? ⟨A, 1, none⟩ = some (.int .i64 xk) := d0 1
    have a2 : wr.cell? ⟨A, 2, none⟩ = some (.int .i64 xd) := d0 2
    have a5 : wr.cell? ⟨A, 5, none⟩ = some (.int .i64 xp) := d0 5
    clear d0 hb0 hil
    cases b0 with
    | true =>
     go_upto_region 8 with (fail)
     refine wp_region_plan 31 (.done [0, 1, 2, 3, 4, 5, 6, 7, 8, 9, 10, 11, 12, 13, 14, 15, 16, 17, 18, 19, 20, 21, 22, 23, 24, 25, 26, 27, 28, 29, 30]) (by kernel_rfl) (by kernel_rfl) (fun _ _ d _ _ h => by cases d <;> exact h) ?_
     repeat' (first
      | (refine plan_done (fun K hK => ?_); (first | (simp only [zq9]; repeat (go_big_quiet_step (fail))) | simp only [pick_nil]); refine wpQuiet_nil (hK _ ?_); clear hK K)
      | ((with_reducible refine at_list ?_); go_wp2_with (fail); first | refine behind_store (t := 31) (by decide) ?_ | refine behind (by with_reducible repeat (first | exact zq1 _ | assumption | refine zq2 ?_ | refine zq5 ?_ _ | refine zq6 ?_ _ | refine zq7 ?_ | refine zq8 ?_ (by assumption))) ?_))
     go_wp2
     go_roundw
     case rel => exact ⟨i + 1, by omega, by go_num, by rw [HT.out]; simp, hlq.drew⟩
     case measure => simp [intOf]; omega
    | false =>
     by_cases hO : O0 = 17
     ·subst hO
      by_cases hA : A0 = xk
      ·subst hA
       by_cases hp : xp = 1
       ·subst hp
        by_cases hd : xd ≤ day
        ·have hd' : decide (xd ≤ day) = true := decide_eq_true hd
         go_upto_region 8 with (fail)
         refine wp_region_plan 31 (.done [0, 1, 2, 3, 4, 5, 6, 7, 8, 9, 10, 11, 12, 13, 14, 15, 16, 17, 18, 19, 20, 21, 22, 23, 24, 25, 26, 27, 28, 29, 30]) (by kernel_rfl) (by kernel_rfl) (fun _ _ d _ _ h => by cases d <;> exact h) ?_
         repeat' (first
          | (refine plan_done (fun K hK => ?_); (first | (simp only [zq9]; repeat (go_big_quiet_step (fail))) | simp only [pick_nil]); refine wpQuiet_nil (hK _ ?_); clear hK K)
          | ((with_reducible refine at_list ?_); go_wp2_with (fail); first | refine behind_store (t := 31) (by decide) ?_ | refine behind (by with_reducible repeat (first | exact zq1 _ | assumption | refine zq2 ?_ | refine zq5 ?_ _ | refine zq6 ?_ _ | refine zq7 ?_ | refine zq8 ?_ (by assumption))) ?_))
         go_wp2
         go_roundw
         case rel => exact ⟨i + 1, by omega, by go_num, by rw [HT.out, hd']; simp, hlq.drew⟩
         case measure => simp [intOf]; omega
        ·have hd' : decide (xd ≤ day) = false := decide_eq_false hd
         go_upto_region 8 with (fail)
         refine wp_region_plan 31 (.done [0, 1, 2, 3, 4, 5, 6, 7, 8, 9, 10, 11, 12, 13, 14, 15, 16, 17, 18, 19, 20, 21, 22, 23, 24, 25, 26, 27, 28, 29, 30]) (by kernel_rfl) (by kernel_rfl) (fun _ _ d _ _ h => by cases d <;> exact h) ?_
         repeat' (first
          | (refine plan_done (fun K hK => ?_); (first | (simp only [zq9]; repeat (go_big_quiet_step (fail))) | simp only [pick_nil]); refine wpQuiet_nil (hK _ ?_); clear hK K)
          | ((with_reducible refine at_list ?_); go_wp2_with (fail); first | refine behind_store (t := 31) (by decide) ?_ | refine behind (by with_reducible repeat (first | exact zq1 _ | assumption | refine zq2 ?_ | refine zq5 ?_ _ | refine zq6 ?_ _ | refine zq7 ?_ | refine zq8 ?_ (by assumption))) ?_))
         go_wp2
         go_roundw
         case rel => exact ⟨i + 1, by omega, by go_num, by rw [HT.out, hd']; simp, hlq.drew⟩
         case measure => simp [intOf]; omega
       ·have hp' : (xp == 1) = false := by rw [beq_eq_false_iff_ne]; exact hp
        clear hp
        go_upto_region 8 with (fail)
        refine wp_region_plan 31 (.done [0, 1, 2, 3, 4, 5, 6, 7, 8, 9, 10, 11, 12, 13, 14, 15, 16, 17, 18, 19, 20, 21, 22, 23, 24, 25, 26, 27, 28, 29, 30]) (by kernel_rfl) (by kernel_rfl) (fun _ _ d _ _ h => by cases d <;> exact h) ?_
        repeat' (first
         | (refine plan_done (fun K hK => ?_); (first | (simp only [zq9]; repeat (go_big_quiet_step (fail))) | simp only [pick_nil]); refine wpQuiet_nil (hK _ ?_); clear hK K)
         | ((with_reducible refine at_list ?_); go_wp2_with (fail); first | refine behind_store (t := 31) (by decide) ?_ | refine behind (by with_reducible repeat (first | exact zq1 _ | assumption | refine zq2 ?_ | refine zq5 ?_ _ | refine zq6 ?_ _ | refine zq7 ?_ | refine zq8 ?_ (by assumption))) ?_))
        go_wp2
        go_roundw
        case rel => exact ⟨i + 1, by omega, by go_num, by rw [HT.out, hp']; simp, hlq.drew⟩
        case measure => simp [intOf]; omega
      ·have hA' : (A0 == xk) = false := by rw [beq_eq_false_iff_ne]; exact hA
       clear hA
       go_upto_region 8 with (fail)
       refine wp_region_plan 31 (.done [0, 1, 2, 3, 4, 5, 6, 7, 8, 9, 10, 11, 12, 13, 14, 15, 16, 17, 18, 19, 20, 21, 22, 23, 24, 25, 26, 27, 28, 29, 30]) (by kernel_rfl) (by kernel_rfl) (fun _ _ d _ _ h => by cases d <;> exact h) ?_
       repeat' (first
        | (refine plan_done (fun K hK => ?_); (first | (simp only [zq9]; repeat (go_big_quiet_step (fail))) | simp only [pick_nil]); refine wpQuiet_nil (hK _ ?_); clear hK K)
        | ((with_reducible refine at_list ?_); go_wp2_with (fail); first | refine behind_store (t := 31) (by decide) ?_ | refine behind (by with_reducible repeat (first | exact zq1 _ | assumption | refine zq2 ?_ | refine zq5 ?_ _ | refine zq6 ?_ _ | refine zq7 ?_ | refine zq8 ?_ (by assumption))) ?_))
       go_wp2
       go_roundw
       case rel => exact ⟨i + 1, by omega, by go_num, by rw [HT.out, hA']; simp, hlq.drew⟩
       case measure => simp [intOf]; omega
     ·have hO' : (O0 == 17) = false := by rw [beq_eq_false_iff_ne]; exact hO
      clear hO
      go_upto_region 8 with (fail)
      refine wp_region_plan 31 (.done [0, 1, 2, 3, 4, 5, 6, 7, 8, 9, 10, 11, 12, 13, 14, 15, 16, 17, 18, 19, 20, 21, 22, 23, 24, 25, 26, 27, 28, 29, 30]) (by kernel_rfl) (by kernel_rfl) (fun _ _ d _ _ h => by cases d <;> exact h) ?_
      repeat' (first
       | (refine plan_done (fun K hK => ?_); (first | (simp only [zq9]; repeat (go_big_quiet_step (fail))) | simp only [pick_nil]); refine wpQuiet_nil (hK _ ?_); clear hK K)
       | ((with_reducible refine at_list ?_); go_wp2_with (fail); first | refine behind_store (t := 31) (by decide) ?_ | refine behind (by with_reducible repeat (first | exact zq1 _ | assumption | refine zq2 ?_ | refine zq5 ?_ _ | refine zq6 ?_ _ | refine zq7 ?_ | refine zq8 ?_ (by assumption))) ?_))
      go_wp2
      go_roundw
      case rel => exact ⟨i + 1, by omega, by go_num, by rw [HT.out, hO']; simp, hlq.drew⟩
      case measure => simp [intOf]; omega
   ·have hge : ¬ ((i : Int) < L) := by omega
    have hT : ts.take i = ts := List.take_of_length_le (by rw [HL.out]; omega)
    rw [hT]
    have HR3 : Hid (R = !(ci || ts.any (fun y => y.op == 17 && (y.a == xk && (xp == 1 && decide (xd ≤ day)))))) := HR2
    obtain ⟨b0, hb0⟩ : ∃ b, (ci || ts.any (fun y => y.op == 17 && (y.a == xk && (xp == 1 && decide (xd ≤ day))))) = b := ⟨_, rfl⟩
    rw [hb0] at HR3 ⊢
    clear hb0 HR2 hT
    go_wp2
    go_ret
    exact ⟨by rw [HR3.out]; rfl, hl3.trans hlq⟩
end Go.Proofs.YtkjabiabeemfhaaGreatDoor
end
section
namespace Go.Proofs.YtkjabiabeemfhaaGreatDoor
open Go.RowKit Go.Sort
theorem puts_len (l : List Fl) : (l.foldl (insL ordF) []).length = l.length := by rw [puts_nil, (sortL_perm _ _).length_eq]
end Go.Proofs.YtkjabiabeemfhaaGreatDoor
end
section
namespace Go.Proofs.YtkjabiabeemfhaaGreatDoor
open Go.RowKit
set_option maxRecDepth 100000
section
variable {α : Type} {sz : Nat} {f : α → Nat → Value} {w : World} {P : Program} {t : TypeId} {xs : List α}
theorem row_upto (ht : P.underlying t = some (.slice (P.elem t))) (hz : ∀ W, (sizeOf (P.elem t)).run P W = .ok sz W) {p : Option Addr} {n c : Nat} (h : IsRow sz f w (.slice p n c) xs) {k : Nat} (hk : k ≤ xs.length) :
  ∃ q c', (∀ W, (Instr.slice t (.slice p n c) none (some (.int .i64 (k : Int))) none).run P W = .ok (.slice q k c') W) ∧ IsRow sz f w (.slice q k c') (xs.take k) := by
 rcases h with ⟨⟨p, h1⟩, h6⟩ | ⟨b, o, c', h1, h2, h3, h4, h5⟩
 ·cases h1
  subst h6
  obtain rfl : k = 0 := by simpa using hk
  refine ⟨_, 0, fun W => ?_, .inl ⟨⟨p, rfl⟩, by simp⟩⟩
  rw [run_slice_h _ _ _ _ _ ht _ _ (by omega) (by omega), hz]
  simp [Result.andThen, sliced]
 ·cases h1
  refine ⟨some ⟨b, o, none⟩, c, fun W => ?_, .inr ⟨b, o, c, by rw [List.length_take, Nat.min_eq_left hk], h2, by rw [List.length_take]; omega, h4, fun i hi j hj => ?_⟩⟩
  ·rw [run_slice_h _ _ _ _ _ ht _ _ (by omega) (by omega), hz]
   simp only [Result.andThen, sliced, Int.toNat_natCast, Nat.zero_mul, Nat.sub_zero]
   split
   ·rfl
   ·simp only [Option.map]; rw [add_plain]; rfl
  ·rw [List.length_take] at hi
   rw [List.getElem_take]
   exact h5 i (by omega) j hj
theorem row_from (ht : P.underlying t = some (.slice (P.elem t))) (hz : ∀ W, (sizeOf (P.elem t)).run P W = .ok sz W) {p : Option Addr} {n c : Nat} (h : IsRow sz f w (.slice p n c) xs) {k : Nat} (hk : k ≤ xs.length) :
  ∃ q c', (∀ W, (Instr.slice t (.slice p n c) (some (.int .i64 (k : Int))) none none).run P W = .ok (.slice q (xs.length - k) c') W) ∧ IsRow sz f w (.slice q (xs.length - k) c') (xs.drop k) := by
 rcases h with ⟨⟨p, h1⟩, h6⟩ | ⟨b, o, c', h1, h2, h3, h4, h5⟩
 ·cases h1
  subst h6
  obtain rfl : k = 0 := by simpa using hk
  refine ⟨_, 0, fun W => ?_, .inl ⟨⟨p, rfl⟩, by simp⟩⟩
  rw [run_slice_l _ _ _ _ _ ht _ _ (by omega) (by omega), hz]
  simp [Result.andThen, sliced]
 ·cases h1
  by_cases hkc : k = c
  ·subst hkc
   have hx : xs.length = k := by omega
   refine ⟨some ⟨b, o, none⟩, 0, fun W => ?_, .inr ⟨b, o, 0, by rw [List.length_drop], h2, by rw [List.length_drop]; omega, by omega, fun i hi j hj => ?_⟩⟩
   ·rw [run_slice_l _ _ _ _ _ ht _ _ (by omega) (by omega), hz]
    simp [Result.andThen, sliced]
   ·rw [List.length_drop] at hi; omega
  ·refine ⟨some ⟨b, o + k * sz, none⟩, c - k, fun W => ?_, .inr ⟨b, o + k * sz, c - k, by rw [List.length_drop], h2, by rw [List.length_drop]; omega, by omega, fun i hi j hj => ?_⟩⟩
   ·rw [run_slice_l _ _ _ _ _ ht _ _ (by omega) (by omega), hz]
    simp only [Result.andThen, sliced, Int.toNat_natCast]
    rw [if_neg (by omega)]
    simp only [Option.map]; rw [add_plain]
   ·rw [List.length_drop] at hi
    have := h5 (k + i) (by omega) j hj
    rw [show o + k * sz + i * sz + j = o + (k + i) * sz + j by rw [Nat.add_mul]; omega, this, List.getElem_drop]
end
end Go.Proofs.YtkjabiabeemfhaaGreatDoor
end
section
namespace Go.Proofs.YtkjabiabeemfhaaGreatDoor
open Go.RowKit Go.Sort
def aheadB (x y : Fl) : Bool := !(ltOf ordF) y x
theorem ahead_true {x y : Fl} (h : ¬ ltF y x) : aheadB x y = true := by unfold aheadB; rw [not_lt ltF_iff |>.2 h]; rfl
theorem ahead_false {x y : Fl} (h : ltF y x) : aheadB x y = false := by unfold aheadB; rw [(ltF_iff y x).2 h]; rfl
def flV (x : Fl) : Value := .agg #[.int .i64 x.day, .int .i64 x.cur, .int .i64 x.amt]
set_option maxHeartbeats 1600000 in
theorem rahead_any (x y : Fl) (w : World) : Calls Tryz.prog 79 #[flV x, flV y] w fun e w' => e = .returned (.bool (aheadB x y)) ∧ Later w w' := by
 obtain ⟨a, b, c⟩ := x
 obtain ⟨a', b', c'⟩ := y
 unfold flV
 simp only
 obtain ⟨R, hR⟩ : ∃ R, aheadB ⟨a, b, c⟩ ⟨a', b', c'⟩ = R := ⟨_, rfl⟩
 rw [hR]
 have hcase : (a ≠ a' ∧ a < a' ∧ R = true) ∨ (a ≠ a' ∧ ¬ a < a' ∧ R = false) ∨ (a = a' ∧ b ≠ b' ∧ b < b' ∧ R = true) ∨ (a = a' ∧ b ≠ b' ∧ ¬ b < b' ∧ R = false) ∨ (a = a' ∧ b = b' ∧ c ≤ c' ∧ R = true) ∨ (a = a' ∧ b = b' ∧ ¬ c ≤ c' ∧ R = false) := by
  by_cases h1 : a = a'
  ·by_cases h2 : b = b'
   ·by_cases h3 : c ≤ c'
    ·exact .inr (.inr (.inr (.inr (.inl ⟨h1, h2, h3, by rw [← hR]; exact ahead_true (by unfold ltF; simp only; omega)⟩))))
    ·exact .inr (.inr (.inr (.inr (.inr ⟨h1, h2, h3, by rw [← hR]; exact ahead_false (by unfold ltF; simp only; omega)⟩))))
   ·by_cases h3 : b < b'
    ·exact .inr (.inr (.inl ⟨h1, h2, h3, by rw [← hR]; exact ahead_true (by unfold ltF; simp only; omega)⟩))
    ·exact .inr (.inr (.inr (.inl ⟨h1, h2, h3, by rw [← hR]; exact ahead_false (by unfold ltF; simp only; omega)⟩)))
  ·by_cases h3 : a < a'
   ·exact .inl ⟨h1, h3, by rw [← hR]; exact ahead_true (by unfold ltF; simp only; omega)⟩
   ·exact .inr (.inl ⟨h1, h3, by rw [← hR]; exact ahead_false (by unfold ltF; simp only; omega)⟩)
 clear hR
 rcases hcase with ⟨h1, h2, rfl⟩ | ⟨h1, h2, rfl⟩ | ⟨rfl, h1, h2, rfl⟩ | ⟨rfl, h1, h2, rfl⟩ | ⟨rfl, rfl, h2, rfl⟩ | ⟨rfl, rfl, h2, rfl⟩
 ·have hb : (a == a') = false := by rw [beq_eq_false_iff_ne]; exact h1
  clear h1
  go_enter Tryz.func79, Tryz.ntmps79
  go_wp2
  go_ret
  exact ⟨rfl, by repeat (first | with_reducible (first | exact zq1 _ | assumption | refine zq2 ?_ | refine zq4 ?_ ?_ _ | refine zq5 ?_ _ | refine zq6 ?_ _ | refine zq7 ?_ | refine zq8 ?_ (by assumption)) | (simp only [zq10]; omega) | (simp; done) | (simp; omega))⟩
 ·have hb : (a == a') = false := by rw [beq_eq_false_iff_ne]; exact h1
  clear h1
  go_enter Tryz.func79, Tryz.ntmps79
  go_wp2
  go_ret
  exact ⟨rfl, by repeat (first | with_reducible (first | exact zq1 _ | assumption | refine zq2 ?_ | refine zq4 ?_ ?_ _ | refine zq5 ?_ _ | refine zq6 ?_ _ | refine zq7 ?_ | refine zq8 ?_ (by assumption)) | (simp only [zq10]; omega) | (simp; done) | (simp; omega))⟩
 ·have hb : (b == b') = false := by rw [beq_eq_false_iff_ne]; exact h1
  clear h1
  go_enter Tryz.func79, Tryz.ntmps79
  go_wp2
  go_ret
  exact ⟨rfl, by repeat (first | with_reducible (first | exact zq1 _ | assumption | refine zq2 ?_ | refine zq4 ?_ ?_ _ | refine zq5 ?_ _ | refine zq6 ?_ _ | refine zq7 ?_ | refine zq8 ?_ (by assumption)) | (simp only [zq10]; omega) | (simp; done) | (simp; omega))⟩
 ·have hb : (b == b') = false := by rw [beq_eq_false_iff_ne]; exact h1
  clear h1
  go_enter Tryz.func79, Tryz.ntmps79
  go_wp2
  go_ret
  exact ⟨rfl, by repeat (first | with_reducible (first | exact zq1 _ | assumption | refine zq2 ?_ | refine zq4 ?_ ?_ _ | refine zq5 ?_ _ | refine zq6 ?_ _ | refine zq7 ?_ | refine zq8 ?_ (by assumption)) | (simp only [zq10]; omega) | (simp; done) | (simp; omega))⟩
 ·go_enter Tryz.func79, Tryz.ntmps79
  go_wp2
  go_ret
  exact ⟨rfl, by repeat (first | with_reducible (first | exact zq1 _ | assumption | refine zq2 ?_ | refine zq4 ?_ ?_ _ | refine zq5 ?_ _ | refine zq6 ?_ _ | refine zq7 ?_ | refine zq8 ?_ (by assumption)) | (simp only [zq10]; omega) | (simp; done) | (simp; omega))⟩
 ·go_enter Tryz.func79, Tryz.ntmps79
  go_wp2
  go_ret
  exact ⟨rfl, by repeat (first | with_reducible (first | exact zq1 _ | assumption | refine zq2 ?_ | refine zq4 ?_ ?_ _ | refine zq5 ?_ _ | refine zq6 ?_ _ | refine zq7 ?_ | refine zq8 ?_ (by assumption)) | (simp only [zq10]; omega) | (simp; done) | (simp; omega))⟩
theorem tw_take {α : Type} (p : α → Bool) (l : List α) : l.take (l.takeWhile p).length = l.takeWhile p ∧ l.drop (l.takeWhile p).length = l.dropWhile p := by
 have h := List.takeWhile_append_dropWhile (p := p) (l := l)
 constructor
 ·conv => lhs; rw [← h]
  rw [List.take_left']
  rw [h]
 ·conv => lhs; rw [← h]
  rw [List.drop_left']
  rw [h]
theorem tw_in {α : Type} {p : α → Bool} : ∀ {l : List α} {i : Nat} (hi : i < l.length), i < (l.takeWhile p).length → p l[i] = true
 | a :: l, i, hi, h => by
  rw [List.takeWhile_cons] at h
  split at h
  ·rename_i hp
   cases i with
   | zero => exact hp
   | succ i => exact tw_in (l := l) (by simpa using hi) (by simpa using h)
  ·simp at h
theorem tw_out {α : Type} {p : α → Bool} : ∀ {l : List α} (hi : (l.takeWhile p).length < l.length), p (l[(l.takeWhile p).length]) = false
 | a :: l, hi => by
  by_cases hp : p a = true
  ·have e : (a :: l).takeWhile p = a :: l.takeWhile p := by rw [List.takeWhile_cons, if_pos hp]
   simp only [e, List.length_cons, List.getElem_cons_succ]
   exact tw_out (l := l) (by rw [e] at hi; simpa using hi)
  ·have e : (a :: l).takeWhile p = [] := by rw [List.takeWhile_cons, if_neg hp]
   simp only [e, List.length_nil, List.getElem_cons_zero]
   simpa using hp
theorem tw_le {α : Type} (p : α → Bool) (l : List α) : (l.takeWhile p).length ≤ l.length := (List.takeWhile_sublist p).length_le
def aheadN (L : List Fl) (x : Fl) : Nat := (L.takeWhile (fun y => aheadB y x)).length
theorem ins_take (L : List Fl) (x : Fl) : insL ordF L x = L.take (aheadN L x) ++ [x] ++ L.drop (aheadN L x) := by
 unfold aheadN insL
 obtain ⟨a, b⟩ := tw_take (fun y => aheadB y x) L
 rw [a, b]
 unfold aheadB
 simp
set_option maxHeartbeats 3200000 in
theorem rput_any (L : List Fl) (x : Fl) (v : Value) (w : World) (hN : IsFlows w v L) (hlen0 : L.length ≤ 100000) :
  Calls Tryz.prog 33 #[v, flV x] w fun e w' => ∃ v', e = .returned v' ∧ w'.ownsRow w.heap.size 50 3 v' (insL ordF L x).length ((insL ordF L x).flatMap flCs) ∧ Later w w' := by
 obtain ⟨p, cp, rfl⟩ := hN.form
 have hK0 : aheadN L x ≤ L.length := tw_le _ _
 obtain ⟨q1, c1, s1, r1⟩ := row_upto (t := 30) (P := Tryz.prog) (by kernel_rfl) (fun W => by kernel_rfl) hN hK0
 obtain ⟨q2, c2, s2, r2⟩ := row_from (t := 30) (P := Tryz.prog) (by kernel_rfl) (fun W => by kernel_rfl) hN hK0
 have HIN : Hid (∀ i (hi : i < L.length), i < aheadN L x → aheadB (L[i]) x = true) := Lib.hid (fun i hi h => tw_in (p := fun y => aheadB y x) hi h)
 have HOUT : Hid (∀ h : aheadN L x < L.length, aheadB (L[aheadN L x]) x = false) := Lib.hid (fun h => tw_out (p := fun y => aheadB y x) h)
 have HI := Lib.hid (ins_take L x)
 have HX := Lib.hid (fun i (hi : i < L.length) W => rahead_any L[i] x W)
 have HR1 := Lib.hid r1
 have HR2 := Lib.hid r2
 have HN := Lib.hid hN
 obtain ⟨R, hR⟩ : ∃ R, insL ordF L x = R := ⟨_, rfl⟩
 rw [hR] at HI ⊢
 obtain ⟨N, hNL⟩ : ∃ N, L.length = N := ⟨_, rfl⟩
 have HL := Lib.hid hNL
 rw [hNL] at HN hlen0 hK0 s1 s2 HR2 ⊢
 have HT : Hid ((L.take (aheadN L x)).length = aheadN L x ∧ (L.drop (aheadN L x)).length = N - aheadN L x) := Lib.hid ⟨by rw [List.length_take, hNL]; omega, by rw [List.length_drop, hNL]⟩
 clear hR hNL r1 r2 hN
 generalize aheadN L x = K at *
 obtain ⟨xd, xc, xa⟩ := x
 unfold flV
 simp only
 go_enter Tryz.func33, Tryz.ntmps33
 go_upto_region 1 with (fail)
 refine wp_opaque (fun w0 hb0 => ?_)
 have hO0 := Own.one hb0
 have hl0 := hb0.un1
 obtain ⟨z0, d0, -⟩ := own_get hO0
 have x0 := d0 0
 have x1 := d0 1
 have x2 := d0 2
 simp only [List.getElem?_toArray, List.getElem?_cons_zero, List.getElem?_cons_succ] at x0 x1 x2
 clear hb0 d0
 obtain ⟨D, hB⟩ : ∃ D, w.heap.size = D := ⟨_, rfl⟩
 rw [hB] at x0 x1 x2 z0 ⊢
 go_upto_block 0 with (fail)
 go_cut [5] (fun s5 wx => s5 = .int .i64 K ∧ Later w0 wx)
 case first =>
  go_wp2_with fail
  go_loopw [5] (fun s5 wr => ∃ j : Nat, j ≤ K ∧ s5 = .int .i64 j ∧ Later w0 wr) (fun s5 _ => N - (intOf s5).toNat)
  case atStart => exact ⟨0, Nat.zero_le _, rfl, Later.refl _⟩
  case round =>
   obtain ⟨j, hj, rfl, hlat⟩ := hrel
   have hlw := hl0.trans hlat
   replace x0 := ((bcell hlat).1 _ 0 z0).trans x0
   replace x1 := ((bcell hlat).1 _ 1 z0).trans x1
   replace x2 := ((bcell hlat).1 _ 2 z0).trans x2
   have zB := Nat.lt_of_lt_of_le z0 hlat.size
   by_cases hlt : j < N
   ·have hjl : j < L.length := by rw [HL.out]; exact hlt
    obtain ⟨b, o, c3, hv, hb, g⟩ := HN.out.full (i := j) hjl
    rw [HL.out] at hv
    cases hv
    have e0 := ((bcell hlw).1 _ _ hb).trans (g 0 (by decide))
    have e1 := ((bcell hlw).1 _ _ hb).trans (g 1 (by decide))
    have e2 := ((bcell hlw).1 _ _ hb).trans (g 2 (by decide))
    simp only [flF, Nat.add_zero] at e0 e1 e2
    have hbr := Nat.lt_of_lt_of_le hb hlw.size
    have HXJ := Lib.hid (fun W => HX.out j hjl W)
    unfold flV at HXJ
    obtain ⟨q, hq⟩ : ∃ q, aheadB L[j] ⟨xd, xc, xa⟩ = q := ⟨_, rfl⟩
    rw [hq] at HXJ
    have HQ := Lib.hid hq
    clear g hq hb HX
    by_cases hjk : j < K
    ·have hq : q = true := by rw [← HQ.out]; exact HIN.out j hjl hjk
     subst hq
     clear HQ HIN HOUT HR1 HR2
     generalize (L[j]).day = y0 at *
     generalize (L[j]).cur = y1 at *
     generalize (L[j]).amt = y2 at *
     go_upto_region 2 with (fail)
     refine wp_region_plan 12 (.one [0, 1] 2 (.one [3, 4, 5, 6, 7, 8, 9] 10 (.done [11]))) (by kernel_rfl) (by kernel_rfl) (fun _ _ d _ _ h => by cases d <;> exact h) ?_
     repeat' (first
      | ((first | refine plan_done (fun K hK => ?_) | refine plan_one (by rfl) (fun K hK => ?_)); (first | (simp only [zq9]; repeat (go_big_quiet_step (fail))) | simp only [pick_nil]); refine wpQuiet_nil (hK _ ?_); clear hK K)
      | ((with_reducible refine at_list ?_); go_wp2_with ((go_at_call 79; go_must (refine (HXJ.out _).mono ?_; rintro e w1 ⟨rfl, hb1⟩))); first | refine behind_store (t := 12) (by decide) ?_ | refine behind (by with_reducible repeat (first | exact zq1 _ | assumption | refine zq2 ?_ | refine zq5 ?_ _ | refine zq6 ?_ _ | refine zq7 ?_ | refine zq8 ?_ (by assumption))) ?_))
     all_goals
      go_wp2
      go_roundw
      case rel => exact ⟨j + 1, by omega, by go_num, hlat.trans (by repeat (first | with_reducible (first | exact zq1 _ | assumption | refine zq2 ?_ | refine zq4 ?_ ?_ _ | refine zq5 ?_ _ | refine zq6 ?_ _ | refine zq7 ?_ | refine zq8 ?_ (by assumption)) | (simp only [zq10]; omega) | (simp; done) | (simp; omega)))⟩
      case measure => simp [intOf]; omega
    ·obtain rfl : j = K := by omega
     have hq : q = false := by rw [← HQ.out]; exact HOUT.out hjl
     subst hq
     clear HQ HIN HOUT HR1 HR2
     generalize (L[j]).day = y0 at *
     generalize (L[j]).cur = y1 at *
     generalize (L[j]).amt = y2 at *
     go_upto_region 2 with (fail)
     refine wp_region_plan 12 (.one [0, 1] 2 (.one [3, 4, 5, 6, 7, 8, 9] 10 (.done [11]))) (by kernel_rfl) (by kernel_rfl) (fun _ _ d _ _ h => by cases d <;> exact h) ?_
     repeat' (first
      | ((first | refine plan_done (fun K hK => ?_) | refine plan_one (by rfl) (fun K hK => ?_)); (first | (simp only [zq9]; repeat (go_big_quiet_step (fail))) | simp only [pick_nil]); refine wpQuiet_nil (hK _ ?_); clear hK K)
      | ((with_reducible refine at_list ?_); go_wp2_with ((go_at_call 79; go_must (refine (HXJ.out _).mono ?_; rintro e w1 ⟨rfl, hb1⟩))); first | refine behind_store (t := 12) (by decide) ?_ | refine behind (by with_reducible repeat (first | exact zq1 _ | assumption | refine zq2 ?_ | refine zq5 ?_ _ | refine zq6 ?_ _ | refine zq7 ?_ | refine zq8 ?_ (by assumption))) ?_))
     all_goals
      go_wp2_with fail
      go_meet
      exact ⟨rfl, hlat.trans (by repeat (first | with_reducible (first | exact zq1 _ | assumption | refine zq2 ?_ | refine zq4 ?_ ?_ _ | refine zq5 ?_ _ | refine zq6 ?_ _ | refine zq7 ?_ | refine zq8 ?_ (by assumption)) | (simp only [zq10]; omega) | (simp; done) | (simp; omega)))⟩
   ·obtain rfl : j = K := by omega
    clear HIN HOUT HR1 HR2 HX
    go_upto_region 2 with (fail)
    refine wp_region_plan 12 (.one [0, 1] 2 (.one [3, 4, 5, 6, 7, 8, 9] 10 (.done [11]))) (by kernel_rfl) (by kernel_rfl) (fun _ _ d _ _ h => by cases d <;> exact h) ?_
    repeat' (first
     | ((first | refine plan_done (fun K hK => ?_) | refine plan_one (by rfl) (fun K hK => ?_)); (first | (simp only [zq9]; repeat (go_big_quiet_step (fail))) | simp only [pick_nil]); refine wpQuiet_nil (hK _ ?_); clear hK K)
     | ((with_reducible refine at_list ?_); go_wp2_with (fail); first | refine behind_store (t := 12) (by decide) ?_ | refine behind (by with_reducible repeat (first | exact zq1 _ | assumption | refine zq2 ?_ | refine zq5 ?_ _ | refine zq6 ?_ _ | refine zq7 ?_ | refine zq8 ?_ (by assumption))) ?_))
    all_goals
     go_wp2_with fail
     go_meet
     exact ⟨rfl, hlat.trans (by repeat (first | with_reducible (first | exact zq1 _ | assumption | refine zq2 ?_ | refine zq4 ?_ ?_ _ | refine zq5 ?_ _ | refine zq6 ?_ _ | refine zq7 ?_ | refine zq8 ?_ (by assumption)) | (simp only [zq10]; omega) | (simp; done) | (simp; omega)))⟩
 case rest =>
  obtain ⟨rfl, hlc⟩ := hcut
  have hlE : Later w wc := hl0.trans hlc
  replace x0 := ((bcell hlc).1 _ 0 z0).trans x0
  replace x1 := ((bcell hlc).1 _ 1 z0).trans x1
  replace x2 := ((bcell hlc).1 _ 2 z0).trans x2
  have zc := Nat.lt_of_lt_of_le z0 hlc.size
  have hBc : D ≤ wc.heap.size := by omega
  clear HX HIN HOUT HN
  go_upto_region 6 with (at_builtin; go_must (refine B.wpList_rows (L := []) (base := D) flCs flCs_len flCs_get flCs_one sliceFlow (World.ownsRow_nil _ _ _ _) hBc (HR1.out.later hlE) rfl _ _ rfl rfl rfl (by rw [HT.out.1]; simp; omega) (by decide) ?_; intro v1 w1 h1 g1 k1; rw [List.nil_append] at h1; have h1' := h1; rw [HT.out.1] at h1'; obtain ⟨p1, c1', rfl⟩ := B.owns_form h1'; have hl1 : Later wc w1 := Later.grown (Later.refl _) g1 (fun k hk => by cases hk)))
  have HM1 := Lib.hid h1
  replace x0 := ((bcell hl1).1 _ 0 zc).trans x0
  replace x1 := ((bcell hl1).1 _ 1 zc).trans x1
  replace x2 := ((bcell hl1).1 _ 2 zc).trans x2
  have zc1 := Nat.lt_of_lt_of_le zc hl1.size
  have hB1 : D ≤ w1.heap.size := by omega
  clear h1 h1' g1 k1
  go_upto_region 7 with (at_builtin; go_must (refine wpList_flow (base := D) ⟨xd, xc, xa⟩ HM1.out hB1 rfl _ _ rfl rfl 1 _ rfl rfl (by rw [HT.out.1]; omega) ?_; intro v2 w2 h2 g2 k2))
  have hK2 : ((L.take K) ++ [(⟨xd, xc, xa⟩ : Fl)]).length = K + 1 := by rw [List.length_append, HT.out.1]; rfl
  have h2' := h2
  rw [hK2] at h2'
  obtain ⟨p2, c2', rfl⟩ := B.owns_form h2'
  have HM2 := Lib.hid h2
  have hl2 : Later w w2 := Later.grown ((hlE.trans hl1).alloc _) g2 (fun k hk => by rw [hB]; exact (HM1.out.lt k hk).1)
  have hB2 : D ≤ w2.heap.size := by have := hl2.size; omega
  have HK2 := Lib.hid hK2
  clear h2 h2' g2 k2 hK2
  go_wp2_with (at_builtin; go_must (refine B.wpList_rows (base := D) flCs flCs_len flCs_get flCs_one sliceFlow HM2.out hB2 (HR2.out.later hl2) rfl _ _ rfl rfl rfl (by rw [HK2.out, HT.out.2]; omega) (by decide) ?_; intro v3 w3 h3 g3 k3; have hl3 : Later w w3 := Later.grown hl2 g3 (fun k hk => by rw [hB]; exact (HM2.out.lt k hk).1)))
  go_ret
  exact ⟨_, rfl, by rw [HI.out, hB]; exact h3, hl3⟩
end Go.Proofs.YtkjabiabeemfhaaGreatDoor
end
