/- ValueParts: its walk -/
import Derived.Test.YtkpadahpepeaoaaDoorSPartsP
import Derived.Test.YtkpadahpepeaoaaDoorSAppN
set_option linter.all false
namespace Go.Proofs.YtkpadahpepeaoaaDoor
open Go.RowKit
set_option maxRecDepth 100000

/-- PartsR, in letters. -/
def PL (xe : Int) (xi : Bool) (xn xd ye : Int) (yi : Bool) (yn yd ze : Int) (zi : Bool) (zn zd pe : Int) (pi : Bool) (pn pd qe : Int) (qi : Bool) (qn qd : Int) : Prop :=
  (xe ≠ 0 ∧ pe ≠ 0 ∧ qe = pe ∧ pi = false ∧ qi = false) ∨
  (xe = 0 ∧ xi = false ∧ ye ≠ 0 ∧ pe ≠ 0 ∧ qe = pe ∧ pi = false ∧ qi = false) ∨
  (xe = 0 ∧ xi = true ∧ ze = 0 ∧ zi = true ∧ zn = 0 ∧ zd = 1 ∧ ye ≠ 0 ∧ pe ≠ 0 ∧ qe = pe ∧ pi = false ∧ qi = false) ∨
  (xe = 0 ∧ xi = false ∧ ye = 0 ∧ pe = 0 ∧ qe = 0 ∧ pi = false ∧ qi = false) ∨
  (xe = 0 ∧ xi = true ∧ ze = 0 ∧ zi = true ∧ zn = 0 ∧ zd = 1 ∧ ye = 0 ∧ pe = 0 ∧ qe = 0 ∧ pi = false ∧ qi = false) ∨
  (xe = 0 ∧ xi = true ∧ ze = 0 ∧ zi = true ∧ zn = 0 ∧ zd = 1 ∧ ye = 0 ∧ yi = true ∧ pe = 0 ∧ qe = 0 ∧ pi = true ∧ qi = true ∧ pn = xn ∧ pd = xd ∧ qn = yn ∧ qd = yd) ∨
  (xe = 0 ∧ xi = true ∧ ze = 0 ∧ zi = true ∧ zn = 0 ∧ zd = 1 ∧ ye = 0 ∧ yi = true ∧ pe = 0 ∧ qe = 0 ∧ pi = true ∧ qi = true ∧ pn = yn ∧ pd = yd ∧ qn = xn ∧ qd = xd ∧ ((yn == xn) && (yd == xd)) = false)
theorem PL_of {x y z p q : Int × Option Q2} (h : PartsR x y z p q) : PL x.1 x.2.isSome (outN x) (outD x) y.1 y.2.isSome (outN y) (outD y) z.1 z.2.isSome (outN z) (outD z) p.1 p.2.isSome (outN p) (outD p) q.1 q.2.isSome (outN q) (outD q) := by
  rcases h with ⟨h1, h2, rfl, h3, h4⟩ | ⟨rfl, h1, h2, rfl, h3, h4⟩ | ⟨⟨u, rfl⟩, rfl, h1, h2, rfl, h3, h4⟩ | ⟨rfl, h1, rfl, rfl⟩ | ⟨⟨u, rfl⟩, rfl, rfl, rfl, rfl⟩ | ⟨u, v, rfl, rfl, rfl, rfl, rfl⟩ | ⟨u, v, rfl, rfl, rfl, rfl, rfl, h1⟩
  · exact .inl ⟨h1, h3, rfl, by rw [h4]; rfl, by rw [h4]; rfl⟩
  · exact .inr (.inl ⟨rfl, rfl, h1, h3, rfl, by rw [h4]; rfl, by rw [h4]; rfl⟩)
  · exact .inr (.inr (.inl ⟨rfl, rfl, rfl, rfl, rfl, rfl, h1, h3, rfl, by rw [h4]; rfl, by rw [h4]; rfl⟩))
  · exact .inr (.inr (.inr (.inl ⟨rfl, rfl, h1, rfl, rfl, rfl, rfl⟩)))
  · exact .inr (.inr (.inr (.inr (.inl ⟨rfl, rfl, rfl, rfl, rfl, rfl, rfl, rfl, rfl, rfl, rfl⟩))))
  · exact .inr (.inr (.inr (.inr (.inr (.inl ⟨rfl, rfl, rfl, rfl, rfl, rfl, rfl, rfl, rfl, rfl, rfl, rfl, rfl, rfl, rfl, rfl⟩)))))
  · refine .inr (.inr (.inr (.inr (.inr (.inr ⟨rfl, rfl, rfl, rfl, rfl, rfl, rfl, rfl, rfl, rfl, rfl, rfl, rfl, rfl, rfl, rfl, ?_⟩)))))
    obtain ⟨n, d⟩ := u
    obtain ⟨n', d'⟩ := v
    simp only [outN, outD]
    cases hb : ((n' == n) && (d' == d)) with
    | false => rfl
    | true =>
      simp only [Bool.and_eq_true, beq_iff_eq] at hb
      obtain ⟨rfl, rfl⟩ := hb
      exact absurd rfl h1
theorem join_oks (op : Int) (ho : I64 op) {a b : List Nd} (ha : ∀ x ∈ a, x.ok) (hb : ∀ x ∈ b, x.ok) : ∀ x ∈ joinN op a b, x.ok := by
  intro x hx
  unfold joinN at hx
  have h0 : I64 0 := by unfold I64; omega
  rcases List.mem_cons.1 hx with rfl | hx
  · exact ⟨ho, h0, h0, h0, h0⟩
  · rcases List.mem_append.1 hx with h | h
    · exact ha x h
    · exact hb x h
theorem join_len (op : Int) (a b : List Nd) : (joinN op a b).length = a.length + b.length + 1 := by simp [joinN]


set_option maxHeartbeats 1600000 in
theorem parts_far (a b : List Nd) (ls : List Td) (day : Int) (va vb lv : Value) (w : World) (hS : Shapes w) (hA : IsNodes w va a) (hB : IsNodes w vb b) (hT : IsTolds w lv ls) (h1 : 30 < a.length) :
    Calls Tryd.prog 5 #[.agg #[va, vb], lv, .int .i64 day] w fun e w' => e = .returned (.bool true) ∧ Later w w' := by
  have HAW := Lib.hid (fun W (hl : Later w W) => vawake_any W (hS.later hl))
  obtain ⟨p0, c0, rfl⟩ := hA.form
  obtain ⟨p1, c1, rfl⟩ := hB.form
  obtain ⟨p2, c2, rfl⟩ := hT.form
  generalize a.length = L at *
  generalize b.length = M at *
  generalize ls.length = N at *
  clear hA hB hT hS
  have g1 : 30 < (L : Int) := by omega
  clear h1
  go_enter Tryd.func5, Tryd.ntmps5
  go_upto_region 1 with (fail)
  refine wp_opaque (fun w0 hb0 => ?_)
  have hO0 := Own.one hb0
  have hl0 := hb0.un1
  obtain ⟨z0, d0, -⟩ := own_get hO0
  clear hb0
  go_wp2_with (go_at_call 8; go_must (refine (HAW.out _ hl0).mono ?_; rintro e w9 ⟨rfl, hb9⟩))
  go_ret
  exact ⟨rfl, hl0.trans hb9⟩

set_option maxHeartbeats 1600000 in
theorem parts_far2 (a b : List Nd) (ls : List Td) (day : Int) (va vb lv : Value) (w : World) (hS : Shapes w) (hA : IsNodes w va a) (hB : IsNodes w vb b) (hT : IsTolds w lv ls) (h1 : a.length ≤ 30) (h2 : 30 < b.length) :
    Calls Tryd.prog 5 #[.agg #[va, vb], lv, .int .i64 day] w fun e w' => e = .returned (.bool true) ∧ Later w w' := by
  have HAW := Lib.hid (fun W (hl : Later w W) => vawake_any W (hS.later hl))
  obtain ⟨p0, c0, rfl⟩ := hA.form
  obtain ⟨p1, c1, rfl⟩ := hB.form
  obtain ⟨p2, c2, rfl⟩ := hT.form
  generalize a.length = L at *
  generalize b.length = M at *
  generalize ls.length = N at *
  clear hA hB hT hS
  have g1 : ¬ (30 < (L : Int)) := by omega
  have g2 : 30 < (M : Int) := by omega
  clear h1 h2
  go_enter Tryd.func5, Tryd.ntmps5
  go_upto_region 1 with (fail)
  refine wp_opaque (fun w0 hb0 => ?_)
  have hO0 := Own.one hb0
  have hl0 := hb0.un1
  obtain ⟨z0, d0, -⟩ := own_get hO0
  clear hb0
  go_wp2_with (go_at_call 8; go_must (refine (HAW.out _ hl0).mono ?_; rintro e w9 ⟨rfl, hb9⟩))
  go_ret
  exact ⟨rfl, hl0.trans hb9⟩

set_option maxHeartbeats 1600000 in
theorem parts_far3 (a b : List Nd) (ls : List Td) (day : Int) (va vb lv : Value) (w : World) (hS : Shapes w) (hA : IsNodes w va a) (hB : IsNodes w vb b) (hT : IsTolds w lv ls) (h1 : a.length ≤ 30) (h2 : b.length ≤ 30) (h3 : 60 < ls.length) :
    Calls Tryd.prog 5 #[.agg #[va, vb], lv, .int .i64 day] w fun e w' => e = .returned (.bool true) ∧ Later w w' := by
  have HAW := Lib.hid (fun W (hl : Later w W) => vawake_any W (hS.later hl))
  obtain ⟨p0, c0, rfl⟩ := hA.form
  obtain ⟨p1, c1, rfl⟩ := hB.form
  obtain ⟨p2, c2, rfl⟩ := hT.form
  generalize a.length = L at *
  generalize b.length = M at *
  generalize ls.length = N at *
  clear hA hB hT hS
  have g1 : ¬ (30 < (L : Int)) := by omega
  have g2 : ¬ (30 < (M : Int)) := by omega
  have g3 : 60 < (N : Int) := by omega
  clear h1 h2 h3
  go_enter Tryd.func5, Tryd.ntmps5
  go_upto_region 1 with (fail)
  refine wp_opaque (fun w0 hb0 => ?_)
  have hO0 := Own.one hb0
  have hl0 := hb0.un1
  obtain ⟨z0, d0, -⟩ := own_get hO0
  clear hb0
  go_wp2_with (go_at_call 8; go_must (refine (HAW.out _ hl0).mono ?_; rintro e w9 ⟨rfl, hb9⟩))
  go_ret
  exact ⟨rfl, hl0.trans hb9⟩

set_option maxHeartbeats 1600000 in
theorem parts_wa (a b : List Nd) (ls : List Td) (day : Int) (va vb lv : Value) (w : World) (oa : ∀ x ∈ a, x.ok) (ob : ∀ x ∈ b, x.ok) (hS : Shapes w) (hA : IsNodes w va a) (hB : IsNodes w vb b) (hT : IsTolds w lv ls) (h1 : a.length ≤ 30) (h2 : b.length ≤ 30) (h3 : ls.length ≤ 60) (w1 : wrongV a 0 ≠ 0) :
    Calls Tryd.prog 5 #[.agg #[va, vb], lv, .int .i64 day] w fun e w' => e = .returned (.bool true) ∧ Later w w' := by
  have HAW := Lib.hid (fun W (hl : Later w W) => vawake_any W (hS.later hl))
  have HWA := Lib.hid (fun W (hl : Later w W) => vwrong_any a (by omega) oa va 0 W (hA.later hl))
  have HWB := Lib.hid (fun W (hl : Later w W) => vwrong_any b (by omega) ob vb 0 W (hB.later hl))
  obtain ⟨E, hE⟩ : ∃ E, wrongV a 0 = E := ⟨_, rfl⟩
  rw [hE] at HWA w1
  have he1 : (E == 0) = false := by simpa using w1
  have he2 : (E != 0) = true := by simpa using w1
  obtain ⟨p0, c0, rfl⟩ := hA.form
  obtain ⟨p1, c1, rfl⟩ := hB.form
  obtain ⟨p2, c2, rfl⟩ := hT.form
  have g1 : ¬ (30 < (a.length : Int)) := by omega
  have g2 : ¬ (30 < (b.length : Int)) := by omega
  have g3 : ¬ (60 < (ls.length : Int)) := by omega
  clear hA hB hT hS oa ob h1 h2 h3
  generalize a.length = L at *
  generalize b.length = M at *
  generalize ls.length = N at *
  go_enter Tryd.func5, Tryd.ntmps5
  go_upto_region 1 with (fail)
  refine wp_opaque (fun w0 hb0 => ?_)
  have hO0 := Own.one hb0
  have hl0 := hb0.un1
  obtain ⟨z0, d0, -⟩ := own_get hO0
  clear hb0
  have tok1 : True := trivial
  go_wp2_with (first
    | (go_at_call 11; clear tok1; go_must ((refine (HWA.out _ hl0).mono ?_; rintro e w1 ⟨rfl, hb1⟩; have hl1 := hl0.trans hb1; clear d0 z0; obtain ⟨z0, d0, -⟩ := own_get (hO0.later hb1))))
    | (go_at_call 11; go_must ((refine (HWB.out _ hl1).mono ?_; rintro e w2 ⟨rfl, hb2⟩; have hl2 := hl1.trans hb2; clear d0 z0; obtain ⟨z0, d0, -⟩ := own_get (hO0.later (hb1.trans hb2)))))
    | (go_at_call 8; go_must (refine (HAW.out _ hl1).mono ?_; rintro e w9 ⟨rfl, hb9⟩)))
  go_ret
  exact ⟨rfl, hl1.trans hb9⟩

set_option maxHeartbeats 1600000 in
theorem parts_wb (a b : List Nd) (ls : List Td) (day : Int) (va vb lv : Value) (w : World) (oa : ∀ x ∈ a, x.ok) (ob : ∀ x ∈ b, x.ok) (hS : Shapes w) (hA : IsNodes w va a) (hB : IsNodes w vb b) (hT : IsTolds w lv ls) (h1 : a.length ≤ 30) (h2 : b.length ≤ 30) (h3 : ls.length ≤ 60) (w1 : wrongV a 0 = 0) (w2 : wrongV b 0 ≠ 0) :
    Calls Tryd.prog 5 #[.agg #[va, vb], lv, .int .i64 day] w fun e w' => e = .returned (.bool true) ∧ Later w w' := by
  have HAW := Lib.hid (fun W (hl : Later w W) => vawake_any W (hS.later hl))
  have HWA := Lib.hid (fun W (hl : Later w W) => vwrong_any a (by omega) oa va 0 W (hA.later hl))
  have HWB := Lib.hid (fun W (hl : Later w W) => vwrong_any b (by omega) ob vb 0 W (hB.later hl))
  rw [w1] at HWA
  obtain ⟨E, hE⟩ : ∃ E, wrongV b 0 = E := ⟨_, rfl⟩
  rw [hE] at HWB w2
  have he1 : (E == 0) = false := by simpa using w2
  have he2 : (E != 0) = true := by simpa using w2
  obtain ⟨p0, c0, rfl⟩ := hA.form
  obtain ⟨p1, c1, rfl⟩ := hB.form
  obtain ⟨p2, c2, rfl⟩ := hT.form
  have g1 : ¬ (30 < (a.length : Int)) := by omega
  have g2 : ¬ (30 < (b.length : Int)) := by omega
  have g3 : ¬ (60 < (ls.length : Int)) := by omega
  clear hA hB hT hS oa ob h1 h2 h3
  generalize a.length = L at *
  generalize b.length = M at *
  generalize ls.length = N at *
  go_enter Tryd.func5, Tryd.ntmps5
  go_upto_region 1 with (fail)
  refine wp_opaque (fun w0 hb0 => ?_)
  have hO0 := Own.one hb0
  have hl0 := hb0.un1
  obtain ⟨z0, d0, -⟩ := own_get hO0
  clear hb0
  have tok1 : True := trivial
  go_wp2_with (first
    | (go_at_call 11; clear tok1; go_must ((refine (HWA.out _ hl0).mono ?_; rintro e w1 ⟨rfl, hb1⟩; have hl1 := hl0.trans hb1; clear d0 z0; obtain ⟨z0, d0, -⟩ := own_get (hO0.later hb1))))
    | (go_at_call 11; go_must ((refine (HWB.out _ hl1).mono ?_; rintro e w2 ⟨rfl, hb2⟩; have hl2 := hl1.trans hb2; clear d0 z0; obtain ⟨z0, d0, -⟩ := own_get (hO0.later (hb1.trans hb2)))))
    | (go_at_call 8; go_must (refine (HAW.out _ hl2).mono ?_; rintro e w9 ⟨rfl, hb9⟩)))
  go_ret
  exact ⟨rfl, hl2.trans hb9⟩

set_option maxHeartbeats 6400000 in
theorem parts_ds (a b : List Nd) (ls : List Td) (day : Int) (va vb lv : Value) (w : World) (oa : ∀ x ∈ a, x.ok) (ob : ∀ x ∈ b, x.ok) (lok : ∀ x ∈ ls, x.ok) (hd : I64 day) (hS : Shapes w) (hA : IsNodes w va a) (hB : IsNodes w vb b) (hT : IsTolds w lv ls) (h1 : a.length ≤ 30) (h2 : b.length ≤ 30) (h3 : ls.length ≤ 60) (w1 : wrongV a 0 = 0) (w2 : wrongV b 0 = 0) (w3 : ofE (joinN 4 a b) ≠ 0) :
    Calls Tryd.prog 5 #[.agg #[va, vb], lv, .int .i64 day] w fun e w' => e = .returned (.bool true) ∧ Later w w' := by
  have HAW := Lib.hid (fun W (hl : Later w W) => vawake_any W (hS.later hl))
  have HWA := Lib.hid (fun W (hl : Later w W) => vwrong_any a (by omega) oa va 0 W (hA.later hl))
  have HWB := Lib.hid (fun W (hl : Later w W) => vwrong_any b (by omega) ob vb 0 W (hB.later hl))
  have HM := Lib.hid (fun W (hl : Later w W) => made_any ls (by omega) lok lv W (hT.later hl))
  have HNA := Lib.hid (fun W (hl : Later w W) => hA.later hl)
  have HNB := Lib.hid (fun W (hl : Later w W) => hB.later hl)
  have HSL := Lib.hid (fun W (hl : Later w W) => hS.later hl)
  have ok4 : ∀ op, I64 op → (∀ x ∈ joinN op a b, x.ok) := fun op ho => join_oks op ho oa ob
  have ok4' : ∀ op, I64 op → (∀ x ∈ joinN op b a, x.ok) := fun op ho => join_oks op ho ob oa
  have ok5 : ∀ op, I64 op → (∀ x ∈ joinN op a a, x.ok) := fun op ho => join_oks op ho oa oa
  have HOFS := Lib.hid (fun v W hN => rterm_any (joinN 4 a b) (by rw [join_len]; omega) (ok4 4 (by unfold I64; omega)) v W hN)
  have HOFZ := Lib.hid (fun v W hN => rterm_any (joinN 5 a a) (by rw [join_len]; omega) (ok5 5 (by unfold I64; omega)) v W hN)
  obtain ⟨E, hE⟩ : ∃ E, ofE (joinN 4 a b) = E := ⟨_, rfl⟩
  rw [hE] at HOFS w3
  have he1 : (E == 0) = false := by simpa using w3
  have he2 : (E != 0) = true := by simpa using w3
  obtain ⟨E', hE'⟩ : ∃ E, ofE (joinN 5 a a) = E := ⟨_, rfl⟩
  rw [hE'] at HOFZ
  clear hE' hE w3
  generalize rofS (joinN 4 a b) = sS at *
  generalize rofS (joinN 5 a a) = sZ at *
  rw [w1] at HWA
  rw [w2] at HWB
  obtain ⟨p0, c0, rfl⟩ := hA.form
  obtain ⟨p1, c1, rfl⟩ := hB.form
  obtain ⟨p2, c2, rfl⟩ := hT.form
  have g1 : ¬ (30 < (a.length : Int)) := by omega
  have g2 : ¬ (30 < (b.length : Int)) := by omega
  have g3 : ¬ (60 < (ls.length : Int)) := by omega
  clear hA hB hT hS oa ob lok ok4 ok4' ok5 w1 w2 hd
  have hla : a.length ≤ 30 := h1
  have hlb : b.length ≤ 30 := h2
  clear h1 h2 h3
  generalize ls.length = N at *
  go_enter Tryd.func5, Tryd.ntmps5
  go_upto_region 1 with (fail)
  refine wp_opaque (fun w0 hb0 => ?_)
  have hO0 := Own.one hb0
  have hl0 := hb0.un1
  obtain ⟨z0, d0, -⟩ := own_get hO0
  clear hb0
  have tok1 : True := trivial
  go_upto_region 8 with (first
    | (go_at_call 11; clear tok1; go_must ((refine (HWA.out _ hl0).mono ?_; rintro e w1 ⟨rfl, hb1⟩; have hl1 := hl0.trans hb1; clear d0 z0; obtain ⟨z0, d0, -⟩ := own_get (hO0.later hb1))))
    | (go_at_call 11; go_must ((refine (HWB.out _ hl1).mono ?_; rintro e w2 ⟨rfl, hb2⟩; have hl2 := hl1.trans hb2; clear d0 z0; obtain ⟨z0, d0, -⟩ := own_get (hO0.later (hb1.trans hb2)))))
    | (go_at_call 9; go_must (refine (HM.out _ hl2).mono ?_; rintro e w3 ⟨p, m1, m2, rfl, hF3, -, -, hb3⟩; have hl3 := hl2.trans hb3; clear d0 z0)))
  clear HM HWA HWB hb1 hb2 hb3 hl0 hl1 hl2 hO0
  try clear d0 z0
  have tok2 : True := trivial
  go_upto_region 11 with (first
    | refine wpList_built (node_build _) rfl rfl rfl ?_
    | refine wpList_builtS (nodes_one _ _ _ _ _) rfl rfl rfl ?_
    | (at_builtin; clear tok2; go_must (refine wpList_nodes (L := [⟨4, 0, 0, 0, 0⟩]) (Mine.lit (Later.refl _) rfl (by decide)) (HNA.out _ (hl3.alloc _)) rfl _ _ rfl rfl rfl (by simp only [List.length_cons, List.length_nil]; omega) ?_; intro vS1 wS1 hMS1 hlS1))
    | (at_builtin; go_must (refine wpList_nodes hMS1 (HNB.out _ (hl3.trans hlS1)) rfl _ _ rfl rfl rfl (by simp only [List.length_append, List.length_cons, List.length_nil]; omega) ?_; intro vS wS hMS hlS)))
  have hNS : IsNodes wS vS (joinN 4 a b) := hMS.nodes
  have hlSw := hl3.trans hlS
  clear hMS hMS1 hlS1
  have tok2 : True := trivial
  go_upto_region 14 with (first
    | refine wpList_built (node_build _) rfl rfl rfl ?_
    | refine wpList_builtS (nodes_one _ _ _ _ _) rfl rfl rfl ?_
    | (at_builtin; clear tok2; go_must (refine wpList_nodes (L := [⟨4, 0, 0, 0, 0⟩]) (Mine.lit (Later.refl _) rfl (by decide)) (HNB.out _ (hlSw.alloc _)) rfl _ _ rfl rfl rfl (by simp only [List.length_cons, List.length_nil]; omega) ?_; intro vR1 wR1 hMR1 hlR1))
    | (at_builtin; go_must (refine wpList_nodes hMR1 (HNA.out _ (hlSw.trans hlR1)) rfl _ _ rfl rfl rfl (by simp only [List.length_append, List.length_cons, List.length_nil]; omega) ?_; intro vR wR hMR hlR)))
  have hNR : IsNodes wR vR (joinN 4 b a) := hMR.nodes
  have hlRw := hlSw.trans hlR
  clear hMR hMR1 hlR1
  have tok2 : True := trivial
  go_upto_region 17 with (first
    | refine wpList_built (node_build _) rfl rfl rfl ?_
    | refine wpList_builtS (nodes_one _ _ _ _ _) rfl rfl rfl ?_
    | (at_builtin; clear tok2; go_must (refine wpList_nodes (L := [⟨5, 0, 0, 0, 0⟩]) (Mine.lit (Later.refl _) rfl (by decide)) (HNA.out _ (hlRw.alloc _)) rfl _ _ rfl rfl rfl (by simp only [List.length_cons, List.length_nil]; omega) ?_; intro vZ1 wZ1 hMZ1 hlZ1))
    | (at_builtin; go_must (refine wpList_nodes hMZ1 (HNA.out _ (hlRw.trans hlZ1)) rfl _ _ rfl rfl rfl (by simp only [List.length_append, List.length_cons, List.length_nil]; omega) ?_; intro vZ wZ hMZ hlZ)))
  have hNZ : IsNodes wZ vZ (joinN 5 a a) := hMZ.nodes
  have hlZw := hlRw.trans hlZ
  clear hMZ hMZ1 hlZ1
  have tok2 : True := trivial
  go_upto_region 20 with (first
    | refine wpList_built (node_build _) rfl rfl rfl ?_
    | refine wpList_builtS (nodes_one _ _ _ _ _) rfl rfl rfl ?_
    | (at_builtin; clear tok2; go_must (refine wpList_nodes (L := [⟨7, 0, 0, 0, 0⟩]) (Mine.lit (Later.refl _) rfl (by decide)) (HNA.out _ (hlZw.alloc _)) rfl _ _ rfl rfl rfl (by simp only [List.length_cons, List.length_nil]; omega) ?_; intro vP1 wP1 hMP1 hlP1))
    | (at_builtin; go_must (refine wpList_nodes hMP1 (HNB.out _ (hlZw.trans hlP1)) rfl _ _ rfl rfl rfl (by simp only [List.length_append, List.length_cons, List.length_nil]; omega) ?_; intro vP wP hMP hlP)))
  have hNP : IsNodes wP vP (joinN 7 a b) := hMP.nodes
  have hlPw := hlZw.trans hlP
  clear hMP hMP1 hlP1
  have tok2 : True := trivial
  go_upto_region 23 with (first
    | refine wpList_built (node_build _) rfl rfl rfl ?_
    | refine wpList_builtS (nodes_one _ _ _ _ _) rfl rfl rfl ?_
    | (at_builtin; clear tok2; go_must (refine wpList_nodes (L := [⟨8, 0, 0, 0, 0⟩]) (Mine.lit (Later.refl _) rfl (by decide)) (HNA.out _ (hlPw.alloc _)) rfl _ _ rfl rfl rfl (by simp only [List.length_cons, List.length_nil]; omega) ?_; intro vQ1 wQ1 hMQ1 hlQ1))
    | (at_builtin; go_must (refine wpList_nodes hMQ1 (HNB.out _ (hlPw.trans hlQ1)) rfl _ _ rfl rfl rfl (by simp only [List.length_append, List.length_cons, List.length_nil]; omega) ?_; intro vQ wQ hMQ hlQ)))
  have hNQ : IsNodes wQ vQ (joinN 8 a b) := hMQ.nodes
  have hlQw := hlPw.trans hlQ
  clear hMQ hMQ1 hlQ1
  have kF := Lib.hid (fun W (hl : Later wQ W) => hF3.later (((((hlS.trans hlR).trans hlZ).trans hlP).trans hlQ).trans hl))
  have kNS := Lib.hid (fun W (hl : Later wQ W) => hNS.later (((((hlR.trans hlZ).trans hlP).trans hlQ)).trans hl))
  have kNR := Lib.hid (fun W (hl : Later wQ W) => hNR.later ((((hlZ.trans hlP).trans hlQ)).trans hl))
  have kNZ := Lib.hid (fun W (hl : Later wQ W) => hNZ.later (((hlP.trans hlQ)).trans hl))
  have kNP := Lib.hid (fun W (hl : Later wQ W) => hNP.later ((hlQ).trans hl))
  have kNQ := Lib.hid (fun W (hl : Later wQ W) => hNQ.later ((Later.refl _).trans hl))
  have kW := Lib.hid (fun W (hl : Later wQ W) => hlQw.trans hl)
  clear hF3 hNS hNR hNZ hNP hNQ hlS hlR hlZ hlP hlQ hlSw hlRw hlZw hlPw hlQw
  go_upto_region 24 with (go_at_call 16; go_must (refine (HOFS.out _ _ (kNS.out _ (Later.refl _))).mono ?_; rintro e w4 ⟨rfl, hb4⟩))
  go_upto_region 25 with (go_at_call 16; go_must (refine (HOFZ.out _ _ (kNZ.out _ hb4)).mono ?_; rintro e w5 ⟨rfl, hb5⟩))
  have hb5 := hb4.trans hb5
  clear hb4
  go_wp2_with (go_at_call 8; go_must (refine (HAW.out _ (kW.out _ hb5)).mono ?_; rintro e w9 ⟨rfl, hb9⟩))
  go_ret
  exact ⟨rfl, (kW.out _ hb5).trans hb9⟩


set_option maxHeartbeats 6400000 in
theorem parts_dz (a b : List Nd) (ls : List Td) (day : Int) (va vb lv : Value) (w : World) (oa : ∀ x ∈ a, x.ok) (ob : ∀ x ∈ b, x.ok) (lok : ∀ x ∈ ls, x.ok) (hd : I64 day) (hS : Shapes w) (hA : IsNodes w va a) (hB : IsNodes w vb b) (hT : IsTolds w lv ls) (h1 : a.length ≤ 30) (h2 : b.length ≤ 30) (h3 : ls.length ≤ 60) (w1 : wrongV a 0 = 0) (w2 : wrongV b 0 = 0) (w3 : ofE (joinN 4 a b) = 0) (w4 : ofE (joinN 5 a a) ≠ 0) :
    Calls Tryd.prog 5 #[.agg #[va, vb], lv, .int .i64 day] w fun e w' => e = .returned (.bool true) ∧ Later w w' := by
  have HAW := Lib.hid (fun W (hl : Later w W) => vawake_any W (hS.later hl))
  have HWA := Lib.hid (fun W (hl : Later w W) => vwrong_any a (by omega) oa va 0 W (hA.later hl))
  have HWB := Lib.hid (fun W (hl : Later w W) => vwrong_any b (by omega) ob vb 0 W (hB.later hl))
  have HM := Lib.hid (fun W (hl : Later w W) => made_any ls (by omega) lok lv W (hT.later hl))
  have HNA := Lib.hid (fun W (hl : Later w W) => hA.later hl)
  have HNB := Lib.hid (fun W (hl : Later w W) => hB.later hl)
  have HSL := Lib.hid (fun W (hl : Later w W) => hS.later hl)
  have ok4 : ∀ op, I64 op → (∀ x ∈ joinN op a b, x.ok) := fun op ho => join_oks op ho oa ob
  have ok4' : ∀ op, I64 op → (∀ x ∈ joinN op b a, x.ok) := fun op ho => join_oks op ho ob oa
  have ok5 : ∀ op, I64 op → (∀ x ∈ joinN op a a, x.ok) := fun op ho => join_oks op ho oa oa
  have HOFS := Lib.hid (fun v W hN => rterm_any (joinN 4 a b) (by rw [join_len]; omega) (ok4 4 (by unfold I64; omega)) v W hN)
  have HOFZ := Lib.hid (fun v W hN => rterm_any (joinN 5 a a) (by rw [join_len]; omega) (ok5 5 (by unfold I64; omega)) v W hN)
  rw [w3] at HOFS
  obtain ⟨E, hE⟩ : ∃ E, ofE (joinN 5 a a) = E := ⟨_, rfl⟩
  rw [hE] at HOFZ w4
  have he1 : (E == 0) = false := by simpa using w4
  have he2 : (E != 0) = true := by simpa using w4
  clear hE w3 w4
  generalize rofS (joinN 4 a b) = sS at *
  generalize rofS (joinN 5 a a) = sZ at *
  rw [w1] at HWA
  rw [w2] at HWB
  obtain ⟨p0, c0, rfl⟩ := hA.form
  obtain ⟨p1, c1, rfl⟩ := hB.form
  obtain ⟨p2, c2, rfl⟩ := hT.form
  have g1 : ¬ (30 < (a.length : Int)) := by omega
  have g2 : ¬ (30 < (b.length : Int)) := by omega
  have g3 : ¬ (60 < (ls.length : Int)) := by omega
  clear hA hB hT hS oa ob lok ok4 ok4' ok5 w1 w2 hd
  have hla : a.length ≤ 30 := h1
  have hlb : b.length ≤ 30 := h2
  clear h1 h2 h3
  generalize ls.length = N at *
  go_enter Tryd.func5, Tryd.ntmps5
  go_upto_region 1 with (fail)
  refine wp_opaque (fun w0 hb0 => ?_)
  have hO0 := Own.one hb0
  have hl0 := hb0.un1
  obtain ⟨z0, d0, -⟩ := own_get hO0
  clear hb0
  have tok1 : True := trivial
  go_upto_region 8 with (first
    | (go_at_call 11; clear tok1; go_must ((refine (HWA.out _ hl0).mono ?_; rintro e w1 ⟨rfl, hb1⟩; have hl1 := hl0.trans hb1; clear d0 z0; obtain ⟨z0, d0, -⟩ := own_get (hO0.later hb1))))
    | (go_at_call 11; go_must ((refine (HWB.out _ hl1).mono ?_; rintro e w2 ⟨rfl, hb2⟩; have hl2 := hl1.trans hb2; clear d0 z0; obtain ⟨z0, d0, -⟩ := own_get (hO0.later (hb1.trans hb2)))))
    | (go_at_call 9; go_must (refine (HM.out _ hl2).mono ?_; rintro e w3 ⟨p, m1, m2, rfl, hF3, -, -, hb3⟩; have hl3 := hl2.trans hb3; clear d0 z0)))
  clear HM HWA HWB hb1 hb2 hb3 hl0 hl1 hl2 hO0
  try clear d0 z0
  have tok2 : True := trivial
  go_upto_region 11 with (first
    | refine wpList_built (node_build _) rfl rfl rfl ?_
    | refine wpList_builtS (nodes_one _ _ _ _ _) rfl rfl rfl ?_
    | (at_builtin; clear tok2; go_must (refine wpList_nodes (L := [⟨4, 0, 0, 0, 0⟩]) (Mine.lit (Later.refl _) rfl (by decide)) (HNA.out _ (hl3.alloc _)) rfl _ _ rfl rfl rfl (by simp only [List.length_cons, List.length_nil]; omega) ?_; intro vS1 wS1 hMS1 hlS1))
    | (at_builtin; go_must (refine wpList_nodes hMS1 (HNB.out _ (hl3.trans hlS1)) rfl _ _ rfl rfl rfl (by simp only [List.length_append, List.length_cons, List.length_nil]; omega) ?_; intro vS wS hMS hlS)))
  have hNS : IsNodes wS vS (joinN 4 a b) := hMS.nodes
  have hlSw := hl3.trans hlS
  clear hMS hMS1 hlS1
  have tok2 : True := trivial
  go_upto_region 14 with (first
    | refine wpList_built (node_build _) rfl rfl rfl ?_
    | refine wpList_builtS (nodes_one _ _ _ _ _) rfl rfl rfl ?_
    | (at_builtin; clear tok2; go_must (refine wpList_nodes (L := [⟨4, 0, 0, 0, 0⟩]) (Mine.lit (Later.refl _) rfl (by decide)) (HNB.out _ (hlSw.alloc _)) rfl _ _ rfl rfl rfl (by simp only [List.length_cons, List.length_nil]; omega) ?_; intro vR1 wR1 hMR1 hlR1))
    | (at_builtin; go_must (refine wpList_nodes hMR1 (HNA.out _ (hlSw.trans hlR1)) rfl _ _ rfl rfl rfl (by simp only [List.length_append, List.length_cons, List.length_nil]; omega) ?_; intro vR wR hMR hlR)))
  have hNR : IsNodes wR vR (joinN 4 b a) := hMR.nodes
  have hlRw := hlSw.trans hlR
  clear hMR hMR1 hlR1
  have tok2 : True := trivial
  go_upto_region 17 with (first
    | refine wpList_built (node_build _) rfl rfl rfl ?_
    | refine wpList_builtS (nodes_one _ _ _ _ _) rfl rfl rfl ?_
    | (at_builtin; clear tok2; go_must (refine wpList_nodes (L := [⟨5, 0, 0, 0, 0⟩]) (Mine.lit (Later.refl _) rfl (by decide)) (HNA.out _ (hlRw.alloc _)) rfl _ _ rfl rfl rfl (by simp only [List.length_cons, List.length_nil]; omega) ?_; intro vZ1 wZ1 hMZ1 hlZ1))
    | (at_builtin; go_must (refine wpList_nodes hMZ1 (HNA.out _ (hlRw.trans hlZ1)) rfl _ _ rfl rfl rfl (by simp only [List.length_append, List.length_cons, List.length_nil]; omega) ?_; intro vZ wZ hMZ hlZ)))
  have hNZ : IsNodes wZ vZ (joinN 5 a a) := hMZ.nodes
  have hlZw := hlRw.trans hlZ
  clear hMZ hMZ1 hlZ1
  have tok2 : True := trivial
  go_upto_region 20 with (first
    | refine wpList_built (node_build _) rfl rfl rfl ?_
    | refine wpList_builtS (nodes_one _ _ _ _ _) rfl rfl rfl ?_
    | (at_builtin; clear tok2; go_must (refine wpList_nodes (L := [⟨7, 0, 0, 0, 0⟩]) (Mine.lit (Later.refl _) rfl (by decide)) (HNA.out _ (hlZw.alloc _)) rfl _ _ rfl rfl rfl (by simp only [List.length_cons, List.length_nil]; omega) ?_; intro vP1 wP1 hMP1 hlP1))
    | (at_builtin; go_must (refine wpList_nodes hMP1 (HNB.out _ (hlZw.trans hlP1)) rfl _ _ rfl rfl rfl (by simp only [List.length_append, List.length_cons, List.length_nil]; omega) ?_; intro vP wP hMP hlP)))
  have hNP : IsNodes wP vP (joinN 7 a b) := hMP.nodes
  have hlPw := hlZw.trans hlP
  clear hMP hMP1 hlP1
  have tok2 : True := trivial
  go_upto_region 23 with (first
    | refine wpList_built (node_build _) rfl rfl rfl ?_
    | refine wpList_builtS (nodes_one _ _ _ _ _) rfl rfl rfl ?_
    | (at_builtin; clear tok2; go_must (refine wpList_nodes (L := [⟨8, 0, 0, 0, 0⟩]) (Mine.lit (Later.refl _) rfl (by decide)) (HNA.out _ (hlPw.alloc _)) rfl _ _ rfl rfl rfl (by simp only [List.length_cons, List.length_nil]; omega) ?_; intro vQ1 wQ1 hMQ1 hlQ1))
    | (at_builtin; go_must (refine wpList_nodes hMQ1 (HNB.out _ (hlPw.trans hlQ1)) rfl _ _ rfl rfl rfl (by simp only [List.length_append, List.length_cons, List.length_nil]; omega) ?_; intro vQ wQ hMQ hlQ)))
  have hNQ : IsNodes wQ vQ (joinN 8 a b) := hMQ.nodes
  have hlQw := hlPw.trans hlQ
  clear hMQ hMQ1 hlQ1
  have kF := Lib.hid (fun W (hl : Later wQ W) => hF3.later (((((hlS.trans hlR).trans hlZ).trans hlP).trans hlQ).trans hl))
  have kNS := Lib.hid (fun W (hl : Later wQ W) => hNS.later (((((hlR.trans hlZ).trans hlP).trans hlQ)).trans hl))
  have kNR := Lib.hid (fun W (hl : Later wQ W) => hNR.later ((((hlZ.trans hlP).trans hlQ)).trans hl))
  have kNZ := Lib.hid (fun W (hl : Later wQ W) => hNZ.later (((hlP.trans hlQ)).trans hl))
  have kNP := Lib.hid (fun W (hl : Later wQ W) => hNP.later ((hlQ).trans hl))
  have kNQ := Lib.hid (fun W (hl : Later wQ W) => hNQ.later ((Later.refl _).trans hl))
  have kW := Lib.hid (fun W (hl : Later wQ W) => hlQw.trans hl)
  clear hF3 hNS hNR hNZ hNP hNQ hlS hlR hlZ hlP hlQ hlSw hlRw hlZw hlPw hlQw
  go_upto_region 24 with (go_at_call 16; go_must (refine (HOFS.out _ _ (kNS.out _ (Later.refl _))).mono ?_; rintro e w4 ⟨rfl, hb4⟩))
  go_upto_region 25 with (go_at_call 16; go_must (refine (HOFZ.out _ _ (kNZ.out _ hb4)).mono ?_; rintro e w5 ⟨rfl, hb5⟩))
  have hb5 := hb4.trans hb5
  clear hb4
  go_wp2_with (go_at_call 8; go_must (refine (HAW.out _ (kW.out _ hb5)).mono ?_; rintro e w9 ⟨rfl, hb9⟩))
  go_ret
  exact ⟨rfl, (kW.out _ hb5).trans hb9⟩


set_option maxHeartbeats 6400000 in
theorem parts_near (a b : List Nd) (ls : List Td) (day : Int) (va vb lv : Value) (w : World) (oa : ∀ x ∈ a, x.ok) (ob : ∀ x ∈ b, x.ok) (lok : ∀ x ∈ ls, x.ok) (hd : I64 day) (hS : Shapes w) (hA : IsNodes w va a) (hB : IsNodes w vb b) (hT : IsTolds w lv ls) (h1 : a.length ≤ 30) (h2 : b.length ≤ 30) (h3 : ls.length ≤ 60) (w1 : wrongV a 0 = 0) (w2 : wrongV b 0 = 0) (w3 : ofE (joinN 4 a b) = 0) (w4 : ofE (joinN 5 a a) = 0) :
    Calls Tryd.prog 5 #[.agg #[va, vb], lv, .int .i64 day] w fun e w' => e = .returned (.bool true) ∧ Later w w' := by
  have HAW := Lib.hid (fun W (hl : Later w W) => vawake_any W (hS.later hl))
  have HWA := Lib.hid (fun W (hl : Later w W) => vwrong_any a (by omega) oa va 0 W (hA.later hl))
  have HWB := Lib.hid (fun W (hl : Later w W) => vwrong_any b (by omega) ob vb 0 W (hB.later hl))
  have HM := Lib.hid (fun W (hl : Later w W) => made_any ls (by omega) lok lv W (hT.later hl))
  have HNA := Lib.hid (fun W (hl : Later w W) => hA.later hl)
  have HNB := Lib.hid (fun W (hl : Later w W) => hB.later hl)
  have HSL := Lib.hid (fun W (hl : Later w W) => hS.later hl)
  have ok4 : ∀ op, I64 op → (∀ x ∈ joinN op a b, x.ok) := fun op ho => join_oks op ho oa ob
  have ok4' : ∀ op, I64 op → (∀ x ∈ joinN op b a, x.ok) := fun op ho => join_oks op ho ob oa
  have ok5 : ∀ op, I64 op → (∀ x ∈ joinN op a a, x.ok) := fun op ho => join_oks op ho oa oa
  have HOFS := Lib.hid (fun v W hN => rterm_any (joinN 4 a b) (by rw [join_len]; omega) (ok4 4 (by unfold I64; omega)) v W hN)
  have HOFZ := Lib.hid (fun v W hN => rterm_any (joinN 5 a a) (by rw [join_len]; omega) (ok5 5 (by unfold I64; omega)) v W hN)
  have hg := getOk_of (fxOk_made ls lok) day
  have HC := parts_all oa ob w1 w2 h1 h2 w3 w4 hg
  have HS := Lib.hid (fun p m1 m2 v W (hl : Later w W) hN hF => vat_any (joinN 4 a b) (madeFx ls) (madeCh ls) p m1 m2 0 day v W (by rw [join_len]; omega) (ok4 4 (by unfold I64; omega)) hd hg (hS.later hl) hN hF)
  have HR := Lib.hid (fun p m1 m2 v W (hl : Later w W) hN hF => vat_any (joinN 4 b a) (madeFx ls) (madeCh ls) p m1 m2 0 day v W (by rw [join_len]; omega) (ok4' 4 (by unfold I64; omega)) hd hg (hS.later hl) hN hF)
  have HZ := Lib.hid (fun p m1 m2 v W (hl : Later w W) hN hF => vat_any (joinN 5 a a) (madeFx ls) (madeCh ls) p m1 m2 0 day v W (by rw [join_len]; omega) (ok5 5 (by unfold I64; omega)) hd hg (hS.later hl) hN hF)
  have HP := Lib.hid (fun p m1 m2 v W (hl : Later w W) hN hF => vat_any (joinN 7 a b) (madeFx ls) (madeCh ls) p m1 m2 0 day v W (by rw [join_len]; omega) (ok4 7 (by unfold I64; omega)) hd hg (hS.later hl) hN hF)
  have HQ := Lib.hid (fun p m1 m2 v W (hl : Later w W) hN hF => vat_any (joinN 8 a b) (madeFx ls) (madeCh ls) p m1 m2 0 day v W (by rw [join_len]; omega) (ok4 8 (by unfold I64; omega)) hd hg (hS.later hl) hN hF)
  have HX := Lib.hid (fun p m1 m2 v W (hl : Later w W) hN hF => vat_any a (madeFx ls) (madeCh ls) p m1 m2 0 day v W (by omega) oa hd hg (hS.later hl) hN hF)
  have HY := Lib.hid (fun p m1 m2 v W (hl : Later w W) hN hF => vat_any b (madeFx ls) (madeCh ls) p m1 m2 0 day v W (by omega) ob hd hg (hS.later hl) hN hF)
  rw [HC.1] at HR
  have HC := Lib.hid (PL_of HC.2)
  rw [w3] at HOFS
  rw [w4] at HOFZ
  obtain ⟨rS, hrS⟩ : ∃ r, atV (joinN 4 a b) (madeFx ls) 0 day = r := ⟨_, rfl⟩
  obtain ⟨rZ, hrZ⟩ : ∃ r, atV (joinN 5 a a) (madeFx ls) 0 day = r := ⟨_, rfl⟩
  obtain ⟨rP, hrP⟩ : ∃ r, atV (joinN 7 a b) (madeFx ls) 0 day = r := ⟨_, rfl⟩
  obtain ⟨rQ, hrQ⟩ : ∃ r, atV (joinN 8 a b) (madeFx ls) 0 day = r := ⟨_, rfl⟩
  obtain ⟨rX, hrX⟩ : ∃ r, atV a (madeFx ls) 0 day = r := ⟨_, rfl⟩
  obtain ⟨rY, hrY⟩ : ∃ r, atV b (madeFx ls) 0 day = r := ⟨_, rfl⟩
  rw [hrS] at HS HR
  rw [hrZ] at HZ HC
  rw [hrP] at HP HC
  rw [hrQ] at HQ HC
  rw [hrX] at HX HC
  rw [hrY] at HY HC
  unfold valR at HS HR HZ HP HQ HX HY
  clear hrS hrZ hrP hrQ hrX hrY hg w3 w4
  generalize rS.1 = se at *
  generalize rS.2.isSome = si at *
  generalize outN rS = sn at *
  generalize outD rS = sd at *
  generalize rZ.1 = ze at *
  generalize rZ.2.isSome = zi at *
  generalize outN rZ = zn at *
  generalize outD rZ = zd at *
  generalize rP.1 = pe at *
  generalize rP.2.isSome = pi at *
  generalize outN rP = pn at *
  generalize outD rP = pd at *
  generalize rQ.1 = qe at *
  generalize rQ.2.isSome = qi at *
  generalize outN rQ = qn at *
  generalize outD rQ = qd at *
  generalize rX.1 = xe at *
  generalize rX.2.isSome = xi at *
  generalize outN rX = xn at *
  generalize outD rX = xd at *
  generalize rY.1 = ye at *
  generalize rY.2.isSome = yi at *
  generalize outN rY = yn at *
  generalize outD rY = yd at *
  generalize rofS (joinN 4 a b) = sS at *
  generalize rofS (joinN 5 a a) = sZ at *
  rw [w1] at HWA
  rw [w2] at HWB
  obtain ⟨p0, c0, rfl⟩ := hA.form
  obtain ⟨p1, c1, rfl⟩ := hB.form
  obtain ⟨p2, c2, rfl⟩ := hT.form
  have g1 : ¬ (30 < (a.length : Int)) := by omega
  have g2 : ¬ (30 < (b.length : Int)) := by omega
  have g3 : ¬ (60 < (ls.length : Int)) := by omega
  clear hA hB hT hS oa ob lok ok4 ok4' ok5 w1 w2 hd
  have hla : a.length ≤ 30 := h1
  have hlb : b.length ≤ 30 := h2
  clear h1 h2 h3
  generalize ls.length = N at *
  go_enter Tryd.func5, Tryd.ntmps5
  go_upto_region 1 with (fail)
  refine wp_opaque (fun w0 hb0 => ?_)
  have hO0 := Own.one hb0
  have hl0 := hb0.un1
  obtain ⟨z0, d0, -⟩ := own_get hO0
  clear hb0
  have tok1 : True := trivial
  go_upto_region 8 with (first
    | (go_at_call 11; clear tok1; go_must ((refine (HWA.out _ hl0).mono ?_; rintro e w1 ⟨rfl, hb1⟩; have hl1 := hl0.trans hb1; clear d0 z0; obtain ⟨z0, d0, -⟩ := own_get (hO0.later hb1))))
    | (go_at_call 11; go_must ((refine (HWB.out _ hl1).mono ?_; rintro e w2 ⟨rfl, hb2⟩; have hl2 := hl1.trans hb2; clear d0 z0; obtain ⟨z0, d0, -⟩ := own_get (hO0.later (hb1.trans hb2)))))
    | (go_at_call 9; go_must (refine (HM.out _ hl2).mono ?_; rintro e w3 ⟨p, m1, m2, rfl, hF3, -, -, hb3⟩; have hl3 := hl2.trans hb3; clear d0 z0)))
  clear HM HWA HWB hb1 hb2 hb3 hl0 hl1 hl2 hO0
  try clear d0 z0
  have tok2 : True := trivial
  go_upto_region 11 with (first
    | refine wpList_built (node_build _) rfl rfl rfl ?_
    | refine wpList_builtS (nodes_one _ _ _ _ _) rfl rfl rfl ?_
    | (at_builtin; clear tok2; go_must (refine wpList_nodes (L := [⟨4, 0, 0, 0, 0⟩]) (Mine.lit (Later.refl _) rfl (by decide)) (HNA.out _ (hl3.alloc _)) rfl _ _ rfl rfl rfl (by simp only [List.length_cons, List.length_nil]; omega) ?_; intro vS1 wS1 hMS1 hlS1))
    | (at_builtin; go_must (refine wpList_nodes hMS1 (HNB.out _ (hl3.trans hlS1)) rfl _ _ rfl rfl rfl (by simp only [List.length_append, List.length_cons, List.length_nil]; omega) ?_; intro vS wS hMS hlS)))
  have hNS : IsNodes wS vS (joinN 4 a b) := hMS.nodes
  have hlSw := hl3.trans hlS
  clear hMS hMS1 hlS1
  have tok2 : True := trivial
  go_upto_region 14 with (first
    | refine wpList_built (node_build _) rfl rfl rfl ?_
    | refine wpList_builtS (nodes_one _ _ _ _ _) rfl rfl rfl ?_
    | (at_builtin; clear tok2; go_must (refine wpList_nodes (L := [⟨4, 0, 0, 0, 0⟩]) (Mine.lit (Later.refl _) rfl (by decide)) (HNB.out _ (hlSw.alloc _)) rfl _ _ rfl rfl rfl (by simp only [List.length_cons, List.length_nil]; omega) ?_; intro vR1 wR1 hMR1 hlR1))
    | (at_builtin; go_must (refine wpList_nodes hMR1 (HNA.out _ (hlSw.trans hlR1)) rfl _ _ rfl rfl rfl (by simp only [List.length_append, List.length_cons, List.length_nil]; omega) ?_; intro vR wR hMR hlR)))
  have hNR : IsNodes wR vR (joinN 4 b a) := hMR.nodes
  have hlRw := hlSw.trans hlR
  clear hMR hMR1 hlR1
  have tok2 : True := trivial
  go_upto_region 17 with (first
    | refine wpList_built (node_build _) rfl rfl rfl ?_
    | refine wpList_builtS (nodes_one _ _ _ _ _) rfl rfl rfl ?_
    | (at_builtin; clear tok2; go_must (refine wpList_nodes (L := [⟨5, 0, 0, 0, 0⟩]) (Mine.lit (Later.refl _) rfl (by decide)) (HNA.out _ (hlRw.alloc _)) rfl _ _ rfl rfl rfl (by simp only [List.length_cons, List.length_nil]; omega) ?_; intro vZ1 wZ1 hMZ1 hlZ1))
    | (at_builtin; go_must (refine wpList_nodes hMZ1 (HNA.out _ (hlRw.trans hlZ1)) rfl _ _ rfl rfl rfl (by simp only [List.length_append, List.length_cons, List.length_nil]; omega) ?_; intro vZ wZ hMZ hlZ)))
  have hNZ : IsNodes wZ vZ (joinN 5 a a) := hMZ.nodes
  have hlZw := hlRw.trans hlZ
  clear hMZ hMZ1 hlZ1
  have tok2 : True := trivial
  go_upto_region 20 with (first
    | refine wpList_built (node_build _) rfl rfl rfl ?_
    | refine wpList_builtS (nodes_one _ _ _ _ _) rfl rfl rfl ?_
    | (at_builtin; clear tok2; go_must (refine wpList_nodes (L := [⟨7, 0, 0, 0, 0⟩]) (Mine.lit (Later.refl _) rfl (by decide)) (HNA.out _ (hlZw.alloc _)) rfl _ _ rfl rfl rfl (by simp only [List.length_cons, List.length_nil]; omega) ?_; intro vP1 wP1 hMP1 hlP1))
    | (at_builtin; go_must (refine wpList_nodes hMP1 (HNB.out _ (hlZw.trans hlP1)) rfl _ _ rfl rfl rfl (by simp only [List.length_append, List.length_cons, List.length_nil]; omega) ?_; intro vP wP hMP hlP)))
  have hNP : IsNodes wP vP (joinN 7 a b) := hMP.nodes
  have hlPw := hlZw.trans hlP
  clear hMP hMP1 hlP1
  have tok2 : True := trivial
  go_upto_region 23 with (first
    | refine wpList_built (node_build _) rfl rfl rfl ?_
    | refine wpList_builtS (nodes_one _ _ _ _ _) rfl rfl rfl ?_
    | (at_builtin; clear tok2; go_must (refine wpList_nodes (L := [⟨8, 0, 0, 0, 0⟩]) (Mine.lit (Later.refl _) rfl (by decide)) (HNA.out _ (hlPw.alloc _)) rfl _ _ rfl rfl rfl (by simp only [List.length_cons, List.length_nil]; omega) ?_; intro vQ1 wQ1 hMQ1 hlQ1))
    | (at_builtin; go_must (refine wpList_nodes hMQ1 (HNB.out _ (hlPw.trans hlQ1)) rfl _ _ rfl rfl rfl (by simp only [List.length_append, List.length_cons, List.length_nil]; omega) ?_; intro vQ wQ hMQ hlQ)))
  have hNQ : IsNodes wQ vQ (joinN 8 a b) := hMQ.nodes
  have hlQw := hlPw.trans hlQ
  clear hMQ hMQ1 hlQ1
  have kF := Lib.hid (fun W (hl : Later wQ W) => hF3.later (((((hlS.trans hlR).trans hlZ).trans hlP).trans hlQ).trans hl))
  have kNS := Lib.hid (fun W (hl : Later wQ W) => hNS.later (((((hlR.trans hlZ).trans hlP).trans hlQ)).trans hl))
  have kNR := Lib.hid (fun W (hl : Later wQ W) => hNR.later ((((hlZ.trans hlP).trans hlQ)).trans hl))
  have kNZ := Lib.hid (fun W (hl : Later wQ W) => hNZ.later (((hlP.trans hlQ)).trans hl))
  have kNP := Lib.hid (fun W (hl : Later wQ W) => hNP.later ((hlQ).trans hl))
  have kNQ := Lib.hid (fun W (hl : Later wQ W) => hNQ.later ((Later.refl _).trans hl))
  have kW := Lib.hid (fun W (hl : Later wQ W) => hlQw.trans hl)
  clear hF3 hNS hNR hNZ hNP hNQ hlS hlR hlZ hlP hlQ hlSw hlRw hlZw hlPw hlQw
  go_upto_region 24 with (go_at_call 16; go_must (refine (HOFS.out _ _ (kNS.out _ (Later.refl _))).mono ?_; rintro e w4 ⟨rfl, hb4⟩))
  go_upto_region 25 with (go_at_call 16; go_must (refine (HOFZ.out _ _ (kNZ.out _ hb4)).mono ?_; rintro e w5 ⟨rfl, hb5⟩))
  have hb5 := hb4.trans hb5
  clear hb4
  go_upto_region 28 with (go_at_call 10; go_must (refine (HS.out p m1 m2 _ _ (kW.out _ hb5) (kNS.out _ hb5) (kF.out _ hb5)).mono ?_; rintro e uS ⟨rfl, gbS⟩))
  refine wp_opaque (fun tS hbS => ?_)
  have hOS := Own.one hbS
  have stS := gbS.trans hbS.un1
  have cuS := hb5.trans stS
  clear gbS hbS
  go_upto_region 29 with (go_at_call 10; go_must (refine (HR.out p m1 m2 _ _ (kW.out _ cuS) (kNR.out _ cuS) (kF.out _ cuS)).mono ?_; rintro e uR ⟨rfl, gbR⟩))
  refine wp_opaque (fun tR hbR => ?_)
  have hOR := Own.one hbR
  have stR := gbR.trans hbR.un1
  have cuR := cuS.trans stR
  clear gbR hbR
  go_upto_region 30 with (go_at_call 10; go_must (refine (HZ.out p m1 m2 _ _ (kW.out _ cuR) (kNZ.out _ cuR) (kF.out _ cuR)).mono ?_; rintro e uZ ⟨rfl, gbZ⟩))
  refine wp_opaque (fun tZ hbZ => ?_)
  have hOZ := Own.one hbZ
  have stZ := gbZ.trans hbZ.un1
  have cuZ := cuR.trans stZ
  clear gbZ hbZ
  go_upto_region 31 with (go_at_call 10; go_must (refine (HP.out p m1 m2 _ _ (kW.out _ cuZ) (kNP.out _ cuZ) (kF.out _ cuZ)).mono ?_; rintro e uP ⟨rfl, gbP⟩))
  refine wp_opaque (fun tP hbP => ?_)
  have hOP := Own.one hbP
  have stP := gbP.trans hbP.un1
  have cuP := cuZ.trans stP
  clear gbP hbP
  go_upto_region 32 with (go_at_call 10; go_must (refine (HQ.out p m1 m2 _ _ (kW.out _ cuP) (kNQ.out _ cuP) (kF.out _ cuP)).mono ?_; rintro e uQ ⟨rfl, gbQ⟩))
  refine wp_opaque (fun tQ hbQ => ?_)
  have hOQ := Own.one hbQ
  have stQ := gbQ.trans hbQ.un1
  have cuQ := cuP.trans stQ
  clear gbQ hbQ
  go_upto_region 33 with (go_at_call 10; go_must (refine (HX.out p m1 m2 _ _ (kW.out _ cuQ) ((fun W hl => HNA.out W (kW.out W hl)) _ cuQ) (kF.out _ cuQ)).mono ?_; rintro e uX ⟨rfl, gbX⟩))
  refine wp_opaque (fun tX hbX => ?_)
  have hOX := Own.one hbX
  have stX := gbX.trans hbX.un1
  have cuX := cuQ.trans stX
  clear gbX hbX
  go_upto_region 34 with (go_at_call 10; go_must (refine (HY.out p m1 m2 _ _ (kW.out _ cuX) ((fun W hl => HNB.out W (kW.out W hl)) _ cuX) (kF.out _ cuX)).mono ?_; rintro e uY ⟨rfl, gbY⟩))
  refine wp_opaque (fun tY hbY => ?_)
  have hOY := Own.one hbY
  have stY := gbY.trans hbY.un1
  have cuY := cuX.trans stY
  clear gbY hbY
  obtain ⟨zS, dS, -⟩ := own_get (hOS.later ((((((stR.trans stZ).trans stP).trans stQ).trans stX).trans stY)))
  have dS0 := dS 0
  have dS1 := dS 1
  have dS2 := dS 2
  simp only [List.getElem?_toArray, List.getElem?_cons_zero, List.getElem?_cons_succ] at dS0 dS1 dS2
  clear dS
  obtain ⟨zR, dR, -⟩ := own_get (hOR.later (((((stZ.trans stP).trans stQ).trans stX).trans stY)))
  have dR0 := dR 0
  have dR1 := dR 1
  have dR2 := dR 2
  simp only [List.getElem?_toArray, List.getElem?_cons_zero, List.getElem?_cons_succ] at dR0 dR1 dR2
  clear dR
  obtain ⟨zZ, dZ, -⟩ := own_get (hOZ.later ((((stP.trans stQ).trans stX).trans stY)))
  have dZ0 := dZ 0
  have dZ1 := dZ 1
  have dZ2 := dZ 2
  simp only [List.getElem?_toArray, List.getElem?_cons_zero, List.getElem?_cons_succ] at dZ0 dZ1 dZ2
  clear dZ
  obtain ⟨zP, dP, -⟩ := own_get (hOP.later (((stQ.trans stX).trans stY)))
  have dP0 := dP 0
  have dP1 := dP 1
  have dP2 := dP 2
  simp only [List.getElem?_toArray, List.getElem?_cons_zero, List.getElem?_cons_succ] at dP0 dP1 dP2
  clear dP
  obtain ⟨zQ, dQ, -⟩ := own_get (hOQ.later ((stX.trans stY)))
  have dQ0 := dQ 0
  have dQ1 := dQ 1
  have dQ2 := dQ 2
  simp only [List.getElem?_toArray, List.getElem?_cons_zero, List.getElem?_cons_succ] at dQ0 dQ1 dQ2
  clear dQ
  obtain ⟨zX, dX, -⟩ := own_get (hOX.later (stY))
  have dX0 := dX 0
  have dX1 := dX 1
  have dX2 := dX 2
  simp only [List.getElem?_toArray, List.getElem?_cons_zero, List.getElem?_cons_succ] at dX0 dX1 dX2
  clear dX
  obtain ⟨zY, dY, -⟩ := own_get (hOY.later (Later.refl _))
  have dY0 := dY 0
  have dY1 := dY 1
  have dY2 := dY 2
  simp only [List.getElem?_toArray, List.getElem?_cons_zero, List.getElem?_cons_succ] at dY0 dY1 dY2
  clear dY
  have hlE := kW.out _ cuY
  clear hOS hOR hOZ hOP hOQ hOX hOY stS stR stZ stP stQ stX stY cuS cuR cuZ cuP cuQ cuX cuY hb5 kNS kNR kNZ kNP kNQ kW kF HS HR HZ HP HQ HX HY HOFS HOFZ HNA HNB HSL
  rcases HC.out with ⟨h1, h2, rfl, rfl, rfl⟩ | ⟨rfl, rfl, h1, h2, rfl, rfl, rfl⟩ | ⟨rfl, rfl, rfl, rfl, rfl, rfl, h1, h2, rfl, rfl, rfl⟩ | ⟨rfl, rfl, rfl, rfl, rfl, rfl, rfl⟩ | ⟨rfl, rfl, rfl, rfl, rfl, rfl, rfl, rfl, rfl, rfl, rfl⟩ | ⟨rfl, rfl, rfl, rfl, rfl, rfl, rfl, rfl, rfl, rfl, rfl, rfl, rfl, rfl, rfl, rfl⟩ | ⟨rfl, rfl, rfl, rfl, rfl, rfl, rfl, rfl, rfl, rfl, rfl, rfl, rfl, rfl, rfl, rfl, h3⟩
  all_goals
    clear HC
    first
    | (have e1 := beq_eq_false_iff_ne.2 h1; have e2 := bne_iff_ne.2 h1; have e3 := beq_eq_false_iff_ne.2 h2; have e4 := bne_iff_ne.2 h2; clear h1 h2)
    | skip
    go_wp2_with (go_at_call 8; go_must (refine (HAW.out _ hlE).mono ?_; rintro e w9 ⟨rfl, hb9⟩))
    all_goals
      go_ret
      exact ⟨rfl, hlE.trans hb9⟩


theorem parts_any (a b : List Nd) (ls : List Td) (day : Int) (va vb lv : Value) (w : World) (oa : ∀ x ∈ a, x.ok) (ob : ∀ x ∈ b, x.ok) (lok : ∀ x ∈ ls, x.ok) (hd : I64 day) (hS : Shapes w) (hA : IsNodes w va a) (hB : IsNodes w vb b) (hT : IsTolds w lv ls) :
    Calls Tryd.prog 5 #[.agg #[va, vb], lv, .int .i64 day] w fun e w' => e = .returned (.bool true) ∧ Later w w' := by
  by_cases h1 : a.length ≤ 30
  · by_cases h2 : b.length ≤ 30
    · by_cases h3 : ls.length ≤ 60
      · by_cases w1 : wrongV a 0 = 0
        · by_cases w2 : wrongV b 0 = 0
          · by_cases w3 : ofE (joinN 4 a b) = 0
            · by_cases w4 : ofE (joinN 5 a a) = 0
              · exact parts_near a b ls day va vb lv w oa ob lok hd hS hA hB hT h1 h2 h3 w1 w2 w3 w4
              · exact parts_dz a b ls day va vb lv w oa ob lok hd hS hA hB hT h1 h2 h3 w1 w2 w3 w4
            · exact parts_ds a b ls day va vb lv w oa ob lok hd hS hA hB hT h1 h2 h3 w1 w2 w3
          · exact parts_wb a b ls day va vb lv w oa ob hS hA hB hT h1 h2 h3 w1 w2
        · exact parts_wa a b ls day va vb lv w oa ob hS hA hB hT h1 h2 h3 w1
      · exact parts_far3 a b ls day va vb lv w hS hA hB hT h1 h2 (by omega)
    · exact parts_far2 a b ls day va vb lv w hS hA hB hT h1 (by omega)
  · exact parts_far a b ls day va vb lv w hS hA hB hT (by omega)
end Go.Proofs.YtkpadahpepeaoaaDoor
