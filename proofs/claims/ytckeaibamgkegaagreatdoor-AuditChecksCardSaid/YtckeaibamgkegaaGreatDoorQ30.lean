/- what a claim asks of a call that leaves all that was there as it was -/
import Derived.Test.YtckeaibamgkegaaGreatDoorQ29
import Derived.Test.YtckeaibamgkegaaGreatDoorQ23
import Derived.Test.YtckeaibamgkegaaGreatDoorQ11
import Derived.Test.YtckeaibamgkegaaGreatDoorQ27
import Derived.Test.YtckeaibamgkegaaGreatDoorQ2
import Derived.Below
import Derived.ChangeSame
import Derived.ProofKit
import Derived.Carry
set_option linter.all false
set_option linter.all false
section
/- audit's laws: Few, posted, awake -/
namespace Go.Proofs.YtckeaibamgkegaaGreatDoor
open Go.RowKit
set_option maxRecDepth 100000

/-! Calls that a law is given. -/
structure OpL where
  per : Int
  seq : Int
  lock : Bool
  es : List En
def opF (x : OpL × Value) : Nat → Value
  | 0 => .int .i64 x.1.per
  | 1 => .int .i64 x.1.seq
  | 2 => .bool x.1.lock
  | _ => x.2
def En.wd (x : En) : Prop := I64 x.con ∧ I64 x.day ∧ I64 x.cur ∧ I64 x.seq ∧ I64 x.per ∧ I64 x.ref ∧ ∀ y ∈ x.ls, y.ok
def OpL.ok (x : OpL) : Prop := I64 x.per ∧ I64 x.seq ∧ ∀ y ∈ x.es, y.wd
def IsOps (w : World) (v : Value) (l : List OpL) : Prop := ∃ xs : List (OpL × Value), xs.map (·.1) = l ∧ IsRow 4 opF w v xs ∧ ∀ x ∈ xs, IsEntries w x.2 x.1.es
theorem IsOps.later {w w' : World} {v : Value} {l : List OpL} (h : IsOps w v l) (hb : Later w w') : IsOps w' v l := by
  obtain ⟨xs, h1, h2, h3⟩ := h
  exact ⟨xs, h1, h2.later hb, fun x hx => (h3 x hx).later hb⟩
theorem IsOps.form {w : World} {v : Value} {l : List OpL} (h : IsOps w v l) : ∃ p cap, v = .slice p l.length cap ∧ l.length ≤ 9223372036854775807 := by
  obtain ⟨xs, rfl, h2, _⟩ := h
  rw [List.length_map]
  rcases h2 with ⟨⟨p, h1⟩, h3⟩ | ⟨b, o, cap, h1, h2, h3, h4, h5⟩
  · subst h3; exact ⟨p, 0, h1, by simp⟩
  · exact ⟨_, _, h1, by unfold maxLen at h4; omega⟩
theorem IsEntries.bound {w : World} {v : Value} {l : List En} (h : IsEntries w v l) : l.length ≤ 9223372036854775807 := by
  obtain ⟨xs, rfl, h2, _⟩ := h
  rw [List.length_map]
  rcases h2 with ⟨h1, h3⟩ | ⟨b, o, cap, h1, h2, h3, h4, h5⟩
  · subst h3; simp
  · unfold maxLen at h4; omega
theorem IsRow.bound {α : Type} {sz : Nat} {f : α → Nat → Value} {w : World} {v : Value} {xs : List α} (h : IsRow sz f w v xs) : xs.length ≤ 9223372036854775807 := by
  rcases h with ⟨h1, h3⟩ | ⟨b, o, cap, h1, h2, h3, h4, h5⟩
  · subst h3; simp
  · unfold maxLen at h4; omega
theorem IsOps.full {w : World} {v : Value} {l : List OpL} (h : IsOps w v l) {i : Nat} (hi : i < l.length) :
    ∃ b o cap u, v = .slice (some ⟨b, o, none⟩) l.length cap ∧ b < w.heap.size ∧ IsEntries w u (l[i]).es ∧ ∀ j, j < 4 → w.cell? ⟨b, o + i * 4 + j, none⟩ = some (opF (l[i], u) j) := by
  obtain ⟨xs, rfl, h2, h3⟩ := h
  rw [List.length_map] at hi
  obtain ⟨b, o, cap, e1, e2, e3⟩ := h2.full hi
  refine ⟨b, o, cap, (xs[i]).2, by rw [e1, List.length_map], e2, ?_, ?_⟩
  · rw [List.getElem_map]; exact h3 _ (List.getElem_mem hi)
  · intro j hj
    rw [e3 j hj, List.getElem_map]
def few1 (x : En) : Bool := decide (x.ls.length ≤ 20)
def few2 (o : OpL) : Bool := decide (o.es.length ≤ 6) && o.es.all few1
def fewB (l : List OpL) : Bool := l.all few2 && decide (l.length ≤ 20)

/-! Books behind calls. -/
def postAll (l : List OpL) : List En := l.foldl (fun es o => postR 30 0 es o.per o.seq o.es) []
theorem postAll_step {l : List OpL} {j : Nat} (h : j < l.length) : postAll (l.take (j + 1)) = postR 30 0 (postAll (l.take j)) (l[j]).per (l[j]).seq (l[j]).es := by
  unfold postAll
  rw [List.take_add_one, List.getElem?_eq_getElem h, Option.toList_some, List.foldl_append]; rfl
theorem few_ops {l : List OpL} (h : fewB l = true) : l.length ≤ 20 ∧ ∀ o ∈ l, o.es.length ≤ 6 ∧ ∀ x ∈ o.es, x.ls.length ≤ 20 := by
  unfold fewB at h
  rw [Bool.and_eq_true, List.all_eq_true, decide_eq_true_eq] at h
  refine ⟨h.2, fun o ho => ?_⟩
  have h1 := h.1 o ho
  unfold few2 at h1
  rw [Bool.and_eq_true, List.all_eq_true, decide_eq_true_eq] at h1
  exact ⟨h1.1, fun x hx => by have := h1.2 x hx; unfold few1 at this; exact of_decide_eq_true this⟩
theorem few_ok {l : List OpL} (h : fewB l = true) (hw : ∀ o ∈ l, o.ok) : ∀ o ∈ l, ∀ x ∈ o.es, x.ok := fun o ho x hx => by
  obtain ⟨a, b, c, d, e, f, g⟩ := (hw o ho).2.2 x hx
  exact ⟨a, b, c, d, e, f, g, by have := ((few_ops h).2 o ho).2 x hx; omega⟩
theorem postAll_len {l : List OpL} (h : fewB l = true) : ∀ j, j ≤ l.length → (postAll (l.take j)).length ≤ 6 * j := by
  intro j
  induction j with
  | zero => intro _; simp [postAll]
  | succ j ih =>
    intro hj
    rw [postAll_step (by omega)]
    have h1 := ih (by omega)
    have h2 := ((few_ops h).2 _ (List.getElem_mem (l := l) (n := j) (by omega))).1
    have h3 := postR_len (sz := 30) (lk := 0) (es := postAll (l.take j)) (period := (l[j]).per) (seq := (l[j]).seq) (xs := (l[j]).es)
    omega
theorem postAll_inv {l : List OpL} (h : fewB l = true) (hw : ∀ o ∈ l, o.ok) : ∀ j, j ≤ l.length → Inv (postAll (l.take j)) := by
  intro j
  induction j with
  | zero => intro _; exact Inv.nil
  | succ j ih =>
    intro hj
    rw [postAll_step (by omega)]
    have hm := List.getElem_mem (l := l) (n := j) (by omega)
    exact postR_inv (hw _ hm).2.1 (hw _ hm).1 (few_ok h hw _ hm) (ih (by omega))
theorem lines_20 {es : List En} (h : Inv es) : ∀ y ∈ es, y.ls.length ≤ 20 := fun y hy => by
  have := (entryE_ok.1 (h.ok y hy)).2.1
  unfold linesB at this
  simp only [Bool.and_eq_true, decide_eq_true_eq] at this
  omega
theorem PerAt.grown {w w' : World} {q b k : Nat} {sz lk : Int} (h : PerAt w q b sz lk) (hg : w.grownBy w' (some k)) (h1 : q ≠ k) (h2 : b ≠ k) : PerAt w' q b sz lk :=
  ⟨grown_cell hg h.c0 (fun e => h1 (by cases e; rfl)), grown_cell hg h.c1 (fun e => h1 (by cases e; rfl)), grown_cell hg h.c2 (fun e => h2 (by cases e; rfl)), h.s1, h.s2⟩
theorem Led.lt {w : World} {q : Nat} {es : List En} (h : Led w q es) : q < w.heap.size := by
  obtain ⟨v, m, hbk, _⟩ := h
  exact hbk.lt

/-! The chapter's example. -/
def awE : En := ⟨1, 5, 0, 0, 0, -1, [⟨2, 0, 70⟩, ⟨3, 0, -70⟩]⟩
def awEs : List En := [⟨1, 5, 0, 1, 0, -1, [⟨2, 0, 70⟩, ⟨3, 0, -70⟩]⟩]
theorem aw_post : postE 30 0 [] 0 1 [awE] = 0 := by decide +kernel
theorem aw_postR : postR 30 0 [] 0 1 [awE] = awEs := by decide +kernel
theorem aw_ok : awE.ok := by
  refine ⟨?_, ?_, ?_, ?_, ?_, ?_, ?_, ?_⟩
  all_goals first | (unfold I64 awE; simp only; omega) | skip
  · intro y hy
    simp only [awE, List.mem_cons, List.not_mem_nil, or_false] at hy
    rcases hy with rfl | rfl <;> (unfold Ln.ok I64; simp only; omega)
  · decide
theorem aw_inv : Inv awEs := by
  rw [← aw_postR]
  exact postR_inv (by unfold I64; omega) (by unfold I64; omega) (fun y hy => by simp only [List.mem_singleton] at hy; subst hy; exact aw_ok) Inv.nil
theorem aw_rows : (rowsL awEs).length = 2 := by decide +kernel
theorem aw_text : (⟨(textL (rowsL awEs)).toArray⟩ : ByteArray).toList = [48, 32, 49, 32, 48, 32, 49, 32, 53, 32, 45, 49, 32, 50, 32, 48, 32, 55, 48, 10, 48, 32, 49, 32, 48, 32, 49, 32, 53, 32, 45, 49, 32, 51, 32, 48, 32, 45, 55, 48, 10] := by decide +kernel
theorem en_lit (a b c d e f : Int) (p : Option Addr) (n k : Nat) (w : World) :
    (Instr.buildSlice 82 1 #[(0, .agg #[.int .i64 a, .int .i64 b, .int .i64 c, .int .i64 d, .int .i64 e, .int .i64 f, .slice p n k])]).run Tryz.prog w
      = .ok (.slice (some ⟨w.heap.size, 0, none⟩) 1 1) (w.alloc (.cells #[.int .i64 a, .int .i64 b, .int .i64 c, .int .i64 d, .int .i64 e, .int .i64 f, .slice p n k] 48)) := by kernel_rfl
theorem tag_build (a b : Int) (w : World) : (Instr.build 45 #[(0, .int .i64 a), (1, .int .i64 b)]).run Tryz.prog w = .ok (.agg #[.int .i64 a, .int .i64 b, .int .i64 0]) w := by kernel_rfl
theorem entries_one {W : World} {b : Nat} {x : En} {u : Value} (h : Own W [(b, (enCs (x, u)).toArray)]) (hu : IsLines W u x.ls) : IsEntries W (.slice (some ⟨b, 0, none⟩) 1 1) [x] := by
  obtain ⟨z, c, -⟩ := own_get h
  refine ⟨[(x, u)], rfl, .inr ⟨b, 0, 1, rfl, z, by simp, by decide, fun i hi j hj => ?_⟩, fun y hy => ?_⟩
  · simp only [List.length_singleton] at hi
    have : i = 0 := by omega
    subst this
    rw [Nat.zero_mul, Nat.add_zero, Nat.zero_add, c j, List.getElem?_toArray]
    rcases j with _ | _ | _ | _ | _ | _ | _ | j
    all_goals first | rfl | omega
  · simp only [List.mem_singleton] at hy; subst hy; exact hu

set_option maxHeartbeats 4000000 in
theorem audawake_any (w : World) (hR : RulesAt w) (hT : PowTab w) : Calls Tryz.prog 4 #[] w fun e w' => e = .returned (.bool true) ∧ Later w w' := by
  have HNEW := Lib.hid new_any
  have HPER := Lib.hid (fun W => pnew_any 30 (by omega) (by omega) W)
  have HFL := Lib.hid (fun W => flow_any 1 5 0 70 2 3 (by decide) (by decide) (by decide) (by decide) (by decide) (by decide) (by unfold I64; omega) W)
  have HR := Lib.hid hR
  have HT := Lib.hid hT
  have HPOST := Lib.hid (fun (q pq pb : Nat) ev W (hL : Led W q []) (hP : PerAt W pq pb 30 0) (hE : IsEntries W ev [awE]) (hR : RulesAt W) (hlt : q < W.heap.size) =>
    post_any q [] (by simp) (fun y h => by cases h) pq pb 30 0 0 1 (by unfold I64; omega) (by unfold I64; omega) [awE] (by simp) (fun y hy => by simp only [List.mem_singleton] at hy; subst hy; exact aw_ok) ev W hL hP hE hR hlt)
  simp only [aw_post, aw_postR, if_pos rfl, List.length_nil, Int.natCast_zero] at HPOST
  have HROWS := Lib.hid (fun q W (hL : Led W q awEs) => rows_any q awEs (by decide) aw_inv.word (lines_20 aw_inv) W hL)
  have HAG := Lib.hid (fun q v W (hL : Led W q awEs) (hN : IsRow 9 rwF W v (rowsL awEs)) => agrees_yes q awEs aw_inv (by decide) (lines_20 aw_inv) (rowsL awEs) (by rw [aw_rows]; omega) rfl v W hL hN)
  have HPRN := Lib.hid (fun v W (hN : IsRow 9 rwF W v (rowsL awEs)) (hT : PowTab W) => print_any (rowsL awEs) (by rw [aw_rows]; omega) (rows_ok aw_inv.word (by decide)) v W hN hT)
  obtain ⟨TX, hTX⟩ : ∃ t : ByteArray, ⟨(textL (rowsL awEs)).toArray⟩ = t := ⟨_, rfl⟩
  simp only [hTX] at HPRN
  have htx := aw_text
  rw [hTX] at htx
  clear hR hT hTX
  go_enter Tryz.func4, Tryz.ntmps4
  go_upto_region 4 with (first | refine wpList_built (tag_build _ _) rfl rfl rfl ?_ | (go_at_call 12; go_must (refine (HNEW.out _).mono ?_; rintro e w1 ⟨q, rfl, hq1, hL1, hb1⟩; have hq2 := hL1.lt; have HL1 := Lib.hid hL1; clear hL1)) | (go_at_call 13; go_must (refine (HPER.out _).mono ?_; rintro e w2 ⟨pq, pb, rfl, hP2, hp1, hp2, hb2⟩; have HP2 := Lib.hid hP2; clear hP2)) | (go_at_call 14; go_must (refine (HFL.out _).mono ?_; rintro e w3 ⟨v3, rfl, hN3, hb3⟩; obtain ⟨p3, c3, rfl⟩ := IsRow.form hN3; have HN3 := Lib.hid hN3; clear hN3)))
  refine wp_opaque (fun W4 hb4 => ?_)
  have HO4 := Lib.hid (Own.one hb4)
  have hb34 := hb4.un1
  have HL4 := Lib.hid (((HL1.out.later hb2).later hb3).later hb34)
  have HP4 := Lib.hid ((HP2.out.later hb3).later hb34)
  have HN4 := Lib.hid (IsRow.later HN3.out hb34)
  have hw4 := ((hb1.trans hb2).trans hb3).trans hb34
  obtain ⟨⟨z4, d4, f4⟩, -⟩ := HO4.out
  clear HL1 HP2 HN3 hb1 hb2 hb3 hb4 hb34 hp1 hp2 hq2 HNEW HPER HFL
  go_upto_region 7 with (first | refine wpList_builtS (en_lit _ _ _ _ _ _ _ _ _) rfl rfl rfl ?_ | (go_at_call 15; go_must (refine (HPOST.out _ _ _ _ _ (HL4.out.later (by repeat (first | with_reducible exact Later.refl _ | with_reducible assumption | with_reducible refine Later.ofdrew ?_ | with_reducible refine Later.ofdrewN ?_ | with_reducible refine Later.setCell ?_ ?_ _ | with_reducible refine Later.alloc ?_ _ | with_reducible refine Later.drewN ?_ _ | with_reducible refine Later.drew ?_ | (with_reducible refine Later.trans ?_ (by assumption)) | (simp only [World.size_setCell, World.size_alloc, World.heap_drewN]; omega) | (simp; done) | (simp; omega)))) (HP4.out.later (by repeat (first | with_reducible exact Later.refl _ | with_reducible assumption | with_reducible refine Later.ofdrew ?_ | with_reducible refine Later.ofdrewN ?_ | with_reducible refine Later.setCell ?_ ?_ _ | with_reducible refine Later.alloc ?_ _ | with_reducible refine Later.drewN ?_ _ | with_reducible refine Later.drew ?_ | (with_reducible refine Later.trans ?_ (by assumption)) | (simp only [World.size_setCell, World.size_alloc, World.heap_drewN]; omega) | (simp; done) | (simp; omega)))) (entries_one (Own.one (Later.refl _)) (IsRow.later HN4.out (by repeat (first | with_reducible exact Later.refl _ | with_reducible assumption | with_reducible refine Later.ofdrew ?_ | with_reducible refine Later.ofdrewN ?_ | with_reducible refine Later.setCell ?_ ?_ _ | with_reducible refine Later.alloc ?_ _ | with_reducible refine Later.drewN ?_ _ | with_reducible refine Later.drew ?_ | (with_reducible refine Later.trans ?_ (by assumption)) | (simp only [World.size_setCell, World.size_alloc, World.heap_drewN]; omega) | (simp; done) | (simp; omega))))) (HR.out.later (hw4.trans (by repeat (first | with_reducible exact Later.refl _ | with_reducible assumption | with_reducible refine Later.ofdrew ?_ | with_reducible refine Later.ofdrewN ?_ | with_reducible refine Later.setCell ?_ ?_ _ | with_reducible refine Later.alloc ?_ _ | with_reducible refine Later.drewN ?_ _ | with_reducible refine Later.drew ?_ | (with_reducible refine Later.trans ?_ (by assumption)) | (simp only [World.size_setCell, World.size_alloc, World.heap_drewN]; omega) | (simp; done) | (simp; omega))))) (HL4.out.later (by repeat (first | with_reducible exact Later.refl _ | with_reducible assumption | with_reducible refine Later.ofdrew ?_ | with_reducible refine Later.ofdrewN ?_ | with_reducible refine Later.setCell ?_ ?_ _ | with_reducible refine Later.alloc ?_ _ | with_reducible refine Later.drewN ?_ _ | with_reducible refine Later.drew ?_ | (with_reducible refine Later.trans ?_ (by assumption)) | (simp only [World.size_setCell, World.size_alloc, World.heap_drewN]; omega) | (simp; done) | (simp; omega)))).lt).mono ?_; rintro e w5 ⟨rfl, hL5, hg5⟩)))
  refine wp_opaque (fun W6 hb6 => ?_)
  have hl5 : Later w w5 := Later.grown (hw4.trans (by repeat (first | with_reducible exact Later.refl _ | with_reducible assumption | with_reducible refine Later.ofdrew ?_ | with_reducible refine Later.ofdrewN ?_ | with_reducible refine Later.setCell ?_ ?_ _ | with_reducible refine Later.alloc ?_ _ | with_reducible refine Later.drewN ?_ _ | with_reducible refine Later.drew ?_ | (with_reducible refine Later.trans ?_ (by assumption)) | (simp only [World.size_setCell, World.size_alloc, World.heap_drewN]; omega) | (simp; done) | (simp; omega)))) hg5 (fun k e => by cases e; exact hq1)
  have HL6 := Lib.hid (hL5.later hb6)
  have hw6 := hl5.trans hb6
  clear hL5 hg5 hb6 hl5 z4 d4 f4 HL4 HP4 HN4 HO4 hw4 HPOST
  go_upto_region 8 with (go_at_call 16; go_must (refine (HROWS.out _ _ (HL6.out.later (by repeat (first | with_reducible exact Later.refl _ | with_reducible assumption | with_reducible refine Later.ofdrew ?_ | with_reducible refine Later.ofdrewN ?_ | with_reducible refine Later.setCell ?_ ?_ _ | with_reducible refine Later.alloc ?_ _ | with_reducible refine Later.drewN ?_ _ | with_reducible refine Later.drew ?_ | (with_reducible refine Later.trans ?_ (by assumption)) | (simp only [World.size_setCell, World.size_alloc, World.heap_drewN]; omega) | (simp; done) | (simp; omega))))).mono ?_; rintro e w7 ⟨v7, rfl, hR7, hb7⟩))
  refine wp_opaque (fun W8 hb8 => ?_)
  have hN8 := hR7.1.later hb8
  have hw8 := (hw6.trans hb7).trans hb8
  have HL8 := Lib.hid ((HL6.out.later hb7).later hb8)
  have HT8 := Lib.hid (HT.out.later hw8)
  obtain ⟨p8, c8, hv8⟩ := hN8.form
  rw [aw_rows] at hv8
  subst hv8
  have HN8 := Lib.hid hN8
  clear hR7 hb7 hb8 HL6 hw6 hN8 HROWS HT HR
  go_wp2_with (first | (go_at_call 11; go_must (refine (HPRN.out _ _ (HN8.out.later (by repeat (first | with_reducible exact Later.refl _ | with_reducible assumption | with_reducible refine Later.ofdrew ?_ | with_reducible refine Later.ofdrewN ?_ | with_reducible refine Later.setCell ?_ ?_ _ | with_reducible refine Later.alloc ?_ _ | with_reducible refine Later.drewN ?_ _ | with_reducible refine Later.drew ?_ | (with_reducible refine Later.trans ?_ (by assumption)) | (simp only [World.size_setCell, World.size_alloc, World.heap_drewN]; omega) | (simp; done) | (simp; omega)))) (HT8.out.later (by repeat (first | with_reducible exact Later.refl _ | with_reducible assumption | with_reducible refine Later.ofdrew ?_ | with_reducible refine Later.ofdrewN ?_ | with_reducible refine Later.setCell ?_ ?_ _ | with_reducible refine Later.alloc ?_ _ | with_reducible refine Later.drewN ?_ _ | with_reducible refine Later.drew ?_ | (with_reducible refine Later.trans ?_ (by assumption)) | (simp only [World.size_setCell, World.size_alloc, World.heap_drewN]; omega) | (simp; done) | (simp; omega))))).mono ?_; rintro e w9 ⟨rfl, hb9⟩)) | (go_at_call 17; go_must (refine (HAG.out _ _ _ (HL8.out.later (by repeat (first | with_reducible exact Later.refl _ | with_reducible assumption | with_reducible refine Later.ofdrew ?_ | with_reducible refine Later.ofdrewN ?_ | with_reducible refine Later.setCell ?_ ?_ _ | with_reducible refine Later.alloc ?_ _ | with_reducible refine Later.drewN ?_ _ | with_reducible refine Later.drew ?_ | (with_reducible refine Later.trans ?_ (by assumption)) | (simp only [World.size_setCell, World.size_alloc, World.heap_drewN]; omega) | (simp; done) | (simp; omega)))) (HN8.out.later (by repeat (first | with_reducible exact Later.refl _ | with_reducible assumption | with_reducible refine Later.ofdrew ?_ | with_reducible refine Later.ofdrewN ?_ | with_reducible refine Later.setCell ?_ ?_ _ | with_reducible refine Later.alloc ?_ _ | with_reducible refine Later.drewN ?_ _ | with_reducible refine Later.drew ?_ | (with_reducible refine Later.trans ?_ (by assumption)) | (simp only [World.size_setCell, World.size_alloc, World.heap_drewN]; omega) | (simp; done) | (simp; omega))))).mono ?_; rintro e w10 ⟨rfl, hb10⟩)))
  go_ret
  exact ⟨rfl, by repeat (first | with_reducible exact Later.refl _ | with_reducible assumption | with_reducible refine Later.ofdrew ?_ | with_reducible refine Later.ofdrewN ?_ | with_reducible refine Later.setCell ?_ ?_ _ | with_reducible refine Later.alloc ?_ _ | with_reducible refine Later.drewN ?_ _ | with_reducible refine Later.drew ?_ | (with_reducible refine Later.trans ?_ (by assumption)) | (simp only [World.size_setCell, World.size_alloc, World.heap_drewN]; omega) | (simp; done) | (simp; omega))⟩
end Go.Proofs.YtckeaibamgkegaaGreatDoor
end
section
/- AuditChecks: its walk -/
namespace Go.Proofs.YtckeaibamgkegaaGreatDoor
open Go.RowKit
set_option maxRecDepth 100000

theorem arInfo : (Tryz.prog.info? 36).map (fun i => (i.zero, i.size, i.bytes)) = some (some (.agg #[.int .i64 0, .int .i64 0, .int .i64 0, .int .i64 0, .int .i64 0, .int .i64 0, .int .i64 0, .int .i64 0, .int .i64 0]), 9, 72) := by kernel_rfl
theorem sliceAr : SliceOf Tryz.prog 25 36 9 72 := sliceOf_mk Tryz.underlying25 arInfo rfl (by decide)
theorem ar_one (a b c d e f g h i : Int) (w : World) :
    (Instr.buildSlice 25 1 #[(0, .agg #[.int .i64 a, .int .i64 b, .int .i64 c, .int .i64 d, .int .i64 e, .int .i64 f, .int .i64 g, .int .i64 h, .int .i64 i])]).run Tryz.prog w
      = .ok (.slice (some ⟨w.heap.size, 0, none⟩) 1 1) (w.alloc (.cells #[.int .i64 a, .int .i64 b, .int .i64 c, .int .i64 d, .int .i64 e, .int .i64 f, .int .i64 g, .int .i64 h, .int .i64 i] 36)) := by kernel_rfl
theorem ar_build (a b c d e f g h i : Int) (w : World) :
    (Instr.build 36 #[(0, .int .i64 a), (1, .int .i64 b), (2, .int .i64 c), (3, .int .i64 d), (4, .int .i64 e), (5, .int .i64 f), (6, .int .i64 g), (7, .int .i64 h), (8, .int .i64 i)]).run Tryz.prog w
      = .ok (.agg #[.int .i64 a, .int .i64 b, .int .i64 c, .int .i64 d, .int .i64 e, .int .i64 f, .int .i64 g, .int .i64 h, .int .i64 i]) w := by kernel_rfl

set_option maxHeartbeats 4000000 in
theorem lplain_any (l : List Rw) (hlen : l.length ≤ 100000) (v : Value) (w : World) (hN : IsRow 9 rwF w v l) :
    Calls Tryz.prog 5 #[v] w fun e w' => ∃ u, e = .returned u ∧ IsRow 9 rwF w' u l ∧ Later w w' := by
  have HN := Lib.hid hN
  obtain ⟨p, cp, rfl⟩ := hN.form
  clear hN
  obtain ⟨L, hLL⟩ : ∃ L, l.length = L := ⟨_, rfl⟩
  rw [hLL] at HN hlen ⊢
  have HL := Lib.hid hLL
  clear hLL
  go_enter Tryz.func5, Tryz.ntmps5
  go_wp2
  go_loopw [3, 4] (fun s3 s4 wr => ∃ j : Nat, j ≤ L ∧ s4 = .int .i64 j ∧ Mine w 36 9 wr s3 j ((l.take j).flatMap rwCs)) (fun _ s4 _ => L - (intOf s4).toNat)
  case atStart => exact ⟨0, Nat.zero_le _, rfl, Mine.nil (Later.refl _)⟩
  case round =>
    obtain ⟨j, hj, rfl, hM⟩ := hrel
    have hlat := hM.lat
    obtain ⟨p3, c3, rfl⟩ := hM.form
    have HM := Lib.hid hM
    clear hM
    by_cases hlt : j < L
    · have hjl : j < l.length := by rw [HL.out]; exact hlt
      obtain ⟨b, o, cp', hv, hb, g⟩ := HN.out.full (i := j) hjl
      rw [HL.out] at hv
      cases hv
      replace g := fun k (hk : k < 9) => ((bcell hlat).1 _ _ hb).trans (g k hk)
      have g0 := g 0 (by omega)
      have g1 := g 1 (by omega)
      have g2 := g 2 (by omega)
      have g3 := g 3 (by omega)
      have g4 := g 4 (by omega)
      have g5 := g 5 (by omega)
      have g6 := g 6 (by omega)
      have g7 := g 7 (by omega)
      have g8 := g 8 (by omega)
      simp only [rwF, Rw.nums, List.getD_cons_zero, List.getD_cons_succ, Nat.add_zero] at g0 g1 g2 g3 g4 g5 g6 g7 g8
      have hbz := Nat.lt_of_lt_of_le hb (Later.size hlat)
      have HST : Hid ((l.take (j + 1)).flatMap rwCs = (l.take j).flatMap rwCs ++ rwCs l[j]) := Lib.hid (by
        rw [List.take_add_one, List.getElem?_eq_getElem hjl, Option.toList_some, List.flatMap_append, List.flatMap_singleton])
      have HMW := Lib.hid (fun W (h : Later wr W) => HM.out.later h)
      clear g HN HM HL
      generalize l[j] = X at *
      obtain ⟨x0, x1, x2, x3, x4, x5, x6, x7, x8⟩ := X
      simp only at g0 g1 g2 g3 g4 g5 g6 g7 g8
      go_upto_region 6 with (fail)
      refine wp_opaque (fun W8 hb8 => ?_)
      obtain ⟨⟨z8, d8, f8⟩, -⟩ := Own.one hb8
      have hb9 := hb8.un1
      clear hb8 g0 g1 g2 g3 g4 g5 g6 g7 g8
      go_wp2_with (first | refine wpList_built (ar_build _ _ _ _ _ _ _ _ _) rfl rfl rfl ?_ | refine wpList_builtS (ar_one _ _ _ _ _ _ _ _ _) rfl rfl rfl ?_ | (at_builtin; go_must (refine wpList_pushAt sliceAr (HMW.out _ (by repeat (first | with_reducible exact Later.refl _ | with_reducible assumption | with_reducible refine Later.ofdrew ?_ | with_reducible refine Later.ofdrewN ?_ | with_reducible refine Later.setCell ?_ ?_ _ | with_reducible refine Later.alloc ?_ _ | with_reducible refine Later.drewN ?_ _ | with_reducible refine Later.drew ?_ | (with_reducible refine Later.trans ?_ (by assumption)) | (simp only [World.size_setCell, World.size_alloc, World.heap_drewN]; omega) | (simp; done) | (simp; omega)))) rfl _ _ rfl rfl 1 _ rfl (by simp) rfl (by simp [Value.oneCell']) (by omega) (by unfold maxLen; omega) ?_; intro v5 w5 hM5 hg5; have hb5 := hM5.lat; obtain ⟨p5, cp5, rfl⟩ := hM5.form)))
      go_roundw
      case rel => exact ⟨j + 1, by omega, by go_num, by rw [HST.out]; exact hM5⟩
      case measure => simp [intOf]; omega
    · have hmm := HM.out
      rw [List.take_of_length_le (by rw [HL.out]; omega)] at hmm
      have HI := Lib.hid (hmm.row_ rwCs (fun _ => rfl) rwCs_cell (by decide)).1
      clear HM hmm HN
      go_wp2
      go_ret
      exact ⟨_, rfl, HI.out, hlat⟩

theorem rline_ag (x : Rw) (hx : x.ok) : ∀ w, Calls Tryz.prog 10 #[x.val] w fun e w' => e = .returned (.string ⟨(lineL x).toArray⟩) ∧ Later w w' := fun w => rline_any x hx w

set_option maxHeartbeats 8000000 in
theorem audchecks_any (l : List Rw) (a b c : Int) (hw : ∀ r ∈ l, r.ok) (v : Value) (w : World) (hN : IsRow 9 rwF w v l) (hR : RulesAt w) (hT : PowTab w) :
    Calls Tryz.prog 3 #[v, .agg #[.int .i64 a, .int .i64 b, .int .i64 c]] w fun e w' => e = .returned (.bool true) ∧ Later w w' := by
  have HAW := Lib.hid (fun W (hl : Later w W) => audawake_any W (hR.later hl) (hT.later hl))
  have hbd := IsRow.bound hN
  by_cases hf : l.length ≤ 40
  · have hwa : ∀ r ∈ l, I64 r.amt := fun r hr => (hw r hr).2.2.2.2.2.2.2.2
    have HPL := Lib.hid (fun W (hl : Later w W) => lplain_any l (by omega) v W (hN.later hl))
    have HCK := Lib.hid (fun W (hl : Later w W) => check_rows l (by omega) hw v W (hN.later hl))
    have HRC := Lib.hid (fun u W (hu : IsRow 9 rwF W u l) => rcheck_any l (by omega) hwa u W hu)
    have HFO := Lib.hid (fun W (hl : Later w W) => fold_any a b c l (by omega) hwa v W (hN.later hl))
    have HRF := Lib.hid (fun u W (hu : IsRow 9 rwF W u l) => rfold_any l (by omega) hwa a b c u W hu)
    have HPR := Lib.hid (fun W (hl : Later w W) => print_any l (by omega) hw v W (hN.later hl) (hT.later hl))
    have hLN := fun j (hj : j < l.length) => rline_ag l[j] (hw _ (List.getElem_mem hj))
    have hLS := fun j (hj : j < l.length) => textL_step hj
    have hLL := fun j (hj : j < l.length) => lineL_len (hw _ (List.getElem_mem hj))
    have hLT := fun j (_ : j ≤ l.length) => textL_len (l := l.take j) (fun r hr => hw r (List.mem_of_mem_take hr))
    have HLN := Lib.hid hLN
    have HLS := Lib.hid hLS
    have HLL := Lib.hid hLL
    have HLT := Lib.hid hLT
    obtain ⟨p, cp, rfl⟩ := hN.form
    clear hN hR hT hw hwa hLN hLS hLL hLT
    generalize checkG (groups l) = ck at *
    have HFE : ∃ (n e : Int) (is : Bool), Hid (fitN (sumI ((l.filter (foldB a b c)).map (·.amt))) = n ∧ fitE (sumI ((l.filter (foldB a b c)).map (·.amt))) = e ∧ fitB (sumI ((l.filter (foldB a b c)).map (·.amt))) = is) ∧ ((is = true ∧ e = 0) ∨ (is = false ∧ n = 0 ∧ e = 11)) := by
      refine ⟨_, _, _, Lib.hid ⟨rfl, rfl, rfl⟩, ?_⟩
      unfold fitN fitE fitB
      generalize sumI ((l.filter (foldB a b c)).map (·.amt)) = z
      by_cases h : -9223372036854775808 ≤ z ∧ z ≤ 9223372036854775807
      · exact .inl ⟨decide_eq_true h, if_pos h⟩
      · exact .inr ⟨decide_eq_false h, if_neg h, if_neg h⟩
    obtain ⟨n, e, is, hfe, hcase⟩ := HFE
    simp only [hfe.out.1, hfe.out.2.1, hfe.out.2.2] at HFO HRF
    clear hfe
    obtain ⟨L, hL⟩ : ∃ L, l.length = L := ⟨_, rfl⟩
    simp only [hL] at HPL HCK HFO HPR hf hbd ⊢
    have HL := Lib.hid hL
    clear hL
    go_enter Tryz.func3, Tryz.ntmps3
    go_upto_region 4 with (go_at_call 5; go_must (refine (HPL.out _ (by repeat (first | with_reducible exact Later.refl _ | with_reducible assumption | with_reducible refine Later.ofdrew ?_ | with_reducible refine Later.ofdrewN ?_ | with_reducible refine Later.setCell ?_ ?_ _ | with_reducible refine Later.alloc ?_ _ | with_reducible refine Later.drewN ?_ _ | with_reducible refine Later.drew ?_ | (with_reducible refine Later.trans ?_ (by assumption)) | (simp only [World.size_setCell, World.size_alloc, World.heap_drewN]; omega) | (simp; done) | (simp; omega)))).mono ?_; rintro e w1 ⟨u1, rfl, hR1, hb1⟩))
    refine wp_opaque (fun W8 hb8 => ?_)
    have hO8 := Own.one (Later.trans hb1 hb8)
    have hR8 := hR1.later hb8
    obtain ⟨p1, c1, rfl⟩ := hR8.form
    rw [HL.out] at hR8 ⊢
    have HR8 := Lib.hid hR8
    have HO8 := Lib.hid hO8
    have hw8 : Later w W8 := (Later.trans hb1 hb8).un1
    clear hR1 hR8 hb1 hb8 hO8 HPL
    go_upto_region 6 with (first | (go_at_call 6; go_must (refine (HCK.out _ (hw8.trans (by repeat (first | with_reducible exact Later.refl _ | with_reducible assumption | with_reducible refine Later.ofdrew ?_ | with_reducible refine Later.ofdrewN ?_ | with_reducible refine Later.setCell ?_ ?_ _ | with_reducible refine Later.alloc ?_ _ | with_reducible refine Later.drewN ?_ _ | with_reducible refine Later.drew ?_ | (with_reducible refine Later.trans ?_ (by assumption)) | (simp only [World.size_setCell, World.size_alloc, World.heap_drewN]; omega) | (simp; done) | (simp; omega))))).mono ?_; rintro e w2 ⟨rfl, hb2⟩)) | (go_at_call 7; go_must (refine (HRC.out _ _ (HR8.out.later (by repeat (first | with_reducible exact Later.refl _ | with_reducible assumption | with_reducible refine Later.ofdrew ?_ | with_reducible refine Later.ofdrewN ?_ | with_reducible refine Later.setCell ?_ ?_ _ | with_reducible refine Later.alloc ?_ _ | with_reducible refine Later.drewN ?_ _ | with_reducible refine Later.drew ?_ | (with_reducible refine Later.trans ?_ (by assumption)) | (simp only [World.size_setCell, World.size_alloc, World.heap_drewN]; omega) | (simp; done) | (simp; omega))))).mono ?_; rintro e w3 ⟨rfl, hb3⟩)))
    refine wp_opaque (fun W9 hb9 => ?_)
    have hw9 : Later W8 W9 := Later.trans (by repeat (first | with_reducible exact Later.refl _ | with_reducible assumption | with_reducible refine Later.ofdrew ?_ | with_reducible refine Later.ofdrewN ?_ | with_reducible refine Later.setCell ?_ ?_ _ | with_reducible refine Later.alloc ?_ _ | with_reducible refine Later.drewN ?_ _ | with_reducible refine Later.drew ?_ | (with_reducible refine Later.trans ?_ (by assumption)) | (simp only [World.size_setCell, World.size_alloc, World.heap_drewN]; omega) | (simp; done) | (simp; omega))) hb9
    have HR9 := Lib.hid (HR8.out.later hw9)
    have hO9 := HO8.out.later hw9
    have HO9 := Lib.hid hO9
    obtain ⟨⟨z9, d9, f9⟩, -⟩ := hO9
    have hww9 := hw8.trans hw9
    clear hb9 HR8 HO8 HCK HRC hw8 hw9
    have HFO9 := Lib.hid (fun W (hl : Later W9 W) => HFO.out W (hww9.trans hl))
    have HRF9 := Lib.hid (fun W (hl : Later W9 W) => HRF.out _ W (HR9.out.later hl))
    clear HFO HRF
    have tok1 : True := trivial
    go_upto_region 7 with (go_at_call 8; go_must (refine (HFO9.out _ (by repeat (first | with_reducible exact Later.refl _ | with_reducible assumption | with_reducible refine Later.ofdrew ?_ | with_reducible refine Later.ofdrewN ?_ | with_reducible refine Later.setCell ?_ ?_ _ | with_reducible refine Later.alloc ?_ _ | with_reducible refine Later.drewN ?_ _ | with_reducible refine Later.drew ?_ | (with_reducible refine Later.trans ?_ (by assumption)) | (simp only [World.size_setCell, World.size_alloc, World.heap_drewN]; omega) | (simp; done) | (simp; omega)))).mono ?_; rintro e w4 ⟨rfl, hb4⟩))
    refine wp_opaque (fun W10 hb10 => ?_)
    have hw10 : Later W9 W10 := Later.trans (by repeat (first | with_reducible exact Later.refl _ | with_reducible assumption | with_reducible refine Later.ofdrew ?_ | with_reducible refine Later.ofdrewN ?_ | with_reducible refine Later.setCell ?_ ?_ _ | with_reducible refine Later.alloc ?_ _ | with_reducible refine Later.drewN ?_ _ | with_reducible refine Later.drew ?_ | (with_reducible refine Later.trans ?_ (by assumption)) | (simp only [World.size_setCell, World.size_alloc, World.heap_drewN]; omega) | (simp; done) | (simp; omega))) hb10
    clear z9 d9 f9
    obtain ⟨⟨z9, d9, f9⟩, -⟩ := HO9.out.later hw10
    go_upto_region 8 with (go_at_call 9; go_must (refine (HRF9.out _ (by repeat (first | with_reducible exact Later.refl _ | with_reducible assumption | with_reducible refine Later.ofdrew ?_ | with_reducible refine Later.ofdrewN ?_ | with_reducible refine Later.setCell ?_ ?_ _ | with_reducible refine Later.alloc ?_ _ | with_reducible refine Later.drewN ?_ _ | with_reducible refine Later.drew ?_ | (with_reducible refine Later.trans ?_ (by assumption)) | (simp only [World.size_setCell, World.size_alloc, World.heap_drewN]; omega) | (simp; done) | (simp; omega)))).mono ?_; rintro e w5 ⟨rfl, hb5⟩))
    refine wp_opaque (fun W11 hb11 => ?_)
    have hw11 : Later W9 W11 := hw10.trans (Later.trans (by repeat (first | with_reducible exact Later.refl _ | with_reducible assumption | with_reducible refine Later.ofdrew ?_ | with_reducible refine Later.ofdrewN ?_ | with_reducible refine Later.setCell ?_ ?_ _ | with_reducible refine Later.alloc ?_ _ | with_reducible refine Later.drewN ?_ _ | with_reducible refine Later.drew ?_ | (with_reducible refine Later.trans ?_ (by assumption)) | (simp only [World.size_setCell, World.size_alloc, World.heap_drewN]; omega) | (simp; done) | (simp; omega))) hb11)
    have HR11 := Lib.hid (HR9.out.later hw11)
    have hww := hww9.trans hw11
    clear z9 d9 f9 HR9 HO9 HFO9 HRF9 hw10 hb10 hb11 hww9 hw11
    have HPR11 := Lib.hid (fun W (hl : Later W11 W) => HPR.out W (hww.trans hl))
    have HAW11 := Lib.hid (fun W (hl : Later W11 W) => HAW.out W (hww.trans hl))
    clear HPR HAW
    rcases hcase with ⟨rfl, rfl⟩ | ⟨rfl, rfl, rfl⟩
    all_goals
      go_wp2
      go_loopw [10, 11] (fun s10 s11 wr => ∃ j : Nat, j ≤ L ∧ s11 = .int .i64 j ∧ s10 = .string ⟨(textL (l.take j)).toArray⟩ ∧ Later W11 wr) (fun _ s11 _ => L - (intOf s11).toNat)
      case atStart => exact ⟨0, Nat.zero_le _, rfl, rfl, Later.refl _⟩
      case round =>
        obtain ⟨j, hj, rfl, rfl, hlat⟩ := hrel
        by_cases hlt : j < L
        · have hjl : j < l.length := by rw [HL.out]; exact hlt
          obtain ⟨b', o', cp', hv, hb, g⟩ := HR11.out.full (i := j) hjl
          rw [HL.out] at hv
          cases hv
          replace g := fun k (hk : k < 9) => ((bcell hlat).1 _ _ hb).trans (g k hk)
          have g0 := g 0 (by omega)
          have g1 := g 1 (by omega)
          have g2 := g 2 (by omega)
          have g3 := g 3 (by omega)
          have g4 := g 4 (by omega)
          have g5 := g 5 (by omega)
          have g6 := g 6 (by omega)
          have g7 := g 7 (by omega)
          have g8 := g 8 (by omega)
          simp only [rwF, Rw.nums, List.getD_cons_zero, List.getD_cons_succ, Nat.add_zero] at g0 g1 g2 g3 g4 g5 g6 g7 g8
          have hbz := Nat.lt_of_lt_of_le hb (Later.size hlat)
          have HLI := Lib.hid (HLN.out j hjl)
          have hst := HLS.out j hjl
          have hl1 := HLL.out j hjl
          have hl2 := HLT.out j (Nat.le_of_lt hjl)
          rw [List.length_take] at hl2
          clear g HLN HLS HLL HLT HR11 HPR11 HAW11
          unfold Rw.val at HLI
          generalize l[j] = X at *
          obtain ⟨x0, x1, x2, x3, x4, x5, x6, x7, x8⟩ := X
          simp only at g0 g1 g2 g3 g4 g5 g6 g7 g8 HLI
          have HE : Hid (ByteArray.mk (textL (l.take j)).toArray ++ ByteArray.mk (lineL ⟨x0, x1, x2, x3, x4, x5, x6, x7, x8⟩).toArray = ⟨(textL (l.take (j + 1))).toArray⟩) := Lib.hid (by rw [hst, ← ba_app])
          obtain ⟨S1, hS1⟩ : ∃ S, ByteArray.mk (textL (l.take j)).toArray = S := ⟨_, rfl⟩
          obtain ⟨S2, hS2⟩ : ∃ S, ByteArray.mk (lineL ⟨x0, x1, x2, x3, x4, x5, x6, x7, x8⟩).toArray = S := ⟨_, rfl⟩
          have hz1 : S1.size ≤ 8000 := by rw [← hS1, ba_len]; omega
          have hz2 : S2.size ≤ 200 := by rw [← hS2, ba_len]; omega
          rw [hS2] at HE HLI
          rw [hS1] at HE ⊢
          clear hst hl1 hl2 hS1 hS2
          go_wp2_with (go_at_call 10; go_must (refine (HLI.out _).mono ?_; rintro e w6 ⟨rfl, hb6⟩))
          go_roundw
          case rel => exact ⟨j + 1, by omega, by go_num, by rw [HE.out], by repeat (first | with_reducible exact Later.refl _ | with_reducible assumption | with_reducible refine Later.ofdrew ?_ | with_reducible refine Later.ofdrewN ?_ | with_reducible refine Later.setCell ?_ ?_ _ | with_reducible refine Later.alloc ?_ _ | with_reducible refine Later.drewN ?_ _ | with_reducible refine Later.drew ?_ | (with_reducible refine Later.trans ?_ (by assumption)) | (simp only [World.size_setCell, World.size_alloc, World.heap_drewN]; omega) | (simp; done) | (simp; omega))⟩
          case measure => simp [intOf]; omega
        · have hjL : j = L := by omega
          have HPRr := Lib.hid (fun W (hl : Later wr W) => HPR11.out W (hlat.trans hl))
          have HAWr := Lib.hid (fun W (hl : Later wr W) => HAW11.out W (hlat.trans hl))
          rw [hjL, List.take_of_length_le (by rw [HL.out]; omega)]
          generalize (ByteArray.mk (textL l).toArray) = S at *
          subst hjL
          clear HLN HLS HLL HLT HR11 HPR11 HAW11
          go_wp2_with (first | (go_at_call 11; go_must (refine (HPRr.out _ (by repeat (first | with_reducible exact Later.refl _ | with_reducible assumption | with_reducible refine Later.ofdrew ?_ | with_reducible refine Later.ofdrewN ?_ | with_reducible refine Later.setCell ?_ ?_ _ | with_reducible refine Later.alloc ?_ _ | with_reducible refine Later.drewN ?_ _ | with_reducible refine Later.drew ?_ | (with_reducible refine Later.trans ?_ (by assumption)) | (simp only [World.size_setCell, World.size_alloc, World.heap_drewN]; omega) | (simp; done) | (simp; omega)))).mono ?_; rintro e w7 ⟨rfl, hb7⟩)) | (go_at_call 4; go_must (refine (HAWr.out _ (by repeat (first | with_reducible exact Later.refl _ | with_reducible assumption | with_reducible refine Later.ofdrew ?_ | with_reducible refine Later.ofdrewN ?_ | with_reducible refine Later.setCell ?_ ?_ _ | with_reducible refine Later.alloc ?_ _ | with_reducible refine Later.drewN ?_ _ | with_reducible refine Later.drew ?_ | (with_reducible refine Later.trans ?_ (by assumption)) | (simp only [World.size_setCell, World.size_alloc, World.heap_drewN]; omega) | (simp; done) | (simp; omega)))).mono ?_; rintro e w8 ⟨rfl, hb8⟩)))
          go_ret
          exact ⟨rfl, hww.trans (hlat.trans (by repeat (first | with_reducible exact Later.refl _ | with_reducible assumption | with_reducible refine Later.ofdrew ?_ | with_reducible refine Later.ofdrewN ?_ | with_reducible refine Later.setCell ?_ ?_ _ | with_reducible refine Later.alloc ?_ _ | with_reducible refine Later.drewN ?_ _ | with_reducible refine Later.drew ?_ | (with_reducible refine Later.trans ?_ (by assumption)) | (simp only [World.size_setCell, World.size_alloc, World.heap_drewN]; omega) | (simp; done) | (simp; omega))))⟩
  · obtain ⟨p, cp, rfl⟩ := hN.form
    have hf' : (40 : Int) < l.length := by omega
    clear hN hR hT hw
    generalize l.length = L at *
    go_enter Tryz.func3, Tryz.ntmps3
    go_wp2_with (go_at_call 4; go_must (refine (HAW.out _ (by repeat (first | with_reducible exact Later.refl _ | with_reducible assumption | with_reducible refine Later.ofdrew ?_ | with_reducible refine Later.ofdrewN ?_ | with_reducible refine Later.setCell ?_ ?_ _ | with_reducible refine Later.alloc ?_ _ | with_reducible refine Later.drewN ?_ _ | with_reducible refine Later.drew ?_ | (with_reducible refine Later.trans ?_ (by assumption)) | (simp only [World.size_setCell, World.size_alloc, World.heap_drewN]; omega) | (simp; done) | (simp; omega)))).mono ?_; rintro e wa ⟨rfl, hba⟩))
    go_ret
    exact ⟨rfl, by repeat (first | with_reducible exact Later.refl _ | with_reducible assumption | with_reducible refine Later.ofdrew ?_ | with_reducible refine Later.ofdrewN ?_ | with_reducible refine Later.setCell ?_ ?_ _ | with_reducible refine Later.alloc ?_ _ | with_reducible refine Later.drewN ?_ _ | with_reducible refine Later.drew ?_ | (with_reducible refine Later.trans ?_ (by assumption)) | (simp only [World.size_setCell, World.size_alloc, World.heap_drewN]; omega) | (simp; done) | (simp; omega))⟩
end Go.Proofs.YtckeaibamgkegaaGreatDoor
end
section
/- what a claim asks of a call that leaves all that was there as it was -/
namespace Go.Proofs.YtckeaibamgkegaaGreatDoor
open Go.RowKit Go.WideShapes Go.ChangeShapes

section
variable {H : Type} {enc : TypeId × Value → H} {P : Program}
/-- The post of a call behind which the world is a later one. -/
theorem post_of_later {f : Func} {s : ChangeSpec} {apart fresh handsOn again : Bool} {W W' : World} {args : Array Value} {v : Value} {ds gs : List (DataW H)} {before pa pv : List MemPlace}
    (hW : DataW.Whole enc P f.params.toList s.vars apart W args.toList ds gs before)
    (hres : ∀ (b : Nat) (sp : Nat → Bool) (hd : Bool), DataW.TrodAll enc P W' b sp hd f.resultTypes.toList (v.resultList f.resultTypes.size) (s.fn H (ds ++ gs)).results [])
    (hargs : ∀ sp : Nat → Bool, (∀ p ∈ before, sp p.block = true) → DataW.TrodAll enc P W' 0 sp true f.params.toList args.toList (s.fn H (ds ++ gs)).args pa)
    (hvars : ∀ sp : Nat → Bool, (∀ p ∈ before, sp p.block = true) → DataW.TrodVars enc P W' sp s.vars (s.fn H (ds ++ gs)).vars pv)
    (hps : before = pa ++ pv) (hb : Later W W')
    (hok : ∀ (j : Nat) (t : TypeId) (r : Value), f.resultTypes[j]? = some t → (v.resultList f.resultTypes.size)[j]? = some r → Value.okWide P W' .any 0 t r) :
    s.post enc P f apart fresh handsOn again W args v W' := by
  have lt : ∀ p ∈ before, p.block < W.heap.size := fun p hp => hW.lt p hp
  have old : ∀ p ∈ before, (fun b => decide (b < W.heap.size)) p.block = true := fun p hp => by simpa using lt p hp
  have kept := Below.frame hb (· ∈ before)
  refine ⟨ds, gs, before, [], pa, pv, hW, hres _ _ _, hargs _ old, hvars _ old, World.keptBut_mono (fun p hp => ⟨hp, ?_⟩) kept, fun _ => ?_⟩
  · rw [hps, List.mem_append] at hp
    exact .inr hp
  · obtain ⟨_, _, _, _, _, hz, hn⟩ := hW
    refine ⟨hok, _, _, ([] ++ pa) ++ pv, ⟨[] ++ pa, pv, trodAll_append (hargs _ (fun _ _ => rfl)) (hres _ _ _), hvars _ (fun _ _ => rfl), rfl, ?_, ?_⟩, ?_⟩
    · intro b off hp
      have mem : MemPlace.cell b off ∈ before := by rw [hps]; simpa using hp
      rw [Below.frozen hb (lt _ mem)]
      exact hz b off mem
    · intro ha
      have := hn ha
      rw [hps] at this
      simpa using this
    · intro p hp _
      rw [hps]
      simpa using hp
end

theorem wf_i64 {x : Int} (h : (Lit.int .i64 x).wf = true) : -9223372036854775808 ≤ x ∧ x ≤ 9223372036854775807 := by
  simp [Lit.wf, IntKind.min, IntKind.max, IntKind.signed, IntKind.bits] at h
  omega
end Go.Proofs.YtckeaibamgkegaaGreatDoor
end
