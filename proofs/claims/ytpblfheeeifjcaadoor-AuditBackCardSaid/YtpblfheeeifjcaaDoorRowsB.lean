/- audit.Rows -/
import Derived.Test.YtpblfheeeifjcaaDoorRowsA
import Derived.Test.YtpblfheeeifjcaaDoorAudQ
set_option linter.all false
namespace Go.Proofs.YtpblfheeeifjcaaDoor
open Go.RowKit
set_option maxRecDepth 100000
attribute [local go_sem] Oper.semAt_some

/-- The rows of the elements so far. -/
def rowsOf (es : List En) (pre : List (AllE es)) : List Rw := pre.flatMap (fun x => rowsE x.1.1 es[x.1])
theorem rowsOf_snoc (es : List En) (pre : List (AllE es)) (x : AllE es) : rowsOf es (pre ++ [x]) = rowsOf es pre ++ rowsE x.1.1 es[x.1] := by unfold rowsOf; rw [List.flatMap_append, List.flatMap_singleton]
theorem rowsOf_all (es : List En) (ys : List (AllE es)) (h : ys.map (·.1) = List.finRange es.length) : rowsOf es ys = rowsL es := by
  have e1 : rowsOf es ys = (ys.map (·.1)).flatMap (fun i => rowsE i.1 es[i]) := by unfold rowsOf; rw [List.flatMap_map]
  rw [e1, h]
  unfold rowsL
  have e2 : es.zipIdx = (List.finRange es.length).map (fun i => (es[i], i.1)) := by
    refine List.ext_getElem (by simp) (fun i h1 h2 => ?_)
    simp
  rw [e2, List.flatMap_map]
theorem rowsOf_len (es : List En) (hew : ∀ y ∈ es, y.ls.length ≤ 20) (pre : List (AllE es)) : (rowsOf es pre).length ≤ 20 * pre.length := by
  induction pre with
  | nil => simp [rowsOf]
  | cons x t ih =>
    have : rowsOf es (x :: t) = rowsE x.1.1 es[x.1] ++ rowsOf es t := by unfold rowsOf; rw [List.flatMap_cons]
    rw [this, List.length_append, rowsE_len, List.length_cons]
    have := hew _ (List.getElem_mem x.1.2)
    simp only [Fin.getElem_fin] at *
    omega
/-- What holds ahead of a round. -/
def rowsI (w : World) (es : List En) (N B : Nat) (pre : List (AllE es)) (W : World) : Prop := (∃ v, RS w N B W v (rowsOf es pre)) ∧ pre.length ≤ es.length
/-- What holds in it. -/
def rowsZ (w : World) (es : List En) (N B : Nat) (A : AllE es → Nat → Act) (pre : List (AllE es)) (x : AllE es) (a : Act) (W : World) : Prop :=
  (∃ v, RS w N B W v (rowsOf es pre)) ∧ pre.length + 1 ≤ es.length ∧ RowT 41 3 lnF W x.2 es[x.1].ls ∧
    ∃ b, a = A x b ∧ W.heap[b]? = some (.cells #[.int .i64 es[x.1].con, .int .i64 es[x.1].day, .int .i64 es[x.1].cur, .int .i64 es[x.1].seq, .int .i64 es[x.1].per, .int .i64 es[x.1].ref, x.2] 34 (0, 0))
theorem turn_block {W W' : World} {row : Option Nat} (hg : W.grownBy W' row) (hr : ∀ r, row = some r → ∃ o : Obj, W.heap[r]? = some o ∧ o.isCells = false) {k : Nat} {cs : Array Value} {t : TypeId} {fr : Nat × Nat} (h : W.heap[k]? = some (.cells cs t fr)) : W'.heap[k]? = some (.cells cs t fr) :=
  (grownBy_keeps_cells hg hr h rfl).trans h
theorem rowsI_own (w : World) (es : List En) (N B M : Nat) (hM : w.heap.size ≤ M) : OwnFrom M (rowsI w es N B) := fun s W W' row hs hg hr => by
  obtain ⟨⟨v, h⟩, h2⟩ := hs
  exact ⟨⟨v, h.turn hg (fun r e => ⟨Nat.le_trans hM (hr r e).1, (hr r e).2⟩)⟩, h2⟩
theorem rowsZ_own (w : World) (es : List En) (N B M : Nat) (A : AllE es → Nat → Act) (hM : w.heap.size ≤ M) (pre : List (AllE es)) (x : AllE es) (a : Act) : OwnFrom M (fun (_ : Unit) W => rowsZ w es N B A pre x a W) := fun s W W' row hs hg hr => by
  obtain ⟨⟨v, h⟩, h2, h3, b, h4, h5⟩ := hs
  exact ⟨⟨v, h.turn hg (fun r e => ⟨Nat.le_trans hM (hr r e).1, (hr r e).2⟩)⟩, h2, h3.blocks hg.size (fun k cs fr e => turn_block hg (fun r e => (hr r e).2) e), b, h4, turn_block hg (fun r e => (hr r e).2) h5⟩

set_option maxHeartbeats 4000000 in
theorem rows_any (q : Nat) (es : List En) (hel : es.length ≤ 200) (hew : ∀ y ∈ es, y.ok) (hew2 : ∀ y ∈ es, y.ls.length ≤ 20) (w : World) (hL : Led w q es) :
    Calls Tryd.prog 9 #[.pointer (some ⟨q, 0, none⟩)] w fun e w' => ∃ v, e = .returned v ∧ RowT 39 9 rwF w' v (rowsL es) ∧ Later w w' := by
  have HAM := Lib.hid (fun W (hl : Later w W) => all_make q es (by omega) W (hL.later hl))
  clear hL
  refine callsIn_wide.1 (callsIn_of_wp_marks (n := 9) Tryd.func9 rfl trivial ?_ rfl)
  simp only [Tryd.ntmps9, List.size_toArray, List.length_cons, List.length_nil, Nat.reduceAdd, Nat.reduceSub, Array.replicate_succ, Array.replicate_zero, List.push_toArray, List.append_toArray, List.nil_append, List.cons_append]
  gi_wp2_with ((first | (refine ⟨trivial, ?_⟩; gi_at_call 22) | (refine ⟨trivial, fun hh => (by cases hh), ?_⟩; gi_at_call 22)); go_must (refine (callsIn_wide.2 (HAM.out _ (by repeat (first | with_reducible exact Later.refl _ | with_reducible assumption | with_reducible refine Later.ofdrew ?_ | with_reducible refine Later.ofdrewN ?_ | with_reducible refine Later.setCell ?_ ?_ _ | with_reducible refine Later.alloc ?_ _ | with_reducible refine Later.drewN ?_ _ | with_reducible refine Later.drew ?_ | (with_reducible refine Later.trans ?_ (by assumption)) | (simp only [World.size_setCell, World.size_alloc, World.heap_drewN]; omega) | (simp; done) | (simp; omega))))).mono ?_; rintro e W0 ⟨Bc, nb, rfl, hBc, hcB, hLn, hb1⟩))
  have hbox : W0.heap[w.heap.size]? = some (.cells #[.slice none 0 0] 27 (0, 0)) := (hb1.block _ (by simp)).trans (heap_alloc_new w _)
  have hl0 : Later w W0 := hb1.un1
  have hne : Bc ≠ w.heap.size := by simp at hBc; omega
  have hz := Later.size hl0
  have hz2 := World.block_lt_of_cell? _ _ hcB
  have hRS : RS w W0.heap.size w.heap.size W0 (.slice none 0 0) [] := ⟨hbox, World.ownsRow_nil _ _ _ _, hl0, Nat.le_refl _, Nat.le_refl _, hz⟩
  refine wpIn_range_V rfl (by omega) (gf := 40) (lb := #[.pointer (some ⟨Bc, 0, none⟩)]) rfl trivial (enters_of Tryd.func40 (by kernel_rfl) rfl)
    (all_seq es (by omega) hew 8 Bc nb w.heap.size W0 hLn hcB hne hbox (by decide) (by decide) (by decide)) Kq.trans (fun W o o' _ _ _ => Kq.put W (by omega) o') (fun _ => rfl)
    (rowsI w es W0.heap.size w.heap.size) (rowsI_own w es _ _ _ hz) ⟨⟨_, hRS⟩, by simp⟩ (rowsZ w es W0.heap.size w.heap.size (fun x b => { tmps := #[.pointer (some ⟨q, 0, none⟩), undef, .slice none 0 0, .pointer (some ⟨w.heap.size, 0, none⟩), .int .i64 (x.1.1 : Int), .pointer (some ⟨b, 0, none⟩), undef, undef, .pointer (some ⟨q, 0, none⟩), .func (.func 40) #[] #[.pointer (some ⟨Bc, 0, none⟩)], .int .i64 (x.1.1 : Int), .agg #[.int .i64 es[x.1].con, .int .i64 es[x.1].day, .int .i64 es[x.1].cur, .int .i64 es[x.1].seq, .int .i64 es[x.1].per, .int .i64 es[x.1].ref, x.2], undef, undef, undef, undef, undef, undef, undef, undef, undef, undef, undef, undef, undef, undef, undef, undef, undef, undef, undef, undef, undef, undef, undef, undef, undef, undef, undef, undef, undef, undef, undef, undef], defers := [] })) (fun pre x a' => rowsZ_own w es _ _ _ _ hz pre x a') ?assign ?body ?done
  case assign =>
    rintro ll pre ⟨⟨i, hi⟩, v⟩ W K ⟨⟨vr, hR⟩, hpl⟩ ⟨hpre, hV⟩ hK
    have hpl2 : pre.length + 1 ≤ es.length := by
      have := hpre.length_le
      simpa using this
    have hvf : ∃ p nn c, v = .slice p nn c := let ⟨p, c, h⟩ := hV.1.form; ⟨p, _, c, h⟩
    obtain ⟨p, nn, c, rfl⟩ := hvf
    have HV := Lib.hid hV
    have HR := Lib.hid hR
    have HK := Lib.hid hK
    clear hR hV hK hpre
    simp only [allArgs, Fin.getElem_fin]
    gi_wp2
    exact HK.out _ _ (KeepsOthers.alloc _ _) (Kq.later HR.out.szN ((Later.refl _).alloc _)) ⟨⟨vr, HR.out.later ((Later.refl _).alloc _)⟩, hpl2, HV.out.later ((Later.refl _).alloc _), W.heap.size, rfl, heap_alloc_new W _⟩
  case body =>
    rintro ll pre ⟨⟨i, hi⟩, v⟩ a' W ⟨⟨vr, hR⟩, hpl, hV, b, rfl, hb⟩
    have hvf : ∃ p nn c, v = .slice p nn c := let ⟨p, c, h⟩ := hV.1.form; ⟨p, _, c, h⟩
    obtain ⟨p, nn, c, rfl⟩ := hvf
    simp only [Fin.getElem_fin] at hV hb ⊢
    have hxl : es[i].ls.length ≤ 20 := hew2 _ (List.getElem_mem hi)
    have hsn : rowsOf es (pre ++ [((⟨i, hi⟩ : Fin es.length), .slice p nn c)]) = rowsOf es pre ++ rowsE i es[i] := rowsOf_snoc _ _ _
    have hrl := rowsOf_len es hew2 pre
    have hsn := Lib.hid hsn
    generalize hrr : rowsOf es pre = rr at *
    replace hrr := Lib.hid hrr
    generalize es[i] = x at *
    obtain ⟨con, day, cur, sq, pr, ref, ls⟩ := x
    simp only at hV hb hxl
    obtain ⟨-, -, hf⟩ : True ∧ True ∧ nn = ls.length := ⟨trivial, trivial, by
      obtain ⟨p2, c2, e⟩ := hV.1.form
      cases e; rfl⟩
    subst hf
    simp only at ⊢
    have hRE : ∀ k (hk : k < ls.length), rowsE i ⟨con, day, cur, sq, pr, ref, ls⟩ = (rowsE i ⟨con, day, cur, sq, pr, ref, ls⟩) := fun _ _ => rfl
    have htk : ∀ k (hk : k < ls.length), (rowsE i ⟨con, day, cur, sq, pr, ref, ls⟩).take (k + 1) = (rowsE i ⟨con, day, cur, sq, pr, ref, ls⟩).take k ++ [⟨i, sq, pr, con, day, ref, (ls[k]).p, (ls[k]).c, (ls[k]).a⟩] := fun k hk => by
      unfold rowsE
      rw [List.take_add_one, List.getElem?_map, List.getElem?_eq_getElem hk]; rfl
    have hlenk : ∀ k, (rr ++ (rowsE i ⟨con, day, cur, sq, pr, ref, ls⟩).take k).length ≤ 100000 := fun k => by
      rw [List.length_append, List.length_take, rowsE_len]
      simp only
      omega
    have HLK := Lib.hid hlenk
    have HTK := Lib.hid htk
    have hall : (rowsE i ⟨con, day, cur, sq, pr, ref, ls⟩).take ls.length = rowsE i ⟨con, day, cur, sq, pr, ref, ls⟩ := List.take_of_length_le (by rw [rowsE_len]; exact Nat.le_refl _)
    have HALL := Lib.hid hall
    clear hRE htk hlenk hall hrl
    obtain ⟨rs, hrs⟩ : ∃ rs, rowsE i ⟨con, day, cur, sq, pr, ref, ls⟩ = rs := ⟨_, rfl⟩
    rw [hrs] at hsn HLK HTK HALL
    clear hrs
    have hOw : ∀ U : World, U.heap[b]? = some (.cells #[.int .i64 con, .int .i64 day, .int .i64 cur, .int .i64 sq, .int .i64 pr, .int .i64 ref, .slice p ls.length c] 34 (0, 0)) → ∀ k, U.cell? ⟨b, k, none⟩ = #[.int .i64 con, .int .i64 day, .int .i64 cur, .int .i64 sq, .int .i64 pr, .int .i64 ref, .slice p ls.length c][k]? := fun U hU k => by simp [World.cell?, hU]
    have HOW := Lib.hid hOw
    have d0 := hOw W hb
    have zb := (Array.getElem?_eq_some_iff.1 hb).1
    have HB0 := Lib.hid hb
    have HV0 := Lib.hid hV
    have HR0 := Lib.hid hR
    clear hb hV hR hOw
    gi_wp2
    gi_loopw [15] (fun s15 wr => ∃ k : Nat, k ≤ ls.length ∧ s15 = .int .i64 k ∧ ∃ vk, Hid (RS w W0.heap.size w.heap.size wr vk (rr ++ rs.take k)) ∧ Hid (RowT 41 3 lnF wr (.slice p ls.length c) ls) ∧ Hid (wr.heap[b]? = some (.cells #[.int .i64 con, .int .i64 day, .int .i64 cur, .int .i64 sq, .int .i64 pr, .int .i64 ref, .slice p ls.length c] 34 (0, 0))) ∧ Hid (KeepsOthers W wr) ∧ Hid (Kq W0.heap.size w.heap.size W wr)) (fun s15 _ => ls.length - (intOf s15).toNat)
    case atStart => exact ⟨0, Nat.zero_le _, rfl, vr, Lib.hid (by simpa using HR0.out), HV0, HB0, Lib.hid (KeepsOthers.refl W), Lib.hid ⟨rfl, rfl, rfl, Nat.le_refl _, fun _ _ _ => rfl⟩⟩
    case round =>
      obtain ⟨k, hk, rfl, vk, hRk, hVk, hBk, hKO, hKq⟩ := hrel
      clear d0 zb HB0 HV0 HR0
      have d0 := HOW.out wr hBk.out
      have zb := (Array.getElem?_eq_some_iff.1 hBk.out).1
      obtain ⟨⟨zo, co, fo⟩, -⟩ := hRk.out.own
      by_cases hlt : k < ls.length
      · obtain ⟨gb, o, cp', hv, hgb, g⟩ := hVk.out.1.full (i := k) hlt
        cases hv
        have g0 := g 0 (by omega)
        have g1 := g 1 (by omega)
        have g2 := g 2 (by omega)
        simp only [lnF, Nat.add_zero] at g0 g1 g2
        have HT1 := Lib.hid (HTK.out k hlt)
        have HL1 := Lib.hid (HLK.out k)
        clear g HTK HLK HALL
        generalize ls[k] = y at *
        obtain ⟨x0, x1, x2⟩ := y
        simp only at g0 g1 g2 HT1
        obtain ⟨l, hl⟩ : ∃ l, rr ++ rs.take k = l := ⟨_, rfl⟩
        have HT2 : Hid (rr ++ rs.take (k + 1) = l ++ [⟨i, sq, pr, con, day, ref, x0, x1, x2⟩]) := Lib.hid (by rw [HT1.out, ← List.append_assoc, hl])
        rw [hl] at hRk HL1
        clear hl HT1
        obtain ⟨pv, cv, rfl⟩ := ownsRow_form_ hRk.out.row
        have hll := HL1.out
        have HRW := Lib.hid (fun U (hl : Later wr U) => (hRk.out.later hl))
        gi_wp2_with (first | refine wpListIn_built (rw_build _ _ _ _ _ _ _ _ _ _) rfl rfl rfl ?_ | (gi_at_builtin; go_must (refine wpListIn_pushB sliceRw (HRW.out _ (by repeat (first | with_reducible exact Later.refl _ | with_reducible assumption | with_reducible refine Later.ofdrew ?_ | with_reducible refine Later.ofdrewN ?_ | with_reducible refine Later.setCell ?_ ?_ _ | with_reducible refine Later.alloc ?_ _ | with_reducible refine Later.drewN ?_ _ | with_reducible refine Later.drew ?_ | (with_reducible refine Later.trans ?_ (by assumption)) | (simp only [World.size_setCell, World.size_alloc, World.heap_drewN]; omega) | (simp; done) | (simp; omega)))).row (HRW.out _ (by repeat (first | with_reducible exact Later.refl _ | with_reducible assumption | with_reducible refine Later.ofdrew ?_ | with_reducible refine Later.ofdrewN ?_ | with_reducible refine Later.setCell ?_ ?_ _ | with_reducible refine Later.alloc ?_ _ | with_reducible refine Later.drewN ?_ _ | with_reducible refine Later.drew ?_ | (with_reducible refine Later.trans ?_ (by assumption)) | (simp only [World.size_setCell, World.size_alloc, World.heap_drewN]; omega) | (simp; done) | (simp; omega)))).szN rfl _ _ rfl rfl 1 _ rfl (by simp) rfl (by simp [Value.oneCell']) (by omega) (by unfold maxLen; omega) ?_; intro v9 w9 hM9 hg9; obtain ⟨p9, cp9, rfl⟩ := ownsRow_form_ hM9; have hP := (HRW.out _ (show Later wr (((wr.alloc _).alloc _)) from ((Later.refl _).alloc _).alloc _)).push (x := ⟨i, sq, pr, con, day, ref, x0, x1, x2⟩) hg9 hM9; obtain ⟨hbx, hRS9, hKO9, hKq9, hbl9⟩ := hP; have cb9 : w9.cell? ⟨w.heap.size, 0, none⟩ = some (.slice pv l.length cv) := (by simp [World.cell?, hbx]); have fb9 := frozen_of_row w9 w.heap.size 0 _ _ hbx; have hz9 := (Array.getElem?_eq_some_iff.1 hbx).1; have HS9 := Lib.hid (And.intro hRS9 (And.intro hKO9 (And.intro hKq9 hbl9))); clear hRS9 hKO9 hKq9 hbl9 hbx hM9 hg9)))
        have hU : Later wr ((wr.alloc (.cells #[.int .i64 x0, .int .i64 x1, .int .i64 x2] 41)).alloc (.cells #[.int .i64 (i : Int), .int .i64 sq, .int .i64 pr, .int .i64 con, .int .i64 day, .int .i64 ref, .int .i64 x0, .int .i64 x1, .int .i64 x2] 39)) := ((Later.refl _).alloc _).alloc _
        obtain ⟨hRS9, hKO9, hKq9, hbl9⟩ := HS9.out
        refine ⟨⟨k + 1, by omega, by simp, _, Lib.hid (by rw [HT2.out]; exact hRS9), Lib.hid ?_, Lib.hid ?_, Lib.hid ?_, Lib.hid ?_⟩, by simp [intOf]; omega⟩
        · exact (hVk.out.later hU).blocks hKO9.size (fun k cs fr e => hbl9 k cs _ fr e (by decide) (by decide))
        · exact hbl9 b _ _ _ ((hU.block b zb).trans hBk.out) (by decide) (by decide)
        · exact (hKO.out.trans (keepsOthers_later hU)).trans hKO9
        · exact (hKq.out.trans (Kq.later hRk.out.szN hU)).trans hKq9
      · have hkl : Hid (k = ls.length) := Lib.hid (by omega)
        have HF : Hid (rowsI w es W0.heap.size w.heap.size (pre ++ [((⟨i, hi⟩ : Fin es.length), .slice p ls.length c)]) wr) := Lib.hid ⟨⟨vk, by rw [hsn.out, ← HALL.out, ← hkl.out]; exact hRk.out⟩, by rw [List.length_append, List.length_singleton]; exact hpl⟩
        clear d0 zb co fo zo
        gi_wp2
        exact ⟨hKO.out, hKq.out, HF.out⟩
  case done =>
    rintro D ys W hD hS ⟨⟨v, hR⟩, -⟩ hK
    have hR1 : RS w W0.heap.size w.heap.size (W.putObj D (.deferred none)) v (rowsL es) := by
      rw [← rowsOf_all es ys hS]
      exact hR.turn (grownBy_putObj' W D _) (fun r e => by cases e; exact ⟨by omega, _, hK, rfl⟩)
    have HR1 := Lib.hid hR1
    obtain ⟨p, c, rfl⟩ := ownsRow_form_ hR.row
    obtain ⟨⟨zo, co, fo⟩, -⟩ := hR.own
    clear hR hR1 HAM hbox hRS hLn hcB
    gi_wp2
    refine ⟨by simp, .inl ⟨_, _, rfl, run_takeDeferred hK, ?_⟩⟩
    exact ⟨_, results_tmp rfl _ _ _, _, rfl, rowT_owns rwCs rwCs_len rwCs_cell (by decide) HR1.out.row, HR1.out.low⟩

end Go.Proofs.YtpblfheeeifjcaaDoor
