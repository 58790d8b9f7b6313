/- ledger.All: the iterator over books -/
import Derived.Test.YtpblfheeeifjcaaDoorLedE
import Derived.Test.YtpblfheeeifjcaaDoorRoundV
set_option linter.all false
namespace Go.Proofs.YtpblfheeeifjcaaDoor
open Go.RowKit
set_option maxRecDepth 100000
attribute [local go_sem] Oper.semAt_some

/-- What a round keeps: all that lay below N, but for one block. -/
structure Kq (N b : Nat) (U U' : World) : Prop where
  os : U'.os = U.os
  tape : U'.tape = U.tape
  output : U'.output = U.output
  size : U.heap.size ≤ U'.heap.size
  block : ∀ k, k < N → k ≠ b → U'.heap[k]? = U.heap[k]?
theorem Kq.trans {N b : Nat} {A B C : World} (h : Kq N b A B) (k : Kq N b B C) : Kq N b A C :=
  ⟨k.os.trans h.os, k.tape.trans h.tape, k.output.trans h.output, Nat.le_trans h.size k.size, fun i hi hb => (k.block i hi hb).trans (h.block i hi hb)⟩
theorem Kq.later {N b : Nat} {A B : World} (hN : N ≤ A.heap.size) (h : Later A B) : Kq N b A B := ⟨h.os, h.tape, h.output, h.size, fun k hk _ => h.block k (Nat.lt_of_lt_of_le hk hN)⟩
theorem Kq.grown {b : Nat} {A B C : World} (h : A.grownBy B (some b)) (k : Kq A.heap.size b B C) : A.grownBy C (some b) :=
  ⟨k.os.trans h.os, k.tape.trans h.tape, k.output.trans h.output, Nat.le_trans h.size k.size, fun i hi hb => (k.block i hi (fun e => hb (by rw [e]))).trans (h.block i hi hb)⟩
theorem Kq.put {N b : Nat} (W : World) {l : Nat} (hl : N ≤ l) (o' : Obj) : Kq N b W (W.putObj l o') :=
  ⟨rfl, rfl, rfl, by simp [World.putObj], fun k hk _ => World.putObj_heap_other (by omega)⟩
theorem Led.grown {w w' : World} {q : Nat} {es : List En} (h : Led w q es) {b : Nat} (hg : w.grownBy w' (some b)) {cs : Array Value} {t : TypeId} {fr : Nat × Nat} (hb : w.heap[b]? = some (.cells cs t fr)) (h1 : t ≠ 65) (h2 : t ≠ 34) (h3 : t ≠ 41) : Led w' q es := by
  obtain ⟨v, m, hbk, hrow, hby⟩ := h
  refine ⟨v, m, (hg.block q hbk.lt (fun e => ?_)).trans hbk, hrow.grown hg (fun cs fr e => ?_) (fun cs fr e => ?_), MapL.kept hby hg (fun e => ?_)⟩
  · cases e; unfold LedBk at hbk; rw [hb] at hbk; cases hbk; exact h1 rfl
  · rw [hb] at e; cases e; exact h3 rfl
  · rw [hb] at e; cases e; exact h2 rfl
  · cases e; obtain ⟨es, c, hm⟩ := NxAt.isMap hby; rw [hb] at hm; cases hm
/-- An element of All: which entry, and where its lines lie. -/
abbrev AllE (es : List En) : Type := Fin es.length × Value
def allArgs (es : List En) (x : AllE es) : Array Value := #[.int .i64 (x.1.1 : Int), .agg #[.int .i64 es[x.1].con, .int .i64 es[x.1].day, .int .i64 es[x.1].cur, .int .i64 es[x.1].seq, .int .i64 es[x.1].per, .int .i64 es[x.1].ref, x.2]]
def allV (es : List En) (pre : List (AllE es)) (x : AllE es) (W : World) : Prop := pre.map (·.1) ++ [x.1] <+: List.finRange es.length ∧ RowT 41 3 lnF W x.2 es[x.1].ls


set_option maxHeartbeats 2000000 in
theorem all_seq (es : List En) (hel : es.length ≤ 100000) (hew : ∀ y ∈ es, y.ok) (n Bc nb b : Nat) (w0 : World) (hL : Led w0 nb es) (hc : w0.cell? ⟨Bc, 0, none⟩ = some (.pointer (some ⟨nb, 0, none⟩))) (hbc : Bc ≠ b) {cs : Array Value} {t : TypeId} {fr : Nat × Nat} (hb : w0.heap[b]? = some (.cells cs t fr)) (h1 : t ≠ 65) (h2 : t ≠ 34) (h3 : t ≠ 41) :
    SeqV Fence.wide n Tryd.prog 40 #[.pointer (some ⟨Bc, 0, none⟩)] (allArgs es) (Kq w0.heap.size b) (allV es) (fun ys => ys.map (·.1) = List.finRange es.length) w0 := by
  intro ll J W hW hJ hY h0
  have HJ := Lib.hid hJ
  have HY := Lib.hid hY
  have hBc := World.block_lt_of_cell? _ _ hc
  have HLG := Lib.hid (fun W (hg : w0.grownBy W (some b)) => hL.grown hg hb h1 h2 h3)
  have HCG := Lib.hid (fun W (hg : w0.grownBy W (some b)) => (World.cell?_of_block (a := ⟨Bc, 0, none⟩) (hg.block Bc hBc (fun e => hbc (by cases e; rfl)))).trans hc)
  have HLEN := Lib.hid (fun W (h : Led W nb es) => len_any nb es hel W h)
  have HENT := Lib.hid (fun (j : Nat) (hj : j < es.length) W (h : Led W nb es) => entry_any j es[j] nb es hel W h (List.getElem?_eq_getElem hj) (hew _ (List.getElem_mem hj)).2.2.2.2.2.2.2)
  have hG : w0.grownBy W (some b) := grown_later hW _
  have hLW := Lib.hid (HLG.out W hG)
  have hcW := HCG.out W hG
  have hzW := World.block_lt_of_cell? _ _ hcW
  clear hJ hY hL hc h1 h2 h3
  refine callsIn_of_wp Tryd.func40 rfl trivial ?_ rfl
  simp only [Tryd.ntmps40, List.size_toArray, List.length_cons, List.length_nil, Nat.reduceAdd, Nat.reduceSub, Array.replicate_succ, Array.replicate_zero, List.push_toArray, List.append_toArray, List.nil_append, List.cons_append]
  gi_wp2_with ((first | (refine ⟨trivial, ?_⟩; gi_at_call 10) | (refine ⟨trivial, fun hh => (by cases hh), ?_⟩; gi_at_call 10)); go_must (refine (callsIn_wide.2 (HLEN.out _ hLW.out)).mono ?_; rintro e w1 ⟨rfl, hb1⟩))
  have hG1 := Lib.hid (grown_trans hG (grown_later hb1 _))
  have hJ1 := abides_later HJ.out h0 hb1
  clear hb1 h0 hLW hcW hzW hG hW
  gi_loopw [8] (fun s8 wr => ∃ j : Nat, j ≤ es.length ∧ s8 = .int .i64 j ∧ Hid (∃ pre, pre.map (·.1) = (List.finRange es.length).take j ∧ J pre wr) ∧ Hid (w0.grownBy wr (some b))) (fun s8 _ => es.length - (intOf s8).toNat)
  case atStart => exact ⟨0, Nat.zero_le _, rfl, Lib.hid ⟨[], by simp, hJ1⟩, hG1⟩
  case round =>
    obtain ⟨j, hj, rfl, hpre, hGr⟩ := hrel
    clear hG1 hJ1
    have hcr := HCG.out wr hGr.out
    have hzr := World.block_lt_of_cell? _ _ hcr
    have hLr := Lib.hid (HLG.out wr hGr.out)
    by_cases hlt : j < es.length
    · have HEJ := Lib.hid (HENT.out j hlt)
      obtain ⟨pre, hpm, hJp⟩ := hpre.out
      have hJp := Lib.hid hJp
      have htk : (List.finRange es.length).take j ++ [(⟨j, hlt⟩ : Fin es.length)] = (List.finRange es.length).take (j + 1) := by
        rw [List.take_succ_eq_append_getElem (by simpa using hlt)]; simp
      have hpm := Lib.hid hpm
      have HVX := Lib.hid (fun (v : Value) (W : World) (hv : RowT 41 3 lnF W v es[j].ls) => (⟨by rw [hpm.out, htk]; exact List.take_prefix _ _, hv⟩ : allV es pre (⟨j, hlt⟩, v) W))
      have HYX := Lib.hid (fun (v : Value) (W : World) => HY.out pre (⟨j, hlt⟩, v) W)
      have hARG : ∀ v, allArgs es (⟨j, hlt⟩, v) = #[.int .i64 (j : Int), .agg #[.int .i64 es[j].con, .int .i64 es[j].day, .int .i64 es[j].cur, .int .i64 es[j].seq, .int .i64 es[j].per, .int .i64 es[j].ref, v]] := fun v => rfl
      simp only [hARG] at HYX
      generalize es[j] = x at *
      obtain ⟨con, day, cur, sq, pr, ref, ls⟩ := x
      simp only at HEJ HYX HVX
      clear hARG hpre HLEN HENT HCG
      gi_wp2_with ((first | (refine ⟨trivial, ?_⟩; gi_at_call 11) | (refine ⟨trivial, fun hh => (by cases hh), ?_⟩; gi_at_call 11)); go_must (refine (callsIn_wide.2 (HEJ.out _ hLr.out)).mono ?_; rintro e w2 ⟨v2, rfl, hR2, -, hb2⟩; obtain ⟨p2, cp2, rfl⟩ := hR2.1.form; have hl3 : Later wr (w2.alloc (.cells #[.int .i64 con, .int .i64 day, .int .i64 cur, .int .i64 sq, .int .i64 pr, .int .i64 ref, .slice p2 ls.length cp2] 34)) := hb2.alloc _; obtain ⟨fn', tmps', assign', body', hy, hR⟩ := HYX.out _ _ (abides_later HJ.out hJp.out hl3) (HVX.out _ _ (hR2.later ((Later.refl _).alloc _))); clear hR2))
      refine ⟨fun hh => (by cases hh), hR.mono ?_⟩
      rintro e W3 ⟨rfl, hJ3, hk3⟩
      have hG3 := Lib.hid (Kq.grown (grown_trans hGr.out (grown_later hl3 _)) hk3)
      have hJ3 := Lib.hid hJ3
      clear hR hk3 hy hl3 hb2 hcr hzr
      gi_wp2
      go_roundw
      case rel => exact ⟨j + 1, by omega, by go_num, Lib.hid ⟨pre ++ [(⟨j, hlt⟩, _)], by rw [List.map_append, hpm.out]; exact htk, hJ3.out⟩, hG3⟩
      case measure => simp [intOf]; omega
    · have hend : Hid (∃ ys : List (AllE es), ys.map (·.1) = List.finRange es.length ∧ J ys wr) := Lib.hid (by
        obtain ⟨pre, h1, h2⟩ := hpre.out
        exact ⟨pre, by rw [h1, List.take_of_length_le (by simp; omega)], h2⟩)
      clear hpre hcr hzr
      gi_wp2
      go_end0
      exact ⟨⟨_, rfl⟩, hend.out⟩


set_option maxHeartbeats 800000 in
theorem all_make (q : Nat) (es : List En) (hel : es.length ≤ 100000) (w : World) (hL : Led w q es) :
    Calls Tryd.prog 22 #[.pointer (some ⟨q, 0, none⟩)] w fun e w' => ∃ Bc nb, e = .returned (.func (.func 40) #[] #[.pointer (some ⟨Bc, 0, none⟩)]) ∧ w.heap.size ≤ Bc ∧ w'.cell? ⟨Bc, 0, none⟩ = some (.pointer (some ⟨nb, 0, none⟩)) ∧ Led w' nb es ∧ Later w w' := by
  have hmf : ∀ (fn : Fn) (first cap : Array Value) (w : World), (Instr.makeFunc fn first cap).run Tryd.prog w = .ok (.func fn first cap) w := fun _ _ _ _ => rfl
  have HC := Lib.hid (copy_any q es hel w hL)
  clear hL
  go_enter Tryd.func22, Tryd.ntmps22
  go_wp2_with (go_at_call 33; go_must (refine HC.out.mono ?_; rintro e w1 ⟨nb, rfl, hC1, hb1⟩; have hL1 := Lib.hid hC1.led; clear hC1 HC))
  go_ret
  refine ⟨_, nb, rfl, Later.size hb1, ?_, hL1.out.later ((Later.refl _).alloc _), by repeat (first | with_reducible exact Later.refl _ | with_reducible assumption | with_reducible refine Later.ofdrew ?_ | with_reducible refine Later.ofdrewN ?_ | with_reducible refine Later.setCell ?_ ?_ _ | with_reducible refine Later.alloc ?_ _ | with_reducible refine Later.drewN ?_ _ | with_reducible refine Later.drew ?_ | (with_reducible refine Later.trans ?_ (by assumption)) | (simp only [World.size_setCell, World.size_alloc, World.heap_drewN]; omega) | (simp; done) | (simp; omega))⟩
  exact (own_get (own_alloc w1 #[.pointer (some ⟨nb, 0, none⟩)] 25)).2.1 0
end Go.Proofs.YtpblfheeeifjcaaDoor
