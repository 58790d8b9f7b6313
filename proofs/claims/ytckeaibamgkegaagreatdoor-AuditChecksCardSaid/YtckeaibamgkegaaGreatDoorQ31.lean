/- the arguments of AuditChecks, opened -/
import Derived.Test.YtckeaibamgkegaaGreatDoorQ30
import Derived.Test.YtckeaibamgkegaaGreatDoorRows
import Derived.ProofKit
import Derived.LaidMore
import Derived.OpenShut
import Derived.LaidByTextLater
import Derived.Lib.LaidTab
import Derived.Stop.LaidErr
import Derived.Test.YtckeaibamgkegaaGreatDoorQ3
import Derived.ReadAgain
import Derived.Deep.Slices
import Derived.Test.YtckeaibamgkegaaGreatDoorQ4
set_option linter.all false
set_option linter.all false
section
/- what the row of AuditChecks lists, laid: the table of rules, the table of powers of ten -/
namespace Go.Proofs.YtckeaibamgkegaaGreatDoor
open Go.ChangeShapes Go.WideShapes Go.ChangeAt Go.RowKit

abbrev laidA : List (String × DataW Unit) := Rows.auditChecksRow.laid
def nameA (k : Nat) : String := ((Rows.auditChecksRow.laid.drop k).head?.map (·.1)).getD ""
def plainA : List (String × DataW Unit) := Rows.auditChecksRow.laid.filter fun x => x.2.handleName?.isNone
theorem plain_of_laidA {W : World} (h : laidMetH Tryz.prog laidA W) : laidMet Tryz.prog plainA W := by
  unfold laidMetH at h
  split at h
  · rename_i h0
    exact absurd h0 (by decide +kernel)
  · exact h.1
theorem tab_plain : plainA = [(nameA 0, Rows.laid_math_bits_deBruijn32tab), (nameA 1, Rows.laid_math_bits_deBruijn64tab), (nameA 2, Rows.laid_internal_strconv_uint64pow10)] := by rfl
theorem pow_of_laidA {W : World} (h : laidMetH Tryz.prog laidA W) : PowTab W := by
  have h1 := plain_of_laidA h
  rw [tab_plain] at h1
  have h2 := h1.tail.tail
  exact Lib.tabIs_of_head (zs := Lib.pow10Tab) (k := .u64) (t := 151) (e := 126) (n := 20) (g := 1) (by kernel_rfl) (by kernel_rfl) Tryz.underlying151 Tryz.underlying126 (by kernel_rfl) (by kernel_rfl) h2

section
variable {W : World} {sp : Nat → Bool}
theorem rule_of_trod {n : Nat} {cs : List Value} {y : DataW (List UInt8) × List MemPlace} {b : UInt8} {r : List UInt8} {e : Int} {f : FuncId}
    (hone : ((List.range Tryz.prog.funcs.size).filter fun f => (Tryz.prog.funcs[f]?).any (·.name.toUTF8.data.toList == b :: r)) = [f])
    (h : DataW.trod (funcToken Tryz.prog) Tryz.prog W 0 sp true n 137 cs = some y) (hy : y.1 = .agg [.held (b :: r), .lit (.int .i64 e)]) :
    cs = [.func (.func f) #[] #[], .int .i64 e] := by
  obtain ⟨xs, m, _, hx, hl, hlen, hf⟩ := DataW.trod_struct Tryz.underlying137 h
  have c0 : Tryz.prog.cellsOf 137 = 2 := by kernel_rfl
  have c1 : Tryz.prog.cellsOf 136 = 1 := by kernel_rfl
  have c2 : Tryz.prog.cellsOf 27 = 1 := by kernel_rfl
  have hlen : xs.length = 2 := hlen
  have f0 : DataW.trod (funcToken Tryz.prog) Tryz.prog W 0 sp true m 136 ((cs.drop 0).take (Tryz.prog.cellsOf 136)) = xs[0]? := hf 0 _ rfl
  have f1 : DataW.trod (funcToken Tryz.prog) Tryz.prog W 0 sp true m 27 ((cs.drop 1).take (Tryz.prog.cellsOf 27)) = xs[1]? := hf 1 _ rfl
  clear hf h
  rw [c1] at f0
  rw [c2] at f1
  rw [c0] at hl
  obtain ⟨a, d, rfl⟩ : ∃ a b, cs = [a, b] := by match cs, hl with | [a, b], _ => exact ⟨a, b, rfl⟩
  obtain ⟨y0, y1, rfl⟩ : ∃ a b, xs = [a, b] := by match xs, hlen with | [a, b], _ => exact ⟨a, b, rfl⟩
  subst hx
  simp only [List.map_cons, List.map_nil, DataW.agg.injEq, List.cons.injEq, and_true] at hy
  obtain ⟨h0, h1⟩ := hy
  obtain ⟨z1, a1, b1, _⟩ := DataW.trod_int Tryz.underlying27 (x := y1) f1
  obtain ⟨d0, q0⟩ := y0
  simp only at h0
  subst h0
  obtain rfl := func_of_trod (f0 := f) Tryz.underlying136 hone f0
  subst b1
  simp at a1 h1
  subst a1 h1
  rfl
end
theorem some_of_lt_ {α : Type} {xs : List α} {i : Nat} (h : i < xs.length) : ∃ y, xs[i]? = some y := ⟨_, List.getElem?_eq_getElem h⟩
theorem rules_of_laidA {W : World} (h : laidMetH Tryz.prog laidA W) : RulesAt W := by
  obtain ⟨g, t, cs, fuel, p, hg, ht, hv, hd⟩ := h.funcs (n := nameA 3) (d := match (Rows.laid_chattel_entry_rules (H := Unit)) with | .iface _ d => d | d => d) (List.mem_of_getElem? (i := 3) rfl)
  obtain rfl := Option.some.inj ((show Tryz.prog.globalNamed (nameA 3) = some 0 by kernel_rfl).symm.trans hg)
  obtain rfl := Option.some.inj ((show (Tryz.prog.globals[0]?).map (·.type) = some 138 by kernel_rfl).symm.trans ht)
  obtain ⟨xs, m, _, ex, hlen, hl, hel⟩ := DataW.trod_array Tryz.underlying138 hd
  have c1 : Tryz.prog.cellsOf 137 = 2 := by kernel_rfl
  have c0 : Tryz.prog.cellsOf 138 = 10 := by kernel_rfl
  rw [c0] at hlen
  simp only [c1] at hel
  have e1 : _ = xs.map (·.1) := DataW.agg.inj (Prod.mk.inj ex).1
  obtain ⟨y0, y1, y2, y3, y4, rfl⟩ : ∃ a b c d e, xs = [a, b, c, d, e] := by match xs, hl with | [a, b, c, d, e], _ => exact ⟨a, b, c, d, e, rfl⟩
  have h0 := hel 0 (by omega)
  have h1 := hel 1 (by omega)
  have h2 := hel 2 (by omega)
  have h3 := hel 3 (by omega)
  have h4 := hel 4 (by omega)
  clear hel hl ex hd h
  have r0 := rule_of_trod (f := 121) (by kernel_rfl) (y := y0) h0 (List.cons.inj e1).1.symm
  have r1 := rule_of_trod (f := 122) (by kernel_rfl) (y := y1) h1 (List.cons.inj (List.cons.inj e1).2).1.symm
  have r2 := rule_of_trod (f := 123) (by kernel_rfl) (y := y2) h2 (List.cons.inj (List.cons.inj (List.cons.inj e1).2).2).1.symm
  have r3 := rule_of_trod (f := 124) (by kernel_rfl) (y := y3) h3 (List.cons.inj (List.cons.inj (List.cons.inj (List.cons.inj e1).2).2).2).1.symm
  have r4 := rule_of_trod (f := 117) (by kernel_rfl) (y := y4) h4 (List.cons.inj (List.cons.inj (List.cons.inj (List.cons.inj (List.cons.inj e1).2).2).2).2).1.symm
  have hcs : cs = rulesA := by
    obtain ⟨l⟩ := cs
    simp only at hlen r0 r1 r2 r3 r4
    obtain ⟨a0, a1, a2, a3, a4, a5, a6, a7, a8, a9, rfl⟩ : ∃ a0 a1 a2 a3 a4 a5 a6 a7 a8 a9, l = [a0, a1, a2, a3, a4, a5, a6, a7, a8, a9] := by
      match l, hlen with | [a0, a1, a2, a3, a4, a5, a6, a7, a8, a9], _ => exact ⟨a0, a1, a2, a3, a4, a5, a6, a7, a8, a9, rfl⟩
    simp at r0 r1 r2 r3 r4
    unfold rulesA
    rw [r0.1, r0.2, r1.1, r1.2, r2.1, r2.2, r3.1, r3.2, r4.1, r4.2]
  subst hcs
  unfold World.var? at hv
  rw [hg] at hv
  simp only [Option.bind_some] at hv
  unfold RulesAt
  cases hh : W.heap[0]? with
  | none => rw [hh] at hv; cases hv
  | some o =>
    rw [hh] at hv
    cases o with
    | cells c t fr => simp only [Option.some.injEq] at hv; exact ⟨t, fr, by rw [hv]⟩
    | _ => cases hv
end Go.Proofs.YtckeaibamgkegaaGreatDoor
end
section
/- the arguments of a law, opened and read again: words that hang on no struct -/
namespace Go.Proofs.YtckeaibamgkegaaGreatDoor
open Go.ChangeShapes Go.WideShapes Go.ChangeAt Go.RowKit

section
variable {H : Type} {enc : TypeId × Value → H} {W : World} {r : Reach} {base : Nat} {sp : Nat → Bool} {held : Bool}
theorem rd_row {P : Program} {α : Type} {sz : Nat} {f : α → Nat → Value} {ok : α → Prop} {t e : TypeId} {fuel : Nat} {v : Value} {x : DataW H × List MemPlace} (hsz : 0 < sz) (ht : P.underlying t = some (.slice e)) (hc : P.cellsOf e = sz)
    (hel : ∀ n cs d, DataW.trod enc P W 0 (fun _ => true) held n e cs = some d → ∃ y : α, ok y ∧ ∀ j, j < sz → cs[j]? = some (f y j))
    (h : DataW.trod enc P W 0 (fun _ => true) held fuel t [v] = some x) : ∃ xs, IsRow sz f W v xs ∧ ∀ y ∈ xs, ok y := by
  rcases Deep.open_slice ht h with ⟨h0, _⟩ | ⟨a, len, cap, m, n, D, Pl, h0, hb, hl, hm, hmm, _, hx⟩
  · simp only [List.cons.injEq, and_true] at h0
    exact ⟨[], .inl ⟨⟨none, h0⟩, rfl⟩, by simp⟩
  · simp only [List.cons.injEq, and_true] at h0
    subst h0
    rw [if_pos rfl] at hmm
    subst hmm
    rcases Nat.eq_zero_or_pos m with hm0 | hm0
    · subst hm0
      have : len = 0 := by omega
      subst this
      exact ⟨[], .inl ⟨⟨some a, rfl⟩, rfl⟩, by simp⟩
    · have h00 : W.cell? a = none ∨ ∃ u, W.cell? a = some u := by cases W.cell? a with | none => exact .inl rfl | some u => exact .inr ⟨u, rfl⟩
      obtain ⟨u, hu⟩ : ∃ u, W.cell? a = some u := by
        obtain ⟨cs, h1, h2⟩ := hx 0 hm0
        obtain ⟨y, _, h4⟩ := hel _ _ _ h2
        rw [hc, Nat.zero_mul] at h1
        obtain ⟨_, h5, h6⟩ := World.cells?_some h1
        have h7 := h6 0 hsz
        rw [h4 0 hsz] at h7
        have e : (a.add 0).add 0 = a := by obtain ⟨b, o, s⟩ := a; cases s <;> simp [Addr.add]
        rw [e] at h7
        exact ⟨_, h7⟩
      have hs := World.cell?_spot hu
      have hlt := World.block_lt_of_cell? _ _ hu
      obtain ⟨b, o, s⟩ := a
      simp only at hs hlt
      subst hs
      have key : ∀ i : Fin len, ∃ y : α, ok y ∧ ∀ j, j < sz → W.cell? ⟨b, o + i.1 * sz + j, none⟩ = some (f y j) := by
        intro i
        obtain ⟨cs, h1, h2⟩ := hx i.1 (Nat.lt_of_lt_of_le i.2 hl)
        obtain ⟨y, h3, h4⟩ := hel _ _ _ h2
        refine ⟨y, h3, fun j hj => ?_⟩
        rw [hc, add_plain] at h1
        obtain ⟨_, h5, h6⟩ := World.cells?_some h1
        have := h6 j hj
        rw [add_plain] at this
        rw [this]
        exact h4 j hj
      obtain ⟨g, hg⟩ := Classical.axiomOfChoice key
      refine ⟨List.ofFn g, .inr ⟨b, o, m, by rw [List.length_ofFn], hlt, by rw [List.length_ofFn]; exact hl, hm, fun i hi j hj => ?_⟩, fun y hy => ?_⟩
      · rw [List.getElem_ofFn]
        exact (hg ⟨i, by simpa using hi⟩).2 j hj
      · obtain ⟨i, rfl⟩ := List.mem_ofFn.1 hy
        exact (hg i).1
theorem rd_int {t : TypeId} {n : Nat} {cs : List Value} {y : DataW H × List MemPlace} (ht : Tryz.prog.underlying t = some (.int .i64)) (h : DataW.trod enc Tryz.prog W 0 sp held n t cs = some y) : ∃ a, cs = [.int .i64 a] ∧ I64 a := by
  obtain ⟨a, h1, _, h2⟩ := DataW.trod_int ht h
  exact ⟨a, h1, wf_i64 h2⟩
theorem rd_some {α : Type} {xs : List α} {i : Nat} (h : i < xs.length) : ∃ y, xs[i]? = some y := ⟨_, List.getElem?_eq_getElem h⟩
theorem rd_3 {α : Type} {l : List α} (h : l.length = 3) : ∃ a b c, l = [a, b, c] := by match l, h with | [a, b, c], _ => exact ⟨a, b, c, rfl⟩
theorem rd_4 {α : Type} {l : List α} (h : l.length = 4) : ∃ a b c d, l = [a, b, c, d] := by match l, h with | [a, b, c, d], _ => exact ⟨a, b, c, d, rfl⟩
theorem rd_7 {α : Type} {l : List α} (h : l.length = 7) : ∃ a b c d e f g, l = [a, b, c, d, e, f, g] := by match l, h with | [a, b, c, d, e, f, g], _ => exact ⟨a, b, c, d, e, f, g, rfl⟩

/-! Read again behind the call. -/
theorem rd_kids : Kids Tryz.prog (· < Tryz.prog.types.size) := kids_rows (by kernel_rfl) (by kernel_rfl)
theorem rd_full : ∀ t e, t < Tryz.prog.types.size → Tryz.prog.underlying t = some (.slice e) → 0 < Tryz.prog.cellsOf e := slices_full_of Tryz.prog (by kernel_rfl)
theorem rd_same {W W' : World} (hb : Later W W') {p : MemPlace} (h : p.block < W.heap.size) : W.sameAt W' p := by
  cases p with
  | cell b o => exact (bcell hb).1 b o h
  | map b => exact hb.block b h
theorem rd_carry {P : Program} {W W' : World} : ∀ {ts : List TypeId} {vs : List Value} {ds : List (DataW H)} {ps : List MemPlace}, DataW.TrodAll enc P W base sp held ts vs ds ps → (∀ p ∈ ps, W.sameAt W' p) → DataW.TrodAll enc P W' base sp held ts vs ds ps
  | [], [], [], _, h, _ => h
  | _ :: _, _ :: _, _ :: _, _, ⟨p, q, ⟨n, h1⟩, h2, e⟩, hs => ⟨p, q, ⟨n, DataW.trod_carry _ _ _ _ h1 (fun x hx => hs x (by rw [e]; exact List.mem_append_left _ hx))⟩, rd_carry h2 (fun x hx => hs x (by rw [e]; exact List.mem_append_right _ hx)), e⟩
theorem rd_stay {W W' : World} {ts : List TypeId} {vs : List Value} {ds : List (DataW H)} {ps : List MemPlace} {sp : Nat → Bool} (ht : ∀ t ∈ ts, t < Tryz.prog.types.size) (h : DataW.TrodAll enc Tryz.prog W 0 (fun _ => true) true ts vs ds ps)
    (lt : ∀ p ∈ ps, p.block < W.heap.size) (hb : Later W W') (hs : ∀ p ∈ ps, sp p.block = true) : DataW.TrodAll enc Tryz.prog W' 0 sp true ts vs ds ps :=
  (rd_carry h (fun p hp => rd_same hb (lt p hp))).respare rd_kids rd_full ht hs
end
end Go.Proofs.YtckeaibamgkegaaGreatDoor
end
section
/- the arguments of AuditChecks, opened -/
namespace Go.Proofs.YtckeaibamgkegaaGreatDoor
open Go.ChangeShapes Go.WideShapes Go.ChangeAt Go.RowKit
set_option maxRecDepth 100000
section
variable {H : Type} {enc : TypeId × Value → H} {W : World} {sp : Nat → Bool} {held : Bool}
theorem okWide_arr3 {r : Reach} {b0 : Nat} {v : Value} (h : Value.okWide Tryz.prog W r b0 23 v) : ∃ xs : Array Value, v = .agg xs ∧ xs.size = Tryz.prog.cellsOf 23 := by
  simp only [Value.okWide, Tryz.underlying23] at h
  obtain ⟨cs, h1, h2, _⟩ := h
  exact ⟨cs, h1, h2⟩
theorem len3 {α : Type} {l : List α} (h : l.length = 3) : ∃ a b c, l = [a, b, c] := by match l, h with | [a, b, c], _ => exact ⟨a, b, c, rfl⟩
theorem three_of_trod {n : Nat} {cs : List Value} {y : DataW H × List MemPlace} (h : DataW.trod enc Tryz.prog W 0 (fun _ => true) held n 23 cs = some y) : ∃ a b c : Int, cs = [.int .i64 a, .int .i64 b, .int .i64 c] := by
  obtain ⟨xs, m, _, hx, hl, hlen, hf⟩ := DataW.trod_array Tryz.underlying23 h
  have c0 : Tryz.prog.cellsOf 23 = 3 := by kernel_rfl
  have c1 : Tryz.prog.cellsOf 3 = 1 := by kernel_rfl
  have f0 : DataW.trod enc Tryz.prog W 0 (fun _ => true) held m 3 ((cs.drop (0 * Tryz.prog.cellsOf 3)).take (Tryz.prog.cellsOf 3)) = xs[0]? := hf 0 (by omega)
  have f1 : DataW.trod enc Tryz.prog W 0 (fun _ => true) held m 3 ((cs.drop (1 * Tryz.prog.cellsOf 3)).take (Tryz.prog.cellsOf 3)) = xs[1]? := hf 1 (by omega)
  have f2 : DataW.trod enc Tryz.prog W 0 (fun _ => true) held m 3 ((cs.drop (2 * Tryz.prog.cellsOf 3)).take (Tryz.prog.cellsOf 3)) = xs[2]? := hf 2 (by omega)
  clear hf h
  rw [c1] at f0 f1 f2
  rw [c0] at hl
  obtain ⟨a, b, c, rfl⟩ := len3 hl
  obtain ⟨y0, y1, y2, rfl⟩ := len3 hlen
  obtain ⟨z0, a0, _, _⟩ := DataW.trod_int Tryz.underlying3 (x := y0) f0
  obtain ⟨z1, a1, _, _⟩ := DataW.trod_int Tryz.underlying3 (x := y1) f1
  obtain ⟨z2, a2, _, _⟩ := DataW.trod_int Tryz.underlying3 (x := y2) f2
  simp at a0 a1 a2
  subst a0 a1 a2
  exact ⟨z0, z1, z2, rfl⟩
theorem len9 {α : Type} {l : List α} (h : l.length = 9) : ∃ a b c d e f g h' i, l = [a, b, c, d, e, f, g, h', i] := by match l, h with | [a, b, c, d, e, f, g, h', i], _ => exact ⟨a, b, c, d, e, f, g, h', i, rfl⟩
theorem row_of_trod {n : Nat} {cs : List Value} {y : DataW H × List MemPlace} (h : DataW.trod enc Tryz.prog W 0 (fun _ => true) held n 55 cs = some y) : ∃ x : Rw, x.ok ∧ ∀ j, j < 9 → cs[j]? = some (rwF x j) := by
  obtain ⟨xs, m, _, _, hl, hlen, hf⟩ := DataW.trod_struct Tryz.underlying55 h
  have c0 : Tryz.prog.cellsOf 55 = 9 := by kernel_rfl
  have c1 : Tryz.prog.cellsOf 3 = 1 := by kernel_rfl
  have hlen : xs.length = 9 := hlen
  have f0 : DataW.trod enc Tryz.prog W 0 (fun _ => true) held m 3 ((cs.drop 0).take (Tryz.prog.cellsOf 3)) = xs[0]? := hf 0 _ rfl
  have f1 : DataW.trod enc Tryz.prog W 0 (fun _ => true) held m 3 ((cs.drop 1).take (Tryz.prog.cellsOf 3)) = xs[1]? := hf 1 _ rfl
  have f2 : DataW.trod enc Tryz.prog W 0 (fun _ => true) held m 3 ((cs.drop 2).take (Tryz.prog.cellsOf 3)) = xs[2]? := hf 2 _ rfl
  have f3 : DataW.trod enc Tryz.prog W 0 (fun _ => true) held m 3 ((cs.drop 3).take (Tryz.prog.cellsOf 3)) = xs[3]? := hf 3 _ rfl
  have f4 : DataW.trod enc Tryz.prog W 0 (fun _ => true) held m 3 ((cs.drop 4).take (Tryz.prog.cellsOf 3)) = xs[4]? := hf 4 _ rfl
  have f5 : DataW.trod enc Tryz.prog W 0 (fun _ => true) held m 3 ((cs.drop 5).take (Tryz.prog.cellsOf 3)) = xs[5]? := hf 5 _ rfl
  have f6 : DataW.trod enc Tryz.prog W 0 (fun _ => true) held m 3 ((cs.drop 6).take (Tryz.prog.cellsOf 3)) = xs[6]? := hf 6 _ rfl
  have f7 : DataW.trod enc Tryz.prog W 0 (fun _ => true) held m 3 ((cs.drop 7).take (Tryz.prog.cellsOf 3)) = xs[7]? := hf 7 _ rfl
  have f8 : DataW.trod enc Tryz.prog W 0 (fun _ => true) held m 3 ((cs.drop 8).take (Tryz.prog.cellsOf 3)) = xs[8]? := hf 8 _ rfl
  obtain ⟨y0, e0⟩ := rd_some (xs := xs) (i := 0) (by omega)
  obtain ⟨y1, e1⟩ := rd_some (xs := xs) (i := 1) (by omega)
  obtain ⟨y2, e2⟩ := rd_some (xs := xs) (i := 2) (by omega)
  obtain ⟨y3, e3⟩ := rd_some (xs := xs) (i := 3) (by omega)
  obtain ⟨y4, e4⟩ := rd_some (xs := xs) (i := 4) (by omega)
  obtain ⟨y5, e5⟩ := rd_some (xs := xs) (i := 5) (by omega)
  obtain ⟨y6, e6⟩ := rd_some (xs := xs) (i := 6) (by omega)
  obtain ⟨y7, e7⟩ := rd_some (xs := xs) (i := 7) (by omega)
  obtain ⟨y8, e8⟩ := rd_some (xs := xs) (i := 8) (by omega)
  rw [c1, e0] at f0
  rw [c1, e1] at f1
  rw [c1, e2] at f2
  rw [c1, e3] at f3
  rw [c1, e4] at f4
  rw [c1, e5] at f5
  rw [c1, e6] at f6
  rw [c1, e7] at f7
  rw [c1, e8] at f8
  rw [c0] at hl
  obtain ⟨a0, a1, a2, a3, a4, a5, a6, a7, a8, rfl⟩ := len9 hl
  clear hf hl h
  obtain ⟨p0, h0, i0⟩ := rd_int Tryz.underlying3 f0
  obtain ⟨p1, h1, i1⟩ := rd_int Tryz.underlying3 f1
  obtain ⟨p2, h2, i2⟩ := rd_int Tryz.underlying3 f2
  obtain ⟨p3, h3, i3⟩ := rd_int Tryz.underlying3 f3
  obtain ⟨p4, h4, i4⟩ := rd_int Tryz.underlying3 f4
  obtain ⟨p5, h5, i5⟩ := rd_int Tryz.underlying3 f5
  obtain ⟨p6, h6, i6⟩ := rd_int Tryz.underlying3 f6
  obtain ⟨p7, h7, i7⟩ := rd_int Tryz.underlying3 f7
  obtain ⟨p8, h8, i8⟩ := rd_int Tryz.underlying3 f8
  simp at h0 h1 h2 h3 h4 h5 h6 h7 h8
  subst h0 h1 h2 h3 h4 h5 h6 h7 h8
  refine ⟨⟨p0, p1, p2, p3, p4, p5, p6, p7, p8⟩, ⟨i0, i1, i2, i3, i4, i5, i6, i7, i8⟩, fun j hj => ?_⟩
  rcases j with _ | _ | _ | _ | _ | _ | _ | _ | _ | j
  all_goals first | rfl | omega
theorem rows_of_trod {fuel : Nat} {v : Value} {x : DataW H × List MemPlace} (h : DataW.trod enc Tryz.prog W 0 (fun _ => true) held fuel 22 [v] = some x) : ∃ l, IsRow 9 rwF W v l ∧ ∀ y ∈ l, y.ok :=
  rd_row (P := Tryz.prog) (e := 55) (sz := 9) (ok := Rw.ok) (f := rwF) (by decide) Tryz.underlying22 (by kernel_rfl) (fun _ _ _ h' => row_of_trod h') h
end
end Go.Proofs.YtckeaibamgkegaaGreatDoor
end
