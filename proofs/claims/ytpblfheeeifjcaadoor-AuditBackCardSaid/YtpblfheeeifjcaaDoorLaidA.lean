/- what the rows list, laid: the table of rules, the table of powers of ten -/
import Derived.Test.YtpblfheeeifjcaaDoorPst
import Derived.Test.YtpblfheeeifjcaaDoorRows
import Derived.Test.YtpblfheeeifjcaaDoorPost
import Derived.ProofKit
import Derived.LaidMore
import Derived.OpenShut
import Derived.LaidByTextLater
import Derived.Lib.LaidTab
import Derived.Stop.LaidErr
set_option linter.all false
namespace Go.Proofs.YtpblfheeeifjcaaDoor
open Go.ChangeShapes Go.WideShapes Go.ChangeAt Go.RowKit

abbrev laidA : List (String × DataW Unit) := Rows.auditFirstRow.laid
def nameA (k : Nat) : String := ((Rows.auditFirstRow.laid.drop k).head?.map (·.1)).getD ""
def plainA : List (String × DataW Unit) := Rows.auditFirstRow.laid.filter fun x => x.2.handleName?.isNone
theorem plain_of_laidA {W : World} (h : laidMetH Tryd.prog laidA W) : laidMet Tryd.prog plainA W := by
  unfold laidMetH at h
  split at h
  · rename_i h0
    exact absurd h0 (by decide +kernel)
  · exact h.1
theorem tab_plain : plainA = [(nameA 0, Rows.laid_math_bits_deBruijn32tab), (nameA 1, Rows.laid_math_bits_deBruijn64tab), (nameA 2, Rows.laid_internal_strconv_uint64pow10)] := by rfl
theorem pow_of_laidA {W : World} (h : laidMetH Tryd.prog laidA W) : PowTab W := by
  have h1 := plain_of_laidA h
  rw [tab_plain] at h1
  have h2 := h1.tail.tail
  exact Lib.tabIs_of_head (zs := Lib.pow10Tab) (k := .u64) (t := 136) (e := 124) (n := 20) (g := 1) (by kernel_rfl) (by kernel_rfl) Tryd.underlying136 Tryd.underlying124 (by kernel_rfl) (by kernel_rfl) h2

section
variable {W : World} {sp : Nat → Bool}
theorem rule_of_trod {n : Nat} {cs : List Value} {y : DataW (List UInt8) × List MemPlace} {b : UInt8} {r : List UInt8} {e : Int} {f : FuncId}
    (hone : ((List.range Tryd.prog.funcs.size).filter fun f => (Tryd.prog.funcs[f]?).any (·.name.toUTF8.data.toList == b :: r)) = [f])
    (h : DataW.trod (funcToken Tryd.prog) Tryd.prog W 0 sp true n 118 cs = some y) (hy : y.1 = .agg [.held (b :: r), .lit (.int .i64 e)]) :
    cs = [.func (.func f) #[] #[], .int .i64 e] := by
  obtain ⟨xs, m, _, hx, hl, hlen, hf⟩ := DataW.trod_struct Tryd.underlying118 h
  have c0 : Tryd.prog.cellsOf 118 = 2 := by kernel_rfl
  have c1 : Tryd.prog.cellsOf 51 = 1 := by kernel_rfl
  have c2 : Tryd.prog.cellsOf 35 = 1 := by kernel_rfl
  have hlen : xs.length = 2 := hlen
  have f0 : DataW.trod (funcToken Tryd.prog) Tryd.prog W 0 sp true m 51 ((cs.drop 0).take (Tryd.prog.cellsOf 51)) = xs[0]? := hf 0 _ rfl
  have f1 : DataW.trod (funcToken Tryd.prog) Tryd.prog W 0 sp true m 35 ((cs.drop 1).take (Tryd.prog.cellsOf 35)) = xs[1]? := hf 1 _ rfl
  clear hf h
  rw [c1] at f0
  rw [c2] at f1
  rw [c0] at hl
  obtain ⟨a, d, rfl⟩ : ∃ a b, cs = [a, b] := by match cs, hl with | [a, b], _ => exact ⟨a, b, rfl⟩
  obtain ⟨y0, y1, rfl⟩ : ∃ a b, xs = [a, b] := by match xs, hlen with | [a, b], _ => exact ⟨a, b, rfl⟩
  subst hx
  simp only [List.map_cons, List.map_nil, DataW.agg.injEq, List.cons.injEq, and_true] at hy
  obtain ⟨h0, h1⟩ := hy
  obtain ⟨z1, a1, b1, _⟩ := DataW.trod_int Tryd.underlying35 (x := y1) f1
  obtain ⟨d0, q0⟩ := y0
  simp only at h0
  subst h0
  obtain rfl := func_of_trod (f0 := f) Tryd.underlying51 hone f0
  subst b1
  simp at a1 h1
  subst a1 h1
  rfl
end
theorem some_of_lt_ {α : Type} {xs : List α} {i : Nat} (h : i < xs.length) : ∃ y, xs[i]? = some y := ⟨_, List.getElem?_eq_getElem h⟩
theorem rules_of_laidA {W : World} (h : laidMetH Tryd.prog laidA W) : RulesAt W := by
  obtain ⟨g, t, cs, fuel, p, hg, ht, hv, hd⟩ := h.funcs (n := nameA 3) (d := match (Rows.laid_chattel_entry_rules (H := Unit)) with | .iface _ d => d | d => d) (List.mem_of_getElem? (i := 3) rfl)
  obtain rfl := Option.some.inj ((show Tryd.prog.globalNamed (nameA 3) = some 0 by kernel_rfl).symm.trans hg)
  obtain rfl := Option.some.inj ((show (Tryd.prog.globals[0]?).map (·.type) = some 119 by kernel_rfl).symm.trans ht)
  obtain ⟨xs, m, _, ex, hlen, hl, hel⟩ := DataW.trod_array Tryd.underlying119 hd
  have c1 : Tryd.prog.cellsOf 118 = 2 := by kernel_rfl
  have c0 : Tryd.prog.cellsOf 119 = 10 := by kernel_rfl
  rw [c0] at hlen
  simp only [c1] at hel
  have e1 : _ = xs.map (·.1) := DataW.agg.inj (Prod.mk.inj ex).1
  obtain ⟨y0, y1, y2, y3, y4, rfl⟩ : ∃ a b c d e, xs = [a, b, c, d, e] := by match xs, hl with | [a, b, c, d, e], _ => exact ⟨a, b, c, d, e, rfl⟩
  have h0 := hel 0 (by omega)
  have h1 := hel 1 (by omega)
  have h2 := hel 2 (by omega)
  have h3 := hel 3 (by omega)
  have h4 := hel 4 (by omega)
  clear hel hl ex hd h
  have r0 := rule_of_trod (f := 109) (by kernel_rfl) (y := y0) h0 (List.cons.inj e1).1.symm
  have r1 := rule_of_trod (f := 110) (by kernel_rfl) (y := y1) h1 (List.cons.inj (List.cons.inj e1).2).1.symm
  have r2 := rule_of_trod (f := 111) (by kernel_rfl) (y := y2) h2 (List.cons.inj (List.cons.inj (List.cons.inj e1).2).2).1.symm
  have r3 := rule_of_trod (f := 112) (by kernel_rfl) (y := y3) h3 (List.cons.inj (List.cons.inj (List.cons.inj (List.cons.inj e1).2).2).2).1.symm
  have r4 := rule_of_trod (f := 104) (by kernel_rfl) (y := y4) h4 (List.cons.inj (List.cons.inj (List.cons.inj (List.cons.inj (List.cons.inj e1).2).2).2).2).1.symm
  have hcs : cs = rulesA := by
    obtain ⟨l⟩ := cs
    simp only at hlen r0 r1 r2 r3 r4
    obtain ⟨a0, a1, a2, a3, a4, a5, a6, a7, a8, a9, rfl⟩ : ∃ a0 a1 a2 a3 a4 a5 a6 a7 a8 a9, l = [a0, a1, a2, a3, a4, a5, a6, a7, a8, a9] := by
      match l, hlen with | [a0, a1, a2, a3, a4, a5, a6, a7, a8, a9], _ => exact ⟨a0, a1, a2, a3, a4, a5, a6, a7, a8, a9, rfl⟩
    simp at r0 r1 r2 r3 r4
    unfold rulesA
    rw [r0.1, r0.2, r1.1, r1.2, r2.1, r2.2, r3.1, r3.2, r4.1, r4.2]
  subst hcs
  unfold World.var? at hv
  rw [hg] at hv
  simp only [Option.bind_some] at hv
  unfold RulesAt
  cases hh : W.heap[0]? with
  | none => rw [hh] at hv; cases hv
  | some o =>
    rw [hh] at hv
    cases o with
    | cells c t fr => simp only [Option.some.injEq] at hv; exact ⟨t, fr, by rw [hv]⟩
    | _ => cases hv
end Go.Proofs.YtpblfheeeifjcaaDoor
