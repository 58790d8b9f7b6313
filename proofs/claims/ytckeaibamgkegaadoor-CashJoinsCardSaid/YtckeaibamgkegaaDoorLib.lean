/- what the library's variables hold; Cut, Atoi, Itoa over any later world -/
import Derived.Test.YtckeaibamgkegaaDoorItoa
import Derived.Test.YtckeaibamgkegaaDoorTxt
import Derived.Test.YtckeaibamgkegaaDoorDec
set_option linter.all false
namespace Go.Proofs.YtckeaibamgkegaaDoor
open Go.RowKit
set_option maxRecDepth 100000

theorem var_later {n : String} {cs : Array Value} {w w' : World} (h : w.var? Tryd.prog n = some cs) (hb : Later w w') : w'.var? Tryd.prog n = some cs := by
  unfold World.var? at h ⊢
  cases hg : Tryd.prog.globalNamed n with
  | none => rw [hg] at h; cases h
  | some g =>
    rw [hg] at h
    simp only [Option.bind_some] at h ⊢
    have hlt : g < w.heap.size := by
      rcases Nat.lt_or_ge g w.heap.size with h' | h'
      · exact h'
      · rw [Array.getElem?_eq_none h'] at h; cases h
    rw [hb.block g hlt]
    exact h
/-- What the library's own variables hold. -/
structure LibAt (w : World) : Prop where
  pow : PowTab w
  max : ∃ m, w.cell? ⟨1, 0, none⟩ = some (.int .i64 m)
  syn : ∃ t p, w.var? Tryd.prog "strconv.ErrSyntax" = some #[.iface t p]
  rng : ∃ t p, w.var? Tryd.prog "strconv.ErrRange" = some #[.iface t p]
theorem LibAt.later {w w' : World} (h : LibAt w) (hb : Later w w') : LibAt w' := by
  obtain ⟨a, ⟨m, b⟩, ⟨t, p, c⟩, ⟨t', p', d⟩⟩ := h
  exact ⟨a.later hb, ⟨m, ((bcell hb).1 _ _ (World.block_lt_of_cell? _ _ b)).trans b⟩, ⟨t, p, var_later c hb⟩, ⟨t', p', var_later d hb⟩⟩
theorem later_bytes (w : World) (e : TypeId) (s : ByteArray) : Later w (Lib.bytesWorld w e s) := Lib.bytesWorld_below w e s
theorem ba_list (A : List UInt8) : (ByteArray.mk A.toArray).data.toList = A := by simp
theorem ba_size (A : List UInt8) : (ByteArray.mk A.toArray).size = A.length := by simp [ByteArray.size]
theorem atoi_any (s : List UInt8) (hs : s.length ≤ 100000) (w : World) (h : LibAt w) :
    Calls Tryd.prog 34 #[.string ⟨s.toArray⟩] w fun e w' => ∃ v ev, e = .returned (.tuple #[.int .i64 v, ev]) ∧ I64 v ∧ ((ev = .nilIface ∧ Lib.atoiAll s = .ok v) ∨ ((∃ q, ev = .iface 141 q) ∧ ∀ v, Lib.atoiAll s ≠ .ok v)) ∧ Later w w' := by
  have hl : (ByteArray.mk s.toArray).data.toList = s := ba_list s
  have hz : (ByteArray.mk s.toArray).size ≤ 100000 := by rw [ba_size]; exact hs
  cases hc : Lib.atoiAll s with
  | ok v =>
    refine (Tryd.strconv_Atoi_ok ⟨s.toArray⟩ (by omega) v (by rw [hl]; exact hc) w).mono ?_
    rintro e w' ⟨rfl, hw⟩
    refine ⟨v, .nilIface, rfl, Lib.atoiAll_bounds hc, .inl ⟨rfl, rfl⟩, ?_⟩
    rcases hw with rfl | ⟨t, rfl⟩
    · exact Later.refl _
    · exact later_bytes _ _ _
  | «syntax» =>
    obtain ⟨t, p, hv⟩ := h.syn
    refine (Tryd.strconv_Atoi_syntax_var ⟨s.toArray⟩ (by omega) (by rw [hl]; exact hc) t p w hv).mono ?_
    rintro e w' ⟨N, rfl, -, -, hb⟩
    exact ⟨0, _, rfl, ⟨by decide, by decide⟩, .inr ⟨⟨_, rfl⟩, fun v e => by cases e⟩, hb⟩
  | range =>
    obtain ⟨t, p, hv⟩ := h.rng
    refine (Tryd.strconv_Atoi_range_var ⟨s.toArray⟩ (by omega) (by rw [hl]; exact hc) t p w hv).mono ?_
    rintro e w' ⟨N, rfl, -, -, hb⟩
    exact ⟨_, _, rfl, Lib.atoiSat_bounds _, .inr ⟨⟨_, rfl⟩, fun v e => by cases e⟩, hb⟩
theorem cut_any (s sep : List UInt8) (hs : s.length ≤ 100000) (w : World) (h : LibAt w) :
    Calls Tryd.prog 33 #[.string ⟨s.toArray⟩, .string ⟨sep.toArray⟩] w fun e w' => e = .returned (.tuple #[.string ⟨(Lib.cut s sep).1.toArray⟩, .string ⟨(Lib.cut s sep).2.1.toArray⟩, .bool (Lib.cut s sep).2.2]) ∧ Later w w' := by
  obtain ⟨m, hm⟩ := h.max
  refine (Tryd.strings_Cut ⟨s.toArray⟩ ⟨sep.toArray⟩ m w (by rw [ba_size]; omega) hm).mono ?_
  rintro e w' ⟨rfl, n, rfl⟩
  rw [ba_list, ba_list]
  exact ⟨rfl, (Later.refl w).drewN n⟩
end Go.Proofs.YtckeaibamgkegaaDoor
