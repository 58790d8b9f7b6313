/- texts: decimals, Join, a builder that a call has made -/
import Derived.Test.YtpblfheeeifjcaaDoorShelf
import Derived.Test.YtpblfheeeifjcaaDoorBlk
import Derived.Lib.ItoaLen
set_option linter.all false
namespace Go.Proofs.YtpblfheeeifjcaaDoor
open Go.RowKit
set_option maxRecDepth 100000

/-- The table of powers of ten. -/
def PowTab (w : World) : Prop := Lib.TabIs Tryd.prog w "internal/strconv.uint64pow10" .u64 Lib.pow10Tab
theorem tab_later {n : String} {k : IntKind} {zs : List Int} {w w' : World} (h : Lib.TabIs Tryd.prog w n k zs) (hb : Later w w') : Lib.TabIs Tryd.prog w' n k zs := by
  unfold Lib.TabIs World.var? at h ⊢
  cases hg : Tryd.prog.globalNamed n with
  | none => rw [hg] at h; cases h
  | some g =>
    rw [hg] at h
    simp only [Option.bind_some] at h ⊢
    have hlt : g < w.heap.size := by
      rcases Nat.lt_or_ge g w.heap.size with h' | h'
      · exact h'
      · rw [Array.getElem?_eq_none h'] at h; cases h
    rw [hb.block g hlt]
    exact h
theorem PowTab.later {w w' : World} (h : PowTab w) (hb : Later w w') : PowTab w' := tab_later h hb
theorem later_grow {w : World} (k : Nat) (os : Array Obj) : Later w (Sort.grow (w.drewN k) os) := by
  refine Below.trans ((Later.refl w).drewN k) ⟨rfl, rfl, rfl, by simp [Sort.grow], fun i hi => ?_⟩
  try simp only [World.heap_drewN] at hi
  simp [Sort.grow, Array.getElem?_append_left hi]
theorem itoa_any (n : Int) (h : I64 n) (w : World) (ht : PowTab w) : Calls Tryd.prog 36 #[.int .i64 n] w fun e w' => e = .returned (.string ⟨(Lib.itoa n).toArray⟩) ∧ Later w w' := by
  refine (Tryd.strconv_Itoa n h.1 h.2 w ht).mono ?_
  rintro e w' ⟨rfl, k, os, rfl⟩
  exact ⟨rfl, later_grow k os⟩
theorem strInfo : (Tryd.prog.info? 9).map (fun i => (i.zero, i.size, i.bytes)) = some (some (.string ⟨#[]⟩), 1, 16) := by kernel_rfl
theorem sliceStr : SliceOf Tryd.prog 87 9 1 16 := sliceOf_mk Tryd.underlying87 strInfo rfl (by decide)
theorem join_any {w0 W : World} {v : Value} (NL : List Int) (n : Nat) (hn : n = NL.length) (hn2 : n ≤ 100000) (hlen : (Lib.join (NL.map Lib.itoa) [32]).length ≤ 100000) (hM : Mine w0 9 1 W v n (NL.map (fun n => Value.string ⟨(Lib.itoa n).toArray⟩))) (w : World) (hl : Later W w) :
    Calls Tryd.prog 38 #[v, .string ⟨#[32]⟩] w fun e w' => e = .returned (.string ⟨(Lib.join (NL.map Lib.itoa) [32]).toArray⟩) ∧ Later w w' := by
  subst hn
  have hM := hM.later hl
  have e1 : (NL.map (fun n => (⟨(Lib.itoa n).toArray⟩ : ByteArray))).map (·.data.toList) = NL.map Lib.itoa := by
    rw [List.map_map]
    refine List.map_congr_left (fun x _ => ?_)
    simp
  rcases hM.1.2 with ⟨rfl, h0⟩ | ⟨g, cap, cur, rfl, h2, h3, h4, h5, h6, h7⟩
  · have : NL = [] := List.eq_nil_of_length_eq_zero h0
    subst this
    exact (Tryd.strings_Join_none none 0 ⟨#[32]⟩ w).mono (fun e w' h => ⟨h.1, by rw [h.2]; exact Later.refl _⟩)
  · have hj := Tryd.strings_Join g 0 cap (NL.map (fun n => (⟨(Lib.itoa n).toArray⟩ : ByteArray))) ⟨#[32]⟩ w ?_ (hM.1.lt g rfl).2 ?_ ?_ ?_
    · rw [e1, List.length_map] at hj
      exact hj
    · intro j x hx
      rw [List.getElem?_map] at hx
      obtain ⟨y, hy, rfl⟩ := Option.map_eq_some_iff.1 hx
      have := hM.1.cells (g := g) rfl j (.string ⟨(Lib.itoa y).toArray⟩) (by rw [List.getElem?_map, hy]; rfl)
      rwa [add_plain] at this
    · rw [List.length_map]; omega
    · rw [List.length_map]; exact h4
    · rw [e1]; simp only; omega
theorem builder_new {w W : World} {b : Nat} (hB : w.heap.size ≤ b) (hb : W.heap[b]? = some (.cells #[.pointer none, .slice none 0 0] 86 (0, 0))) : Lib.IsBuilderF 86 5 w.heap.size b (Lib.byteCells []) W :=
  .inl ⟨hB, .slice none 0 0, hb, World.ownsRowF_of (World.ownsRow_nil _ _ _ _), by simp [Value.ownBlock]⟩
theorem builderAt_later {T e : TypeId} {B b : Nat} {p : Value} {bs : List Value} {W W' : World} (h : Lib.BuilderAtF T e B b p bs W) (hl : Later W W') : Lib.BuilderAtF T e B b p bs W' := by
  obtain ⟨h1, v, h2, h3, h4⟩ := h
  refine ⟨h1, v, (hl.block b (Array.getElem?_eq_some_iff.1 h2).1).trans h2, h3.kept (row := none) (grown_later hl none) (by cases v.ownBlock <;> simp), h4⟩
theorem builder_later {T e : TypeId} {B b : Nat} {bs : List Value} {W W' : World} (h : Lib.IsBuilderF T e B b bs W) (hl : Later W W') : Lib.IsBuilderF T e B b bs W' := h.imp (fun h => builderAt_later h hl) (fun h => builderAt_later h hl)
theorem byteCells_len (T : List UInt8) : (Lib.byteCells T).length = T.length := by unfold Lib.byteCells; simp
theorem write_any (B b : Nat) (T : List UInt8) (s : ByteArray) (w : World) (h : Lib.IsBuilderF 86 5 B b (Lib.byteCells T) w) (hlen : T.length + s.size ≤ 140737488355328) (hB : B ≤ w.heap.size) :
    Calls Tryd.prog 37 #[.pointer (some ⟨b, 0, none⟩), .string s] w fun e w' => e = .returned (.tuple #[.int .i64 s.size, .nilIface]) ∧ Lib.IsBuilderF 86 5 B b (Lib.byteCells T ++ Lib.strCells s) w' ∧ Below B w w' :=
  (Any.Builder_WriteString_f { Tryd.lays156 with } Tryd.Builder_Extra_156 B b (Lib.byteCells T) s w h (by rw [byteCells_len]; exact hlen) hB).mono (fun _ _ h => ⟨h.1, .inr h.2.1, h.2.2⟩)
theorem ba_app_size (s t : ByteArray) : (s ++ t).size = s.size + t.size := ByteArray.size_append
theorem ba_mk_size (S : List UInt8) : (ByteArray.mk S.toArray).size = S.length := by simp [ByteArray.size]
theorem byteCells_str (T S : List UInt8) : Lib.byteCells T ++ Lib.strCells (ByteArray.mk S.toArray ++ ⟨#[10]⟩) = Lib.byteCells (T ++ (S ++ [10])) := by
  unfold Lib.byteCells Lib.strCells
  simp [ByteArray.data_append]
end Go.Proofs.YtpblfheeeifjcaaDoor
