/- lines, entries, rows, books: words -/
import Derived.Test.YtckeaibamgkegaaDoorMap
set_option linter.all false
namespace Go.Proofs.YtckeaibamgkegaaDoor
open Go.RowKit
set_option maxRecDepth 100000

/-- A line of an entry. -/
structure Ln where
  p : Int
  c : Int
  a : Int
  deriving DecidableEq
def Ln.ok (x : Ln) : Prop := I64 x.p ∧ I64 x.c ∧ I64 x.a
def lnF (x : Ln) : Nat → Value
  | 0 => .int .i64 x.p
  | 1 => .int .i64 x.c
  | _ => .int .i64 x.a
def lnCs (x : Ln) : List Value := [.int .i64 x.p, .int .i64 x.c, .int .i64 x.a]
theorem lnCs_cell (x : Ln) (j : Nat) (h : j < 3) : (lnCs x)[j]? = some (lnF x j) := by
  rcases j with _ | _ | _ | j
  all_goals first | rfl | omega
theorem lnCs_one (x : Ln) : ∀ u ∈ lnCs x, u.oneCell' = true := by
  intro u hu
  simp only [lnCs, List.mem_cons, List.not_mem_nil, or_false] at hu
  rcases hu with rfl | rfl | rfl <;> rfl
def IsLines (w : World) (v : Value) (l : List Ln) : Prop := IsRow 3 lnF w v l

/-- An entry. -/
structure En where
  con : Int
  day : Int
  cur : Int
  seq : Int
  per : Int
  ref : Int
  ls : List Ln
  deriving DecidableEq
def En.ok (x : En) : Prop := I64 x.con ∧ I64 x.day ∧ I64 x.cur ∧ I64 x.seq ∧ I64 x.per ∧ I64 x.ref ∧ (∀ y ∈ x.ls, y.ok) ∧ x.ls.length ≤ 100000
/-- An entry's cells, its lines at a slice. -/
def enCs (x : En × Value) : List Value := [.int .i64 x.1.con, .int .i64 x.1.day, .int .i64 x.1.cur, .int .i64 x.1.seq, .int .i64 x.1.per, .int .i64 x.1.ref, x.2]
def enF (x : En × Value) : Nat → Value
  | 0 => .int .i64 x.1.con
  | 1 => .int .i64 x.1.day
  | 2 => .int .i64 x.1.cur
  | 3 => .int .i64 x.1.seq
  | 4 => .int .i64 x.1.per
  | 5 => .int .i64 x.1.ref
  | _ => x.2
theorem enCs_cell (x : En × Value) (j : Nat) (h : j < 7) : (enCs x)[j]? = some (enF x j) := by
  rcases j with _ | _ | _ | _ | _ | _ | _ | j
  all_goals first | rfl | omega
/-- An entry as a value. -/
def IsEn (w : World) (v : Value) (x : En) : Prop := ∃ u, v = .agg (enCs (x, u)).toArray ∧ IsLines w u x.ls
/-- A slice holds entries. -/
def IsEntries (w : World) (v : Value) (l : List En) : Prop := ∃ xs : List (En × Value), xs.map (·.1) = l ∧ IsRow 7 enF w v xs ∧ ∀ x ∈ xs, IsLines w x.2 x.1.ls
theorem IsEn.later {w w' : World} {v : Value} {x : En} (h : IsEn w v x) (hb : Later w w') : IsEn w' v x := by
  obtain ⟨u, h1, h2⟩ := h
  exact ⟨u, h1, IsRow.later h2 hb⟩
theorem IsEntries.later {w w' : World} {v : Value} {l : List En} (h : IsEntries w v l) (hb : Later w w') : IsEntries w' v l := by
  obtain ⟨xs, h1, h2, h3⟩ := h
  exact ⟨xs, h1, h2.later hb, fun x hx => IsRow.later (h3 x hx) hb⟩
theorem IsEntries.form {w : World} {v : Value} {l : List En} (h : IsEntries w v l) : ∃ p cap, v = .slice p l.length cap := by
  obtain ⟨xs, rfl, h2, _⟩ := h
  obtain ⟨p, cap, h⟩ := h2.form
  exact ⟨p, cap, by rw [h, List.length_map]⟩
theorem IsEntries.nil (w : World) : IsEntries w (.slice none 0 0) [] := ⟨[], rfl, IsRow.nil w, fun _ h => by cases h⟩
/-- One entry's cells. -/
theorem IsEntries.full {w : World} {v : Value} {l : List En} (h : IsEntries w v l) {i : Nat} (hi : i < l.length) :
    ∃ b o cap u, v = .slice (some ⟨b, o, none⟩) l.length cap ∧ b < w.heap.size ∧ IsLines w u (l[i]).ls ∧ ∀ j, j < 7 → w.cell? ⟨b, o + i * 7 + j, none⟩ = some (enF (l[i], u) j) := by
  obtain ⟨xs, rfl, h2, h3⟩ := h
  rw [List.length_map] at hi
  obtain ⟨b, o, cap, e1, e2, e3⟩ := h2.full hi
  refine ⟨b, o, cap, (xs[i]).2, by rw [e1, List.length_map], e2, ?_, ?_⟩
  · rw [List.getElem_map]; exact h3 _ (List.getElem_mem hi)
  · intro j hj
    rw [e3 j hj, List.getElem_map]

/-- A row. -/
structure Rw where
  no : Int
  seq : Int
  per : Int
  con : Int
  day : Int
  ref : Int
  pty : Int
  cur : Int
  amt : Int
  deriving DecidableEq
def Rw.ok (x : Rw) : Prop := I64 x.no ∧ I64 x.seq ∧ I64 x.per ∧ I64 x.con ∧ I64 x.day ∧ I64 x.ref ∧ I64 x.pty ∧ I64 x.cur ∧ I64 x.amt
def Rw.nums (x : Rw) : List Int := [x.no, x.seq, x.per, x.con, x.day, x.ref, x.pty, x.cur, x.amt]
def rwCs (x : Rw) : List Value := x.nums.map (Value.int .i64)
def rwF (x : Rw) (j : Nat) : Value := .int .i64 (x.nums.getD j 0)
theorem rwCs_cell (x : Rw) (j : Nat) (h : j < 9) : (rwCs x)[j]? = some (rwF x j) := by
  rcases j with _ | _ | _ | _ | _ | _ | _ | _ | _ | j
  all_goals first | rfl | omega
theorem rwCs_one (x : Rw) : ∀ u ∈ rwCs x, u.oneCell' = true := by
  intro u hu
  obtain ⟨n, _, rfl⟩ := List.mem_map.1 hu
  rfl
def Rw.val (x : Rw) : Value := .agg #[.int .i64 x.no, .int .i64 x.seq, .int .i64 x.per, .int .i64 x.con, .int .i64 x.day, .int .i64 x.ref, .int .i64 x.pty, .int .i64 x.cur, .int .i64 x.amt]
def IsRows (w : World) (v : Value) (l : List Rw) : Prop := IsRow 9 rwF w v l
/-- The rows of an entry. -/
def rowsE (no : Nat) (x : En) : List Rw := x.ls.map fun y => ⟨no, x.seq, x.per, x.con, x.day, x.ref, y.p, y.c, y.a⟩
/-- The rows of books. -/
def rowsL (l : List En) : List Rw := (l.zipIdx).flatMap fun p => rowsE p.2 p.1
end Go.Proofs.YtckeaibamgkegaaDoor
