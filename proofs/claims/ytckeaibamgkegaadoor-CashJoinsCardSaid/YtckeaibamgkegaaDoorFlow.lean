/- rows of flows -/
import Derived.Test.YtckeaibamgkegaaDoorPush
set_option linter.all false
namespace Go.Proofs.YtckeaibamgkegaaDoor
open Go.RowKit
set_option maxRecDepth 100000

/-- A flow. -/
structure Fl where
  day : Int
  cur : Int
  amt : Int
  deriving DecidableEq
def flF (x : Fl) : Nat → Value
  | 0 => .int .i64 x.day
  | 1 => .int .i64 x.cur
  | _ => .int .i64 x.amt
def flCs (x : Fl) : List Value := [.int .i64 x.day, .int .i64 x.cur, .int .i64 x.amt]
theorem flCs_len (x : Fl) : (flCs x).length = 3 := rfl
theorem flCs_get (x : Fl) (j : Nat) (hj : j < 3) : (flCs x)[j]? = some (flF x j) := by
  rcases j with _ | _ | _ | j
  · rfl
  · rfl
  · rfl
  · omega
theorem flCs_one (x : Fl) : ∀ u ∈ flCs x, u.oneCell' = true := by
  intro u hu
  simp only [flCs, List.mem_cons, List.not_mem_nil, or_false] at hu
  rcases hu with rfl | rfl | rfl <;> rfl
def Fl.ok (x : Fl) : Prop := I64 x.day ∧ I64 x.cur ∧ I64 x.amt
abbrev IsFlows (w : World) (v : Value) (l : List Fl) : Prop := IsRow 3 flF w v l
theorem flowInfo : (Tryd.prog.info? 49).map (fun i => (i.zero, i.size, i.bytes)) = some (some (.agg #[.int .i64 0, .int .i64 0, .int .i64 0]), 3, 24) := by kernel_rfl
theorem sliceFlow : SliceOf Tryd.prog 47 49 3 24 := sliceOf_mk Tryd.underlying47 flowInfo rfl (by decide)
theorem sliceInt' : SliceOf Tryd.prog 58 3 1 8 := sliceOf_mk Tryd.underlying58 intInfo rfl (by decide)
theorem owns_flows {base : Nat} {w : World} {v : Value} {n : Nat} {L : List Fl} (h : w.ownsRow base 49 3 v n (L.flatMap flCs)) : IsFlows w v L ∧ n = L.length := B.owns_row flCs flCs_len flCs_get (by decide) h
/-- One flow is put behind flows of a call's own: flow_push. -/
theorem wpList_flow {base : Nat} {w : World} {v : Value} {L : List Fl} {ops : Array Oper} {rest : List Oper} {o : Oper} {a : Act} {Q : Exit → Act → World → Prop} {ta : TypeId} (y : Fl) (hM : w.ownsRow base 49 3 v L.length (L.flatMap flCs)) (hbase : base ≤ w.heap.size) (hgd : o.guard = none) (s x : Operand)
    (ho : o.op = .call { callee := .builtin .append, args := #[s, x], argTypes := #[47, 47] }) (hs : a.eval s = v) (c b : Nat) (hx : a.eval x = .slice (some ⟨b, 0, none⟩) 1 c) (hb : b = w.heap.size) (h64 : L.length ≤ 1000000)
    (h : ∀ v' w', w'.ownsRow base 49 3 v' (L ++ [y]).length ((L ++ [y]).flatMap flCs) → (w.alloc (.cells #[.int .i64 y.day, .int .i64 y.cur, .int .i64 y.amt] ta)).grownBy w' v.ownBlock → (v'.ownBlock = v.ownBlock ∨ ∀ k, v'.ownBlock = some k → w.heap.size ≤ k) → wpList Tryd.prog ops Q rest (a.put o.dst v') w') :
    wpList Tryd.prog ops Q (o :: rest) a (w.alloc (.cells #[.int .i64 y.day, .int .i64 y.cur, .int .i64 y.amt] ta)) := by
  refine B.wpList_push sliceFlow hM hbase hgd s x ho hs c b hx hb rfl (by simp [Value.oneCell']) (by omega) (by unfold maxLen; omega) (fun v' w' h1 h2 h3 => h v' w' ?_ h2 h3)
  rw [List.length_append, List.flatMap_append]
  exact h1
end Go.Proofs.YtckeaibamgkegaaDoor
