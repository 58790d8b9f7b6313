/- a number times 1 and the like: the plain laws -/
import Derived.Test.YtkpadahpepeaoaaDoorSPartsP
set_option linter.all false
namespace Go.Proofs.YtkpadahpepeaoaaDoor
open Go.RowKit
set_option maxRecDepth 100000

def num1 (n : Int) : Nd := ⟨1, 0, 0, n, 1⟩
theorem leaf_good (n : Int) (hn : n = 0 ∨ n = 1) : Good [num1 n] (.node (num1 n) []) := by
  rcases hn with rfl | rfl
  · exact ⟨treeOf_iff.2 ⟨⟨by decide, rfl, trivial⟩, rfl⟩, by decide, by decide, by decide, by decide⟩
  · exact ⟨treeOf_iff.2 ⟨⟨by decide, rfl, trivial⟩, rfl⟩, by decide, by decide, by decide, by decide⟩
theorem leaf_val (get : Int → Option Q2) (n : Int) : valT get (.node (num1 n) []) = (0, some (n, 1)) := by rw [valT_node]; rfl
def negN (a : List Nd) : List Nd := ⟨3, 0, 0, 0, 0⟩ :: a
def negT (s : Tm) : Tm := .node ⟨3, 0, 0, 0, 0⟩ [s]
theorem negN_good {a : List Nd} {s : Tm} (h : Good a s) (hm : makesI s.root.op = 1) (hl : a.length ≤ 60) (hd : s.depth ≤ 11) : Good (negN a) (negT s) := by
  obtain ⟨o1, e1⟩ := treeOf_iff.1 h.tree
  refine ⟨treeOf_iff.2 ⟨⟨by decide, rfl, o1, trivial⟩, by simp [negT, negN, Tm.flat, Tm.flat.flats, e1]⟩, by simp [negN]; omega, ?_, ?_, by simp [negT, Tm.depth, Tm.depth.depths]; omega⟩
  · intro x hx
    rcases List.mem_cons.1 hx with rfl | hx
    · decide
    · exact h.fields x hx
  · unfold negT Tm.sorted Tm.sorted.sorteds Tm.sorted.sorteds
    rw [h.sorted]
    simp only [Bool.and_true]
    unfold Tm.top
    refine decide_eq_true (fun j hj => ?_)
    simp only [List.length_cons, List.length_nil] at hj
    obtain rfl : j = 0 := by omega
    exact hm.trans (by decide)
theorem negT_makes (s : Tm) : makesI (negT s).root.op = 1 := by show makesI 3 = 1; decide
theorem neg_val (get : Int → Option Q2) (s : Tm) : valT get (negT s) = nodeV get ⟨3, 0, 0, 0, 0⟩ [valT get s] := valT_node get _ _
theorem neg_neg_val {get : Int → Option Q2} {s : Tm} (h : ResOk (valT get s)) : valT get (negT (negT s)) = valT get s := by
  rw [neg_val, neg_val]
  rcases h.cases with e | e | ⟨n, d, e, h1⟩ <;> rw [e]
  · rfl
  · rfl
  · show (0, some (- -n, d)) = _
    rw [Int.neg_neg]
theorem fitQ_self {n d : Int} (h : Valid n d) : fitQ n d = (0, some (n, d)) := by
  obtain ⟨e1, e2⟩ := red_of (n := n) (d := d) (k := 1) (n' := n) (d' := d) (by decide) h.d0 (by omega) (by omega) h.co
  have e3 : rE n d = 0 := by
    unfold rE
    have := h.d0; have := h.d1; have := h.n0; have := h.n1
    rw [if_neg (by omega), e1, e2, if_pos (by omega)]
  unfold fitQ rN rD
  simp only [e3, e1, e2, if_true]
theorem times_one {r : Int × Option Q2} (h : ResOk r) : twoV 6 (0, some (1, 1)) r = r := by
  rcases h.cases with rfl | rfl | ⟨n, d, rfl, h1⟩
  · rfl
  · rfl
  · rw [two_known (by decide)]
    unfold applyV
    simp only
    rw [if_neg (by decide), if_neg (by decide), if_pos (by decide), Int.one_mul, Int.one_mul]
    exact fitQ_self h1
theorem plus_nought {r : Int × Option Q2} (h : ResOk r) : twoV 4 (0, some (0, 1)) r = r := by
  rcases h.cases with rfl | rfl | ⟨n, d, rfl, h1⟩
  · rfl
  · rfl
  · rw [two_known (by decide)]
    unfold applyV
    simp only
    rw [if_pos (by decide), Int.one_mul, Int.zero_mul, Int.zero_add, Int.mul_one]
    exact fitQ_self h1
theorem pick_self {op : Int} (ho : op = 7 ∨ op = 8) {r : Int × Option Q2} (h : ResOk r) : twoV op r r = r := by
  rcases ho with rfl | rfl
  all_goals
    rcases h.cases with rfl | rfl | ⟨n, d, rfl, h1⟩
    · rfl
    · rfl
    · rw [two_known (by decide)]
      first | rw [applyV_least] | rw [applyV_most]
      simp
/-- What stands ahead of the number. -/
def headL : Nat → List Nd
  | 0 => [⟨6, 0, 0, 0, 0⟩, ⟨1, 0, 0, 1, 1⟩]
  | 1 => [⟨3, 0, 0, 0, 0⟩, ⟨3, 0, 0, 0, 0⟩]
  | _ => [⟨4, 0, 0, 0, 0⟩, ⟨1, 0, 0, 0, 1⟩]
theorem ones_all {a : List Nd} {T : Tm} (oa : ∀ x ∈ a, x.ok) (wa : wrongV a 0 = 0) (la : a.length ≤ 20) (hT : TmAt a 0 T) (hd : T.depth ≤ 10) {fx : FxL} {day : Int} (hg : GetOk (getF fx day)) :
    (∀ j, j < 3 → atV (headL j ++ a) fx 0 day = atV a fx 0 day) ∧ ∀ op, op = 7 ∨ op = 8 → atV (joinN op a a) fx 0 day = atV a fx 0 day := by
  obtain ⟨S, hS, mS, nS⟩ := first_fine oa wa
  obtain rfl : S = T := TmAt.unique (treeOf_at hS.tree).1 hT
  have r1 := valT_res hg nS
  have dl : ∀ n, (Tm.node (num1 n) []).depth = 1 := fun _ => rfl
  have ml : ∀ n, makesI (Tm.node (num1 n) []).root.op = 1 := fun _ => rfl
  have two : ∀ n, n = 0 ∨ n = 1 → ∀ op, 4 ≤ op → op ≤ 8 → atV (joinN op [num1 n] a) fx 0 day = if day < 0 ∨ 73048 < day then (18, none) else twoV op (0, some (n, 1)) (valT (getF fx day) S) := by
    intro n hn op h4 h8
    rw [atV_good fx day (join_good (op := op) h4 h8 (leaf_good n hn) hS (show 1 ≤ 30 by decide) (by omega) (ml n) mS (by rw [dl]; omega)) (joinT_makes h4 h8 _ _), join_val h4, leaf_val]
  refine ⟨fun j hj => ?_, fun op ho => ?_⟩
  · have hj3 : j = 0 ∨ j = 1 ∨ j = 2 := by omega
    rcases hj3 with rfl | rfl | rfl
    · have e : headL 0 ++ a = joinN 6 [num1 1] a := rfl
      rw [e, two 1 (.inr rfl) 6 (by decide) (by decide), times_one r1, atV_good fx day hS mS]
    · have e : headL 1 ++ a = negN (negN a) := rfl
      have g1 := negN_good hS mS (by omega) (by omega)
      have d1 : (negT S).depth = S.depth + 1 := by simp [negT, Tm.depth, Tm.depth.depths]
      rw [e, atV_good fx day (negN_good g1 (negT_makes _) (by simp [negN]; omega) (by omega)) (negT_makes _), neg_neg_val r1, atV_good fx day hS mS]
    · have e : headL 2 ++ a = joinN 4 [num1 0] a := rfl
      rw [e, two 0 (.inl rfl) 4 (by decide) (by decide), plus_nought r1, atV_good fx day hS mS]
  · rw [atV_good fx day (join_good (op := op) (by omega) (by omega) hS hS (by omega) (by omega) mS mS (by omega)) (joinT_makes (by omega) (by omega) _ _), join_val (by omega), pick_self ho r1, atV_good fx day hS mS]
end Go.Proofs.YtkpadahpepeaoaaDoor
