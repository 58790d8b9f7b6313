/- rows of structs; references of facts: Put, Get -/
import Derived.Test.YtkpadahpepeaoaaDoorJn
set_option linter.all false
namespace Go.Proofs.YtkpadahpepeaoaaDoor
open Go.RowKit
set_option maxRecDepth 100000

/-- A slice holds structs of some cells. -/
def IsRow {α : Type} (sz : Nat) (f : α → Nat → Value) (w : World) (v : Value) (xs : List α) : Prop :=
  (v = .slice none 0 0 ∧ xs = []) ∨ ∃ b o cap, v = .slice (some ⟨b, o, none⟩) xs.length cap ∧ b < w.heap.size ∧ xs.length ≤ cap ∧ cap ≤ maxLen ∧
    ∀ i (h : i < xs.length) j, j < sz → w.cell? ⟨b, o + i * sz + j, none⟩ = some (f xs[i] j)
section
variable {α : Type} {sz : Nat} {f : α → Nat → Value} {w w' : World} {v : Value} {xs : List α}
theorem IsRow.later (h : IsRow sz f w v xs) (hb : Later w w') : IsRow sz f w' v xs := by
  rcases h with h | ⟨b, o, cap, h1, h2, h3, h4, h5⟩
  · exact .inl h
  · exact .inr ⟨b, o, cap, h1, Nat.lt_of_lt_of_le h2 (Later.size hb), h3, h4, fun i hi j hj => ((bcell hb).1 _ _ h2).trans (h5 i hi j hj)⟩
theorem IsRow.cells (h : IsRow sz f w v xs) (hs : w.heap.size ≤ w'.heap.size) (hb : ∀ a u, w.cell? a = some u → w'.cell? a = some u) : IsRow sz f w' v xs := by
  rcases h with h | ⟨b, o, cap, h1, h2, h3, h4, h5⟩
  · exact .inl h
  · exact .inr ⟨b, o, cap, h1, Nat.lt_of_lt_of_le h2 hs, h3, h4, fun i hi j hj => hb _ _ (h5 i hi j hj)⟩
theorem IsRow.form (h : IsRow sz f w v xs) : ∃ p cap, v = .slice p xs.length cap := by
  rcases h with ⟨h1, h2⟩ | ⟨b, o, cap, h1, _⟩
  · subst h2; exact ⟨_, _, h1⟩
  · exact ⟨_, _, h1⟩
theorem IsRow.nil (w : World) : IsRow sz f w (.slice none 0 0) [] := .inl ⟨rfl, rfl⟩
theorem IsRow.full (h : IsRow sz f w v xs) {i : Nat} (hi : i < xs.length) : ∃ b o cap, v = .slice (some ⟨b, o, none⟩) xs.length cap ∧ b < w.heap.size ∧ ∀ j, j < sz → w.cell? ⟨b, o + i * sz + j, none⟩ = some (f xs[i] j) := by
  rcases h with ⟨_, rfl⟩ | ⟨b, o, cap, h1, h2, h3, h4, h5⟩
  · simp at hi
  · exact ⟨b, o, cap, h1, h2, fun j hj => h5 i hi j hj⟩
theorem flat_get (cs : α → List Value) (hcs : ∀ x, (cs x).length = sz) : ∀ (xs : List α) (i : Nat) (hi : i < xs.length) (j : Nat), j < sz → (xs.flatMap cs)[i * sz + j]? = (cs xs[i])[j]?
  | [], i, hi, _, _ => by simp at hi
  | x :: r, 0, _, j, hj => by
    rw [List.flatMap_cons, Nat.zero_mul, Nat.zero_add, List.getElem?_append_left (by rw [hcs]; exact hj)]; rfl
  | x :: r, i + 1, hi, j, hj => by
    rw [List.flatMap_cons, List.getElem?_append_right (by rw [hcs]; have : (i + 1) * sz = i * sz + sz := Nat.succ_mul i sz; omega), hcs]
    have := flat_get cs hcs r i (by simpa using hi) j hj
    have e : (i + 1) * sz + j - sz = i * sz + j := by rw [Nat.succ_mul]; omega
    rw [e, this]; rfl
theorem flat_len (cs : α → List Value) (hcs : ∀ x, (cs x).length = sz) : ∀ (xs : List α), (xs.flatMap cs).length = xs.length * sz
  | [] => by simp
  | x :: r => by rw [List.flatMap_cons, List.length_append, hcs, flat_len cs hcs r, List.length_cons, Nat.succ_mul]; omega
theorem Mine.row_ {w0 : World} {e : TypeId} {n : Nat} (cs : α → List Value) (hcs : ∀ x, (cs x).length = sz) (hf : ∀ x j, j < sz → (cs x)[j]? = some (f x j)) (hsz : 0 < sz) (h : Mine w0 e sz w v n (xs.flatMap cs)) : IsRow sz f w v xs ∧ n = xs.length := by
  have hn : n = xs.length := by have := h.1.1; rw [flat_len cs hcs] at this; exact Nat.eq_of_mul_eq_mul_right hsz this.symm
  refine ⟨?_, hn⟩
  subst hn
  rcases h.1.2 with ⟨h1, h2⟩ | ⟨g, cap, cur, h1, h2, h3, h4, h5, h6, h7⟩
  · exact .inl ⟨by rw [h1], List.eq_nil_of_length_eq_zero h2⟩
  · refine .inr ⟨g, 0, cap, h1, (h.1.lt g (by rw [h1]; rfl)).2, h4, h5, fun i hi j hj => ?_⟩
    have := h.1.cells (g := g) (by rw [h1]; rfl) (i * sz + j) (f xs[i] j) (by rw [flat_get cs hcs xs i hi j hj]; exact hf _ _ hj)
    rwa [add_plain, ← Nat.add_assoc] at this
end

/-- A fact, as the reference keeps it. -/
structure Fa where
  k : Int
  d : Int
  n : Int
  m : Int
  p : Int
  deriving DecidableEq
def Fa.cell (x : Fa) : Nat → Value
  | 0 => .int .i64 x.k
  | 1 => .int .i64 x.d
  | 2 => .int .i64 x.n
  | 3 => .int .i64 x.m
  | _ => .int .i64 x.p
def Fa.cs (x : Fa) : List Value := [.int .i64 x.k, .int .i64 x.d, .int .i64 x.n, .int .i64 x.m, .int .i64 x.p]
theorem Fa.cs_len (x : Fa) : x.cs.length = 5 := rfl
theorem Fa.cs_get (x : Fa) (j : Nat) (hj : j < 5) : x.cs[j]? = some (x.cell j) := by
  rcases j with _ | _ | _ | _ | _ | j
  · rfl
  · rfl
  · rfl
  · rfl
  · rfl
  · omega
abbrev IsFacts (w : World) (v : Value) (l : List Fa) : Prop := IsRow 5 Fa.cell w v l
theorem factInfo : (Tryd.prog.info? 75).map (fun i => (i.zero, i.size, i.bytes)) = some (some (.agg #[.int .i64 0, .int .i64 0, .int .i64 0, .int .i64 0, .int .i64 0]), 5, 40) := by kernel_rfl
theorem sliceFact : SliceOf Tryd.prog 36 75 5 40 := sliceOf_mk Tryd.underlying36 factInfo rfl (by decide)

def bi (b : Bool) : Nat := if b then 1 else 0
/-- With one more, in place of another one of its key and day: what comes of the rest. -/
def putR (x : Fa) : Bool → List Fa → List Fa
  | inn, [] => if inn then [] else [x]
  | inn, y :: r =>
    (if inn = false ∧ (y.k > x.k ∨ y.k = x.k ∧ y.d ≥ x.d) then [x] else []) ++ (if y.k ≠ x.k ∨ y.d ≠ x.d then [y] else []) ++ putR x (inn || decide (y.k > x.k ∨ y.k = x.k ∧ y.d ≥ x.d)) r
def getR (l : List Fa) (k d : Int) : Option Fa := l.find? (fun y => y.k == k && y.d == d)
theorem getR_cons (y : Fa) (r : List Fa) (k d : Int) : getR (y :: r) k d = if y.k = k ∧ y.d = d then some y else getR r k d := by
  unfold getR
  rw [List.find?_cons]
  by_cases h : y.k = k ∧ y.d = d
  · simp [h.1, h.2]
  · have : (y.k == k && y.d == d) = false := by
      by_cases h1 : y.k = k
      · have h2 : y.d ≠ d := fun e => h ⟨h1, e⟩
        simp [h1, h2]
      · simp [h1]
    rw [this, if_neg h]
theorem getR_putR (x : Fa) : ∀ (l : List Fa) (inn : Bool) (k d : Int), getR (putR x inn l) k d = if k = x.k ∧ d = x.d then (if inn then none else some x) else getR l k d
  | [], inn, k, d => by
    cases inn
    · show getR [x] k d = _
      rw [getR_cons]
      by_cases h : k = x.k ∧ d = x.d
      · rw [if_pos h, if_pos ⟨h.1.symm, h.2.symm⟩]; rfl
      · rw [if_neg h, if_neg (fun e => h ⟨e.1.symm, e.2.symm⟩)]
    · show getR [] k d = _
      by_cases h : k = x.k ∧ d = x.d
      · rw [if_pos h]; rfl
      · rw [if_neg h]
  | y :: r, inn, k, d => by
    have ih := getR_putR x r
    have tl : ∀ inn', getR ((if y.k ≠ x.k ∨ y.d ≠ x.d then [y] else []) ++ putR x inn' r) k d = if k = x.k ∧ d = x.d then (if inn' then none else some x) else getR (y :: r) k d := by
      intro inn'
      by_cases hy : y.k ≠ x.k ∨ y.d ≠ x.d
      · rw [if_pos hy, List.singleton_append, getR_cons, ih, getR_cons]
        by_cases h : k = x.k ∧ d = x.d
        · rw [if_neg (by rintro ⟨a, b⟩; rcases hy with hy | hy <;> omega), if_pos h, if_pos h]
        · rw [if_neg h, if_neg h]
      · have hy' : y.k = x.k ∧ y.d = x.d := by constructor <;> (apply Classical.byContradiction; intro h; exact hy (by first | exact .inl h | exact .inr h))
        rw [if_neg hy, List.nil_append, ih, getR_cons]
        by_cases h : k = x.k ∧ d = x.d
        · rw [if_pos h, if_pos h]
        · rw [if_neg h, if_neg h, if_neg (by rintro ⟨a, b⟩; exact h ⟨a.symm.trans hy'.1, b.symm.trans hy'.2⟩)]
    show getR ((_ ++ _) ++ _) k d = _
    rw [List.append_assoc]
    cases inn with
    | true => rw [if_neg (by simp), List.nil_append, Bool.true_or, tl]
    | false =>
      by_cases hc : y.k > x.k ∨ y.k = x.k ∧ y.d ≥ x.d
      · rw [if_pos ⟨rfl, hc⟩, List.singleton_append, getR_cons, decide_eq_true hc, Bool.false_or, tl]
        by_cases h : k = x.k ∧ d = x.d
        · rw [if_pos ⟨h.1.symm, h.2.symm⟩, if_pos h]; rfl
        · rw [if_neg (fun e => h ⟨e.1.symm, e.2.symm⟩), if_neg h, if_neg h]
      · rw [if_neg (fun e => hc e.2), List.nil_append, decide_eq_false hc, Bool.false_or, tl]
theorem putR_len (x : Fa) : ∀ (l : List Fa) (inn : Bool), (putR x inn l).length ≤ l.length + 1
  | [], inn => by cases inn <;> simp [putR]
  | y :: r, inn => by
    unfold putR
    cases inn with
    | true =>
      rw [if_neg (by simp), List.nil_append, List.length_append, Bool.true_or]
      have key : ∀ (r : List Fa), (putR x true r).length ≤ r.length := by
        intro r
        induction r with
        | nil => simp [putR]
        | cons z r ih => unfold putR; rw [if_neg (by simp), List.nil_append, List.length_append, Bool.true_or, List.length_cons]; split <;> simp <;> omega
      have := key r
      rw [List.length_cons]; split <;> simp <;> omega
    | false =>
      by_cases hc : y.k > x.k ∨ y.k = x.k ∧ y.d ≥ x.d
      · rw [if_pos ⟨rfl, hc⟩, decide_eq_true hc, Bool.false_or]
        have key : ∀ (r : List Fa), (putR x true r).length ≤ r.length := by
          intro r
          induction r with
          | nil => simp [putR]
          | cons z r ih => unfold putR; rw [if_neg (by simp), List.nil_append, List.length_append, Bool.true_or, List.length_cons]; split <;> simp <;> omega
        have := key r
        rw [List.length_append, List.length_append, List.length_cons]; split <;> simp <;> omega
      · rw [if_neg (fun e => hc e.2), List.nil_append, decide_eq_false hc, Bool.false_or, List.length_append]
        have := putR_len x r false
        rw [List.length_cons]; split <;> simp <;> omega

/-- One element is appended, behind the block that holds it, wherever that is. -/
theorem wpList_pushAt {P : Program} {w0 w : World} {e sz : Nat} {v : Value} {n : Nat} {xs : List Value} {ops : Array Oper} {rest : List Oper} {o : Oper} {a : Act} {Q : Exit → Act → World → Prop} {t bytes : Nat} {ta : TypeId} {news : Array Value}
    (T : SliceOf P t e sz bytes) (hM : Mine w0 e sz w v n xs) (hgd : o.guard = none) (s x : Operand)
    (ho : o.op = .call { callee := .builtin .append, args := #[s, x], argTypes := #[t, t] }) (hs : a.eval s = v) (c b : Nat) (hx : a.eval x = .slice (some ⟨b, 0, none⟩) 1 c) (hb : b = w.heap.size) (hl : news.size = sz) (h1 : ∀ u ∈ news.toList, u.oneCell' = true)
    (h63 : (n + 1) * bytes ≤ 140737488355328) (h64 : n + 1 ≤ maxLen)
    (h : ∀ v' w', Mine w0 e sz w' v' (n + 1) (xs ++ news.toList) → (w.alloc (.cells news ta)).grownBy w' v.ownBlock → wpList P ops Q rest (a.put o.dst v') w') : wpList P ops Q (o :: rest) a (w.alloc (.cells news ta)) :=
  wpList_push T hM hgd s x ho hs c (by rw [hx, hb]) hl h1 h63 h64 h
theorem grown_cell {w w' : World} {row : Option Nat} (hg : w.grownBy w' row) {b i : Nat} {u : Value} (h : w.cell? ⟨b, i, none⟩ = some u) (hne : some b ≠ row) : w'.cell? ⟨b, i, none⟩ = some u := by
  have hb := hg.block b (World.block_lt_of_cell? _ _ h) hne
  unfold World.cell? at h ⊢
  simp only at h ⊢
  rw [hb]; exact h
theorem grown_size {w w' : World} {row : Option Nat} (hg : w.grownBy w' row) : w.heap.size ≤ w'.heap.size := hg.size
set_option maxHeartbeats 4000000 in
theorem put_any (l : List Fa) (hlen : l.length ≤ 100000) (x : Fa) (v : Value) (w : World) (hN : IsFacts w v l) :
    Calls Tryd.prog 28 #[v, .agg #[.int .i64 x.k, .int .i64 x.d, .int .i64 x.n, .int .i64 x.m, .int .i64 x.p]] w fun e w' => ∃ v', e = .returned v' ∧ IsFacts w' v' (putR x false l) ∧ Later w w' := by
  obtain ⟨p, cp, rfl⟩ := hN.form
  have HN := Lib.hid hN
  have HPL := Lib.hid (putR_len x l false)
  clear hN
  obtain ⟨L, hL⟩ : ∃ L, l.length = L := ⟨_, rfl⟩
  rw [hL] at HN hlen HPL ⊢
  have HL := Lib.hid hL
  clear hL
  obtain ⟨xk, xd, xn, xm, xp⟩ := x
  simp only
  obtain ⟨X, hX⟩ : ∃ X : Fa, (⟨xk, xd, xn, xm, xp⟩ : Fa) = X := ⟨_, rfl⟩
  rw [hX] at HPL ⊢
  have HX := Lib.hid hX
  have HXC := Lib.hid (show Fa.cs X = (#[.int .i64 xk, .int .i64 xd, .int .i64 xn, .int .i64 xm, .int .i64 xp] : Array Value).toList by rw [← hX]; rfl)
  clear hX
  have hOX := Lib.hid (own_alloc w #[.int .i64 xk, .int .i64 xd, .int .i64 xn, .int .i64 xm, .int .i64 xp] 75)
  have hLX := Lib.hid ((Later.refl w).alloc (.cells #[.int .i64 xk, .int .i64 xd, .int .i64 xn, .int .i64 xm, .int .i64 xp] 75))
  go_enter Tryd.func28, Tryd.ntmps28
  go_wp2
  obtain ⟨w0, hw0⟩ : ∃ W, w.alloc (.cells #[.int .i64 xk, .int .i64 xd, .int .i64 xn, .int .i64 xm, .int .i64 xp] 75) = W := ⟨_, rfl⟩
  rw [hw0] at hOX hLX ⊢
  clear hw0
  obtain ⟨zx, cx, -⟩ := own_get hOX.out
  have x0 := cx 0
  have x1 := cx 1
  have x2 := cx 2
  have x3 := cx 3
  have x4 := cx 4
  simp only [List.getElem?_toArray, List.getElem?_cons_zero, List.getElem?_cons_succ] at x0 x1 x2 x3 x4
  clear cx hOX
  have hz0 := Later.size hLX.out
  go_loopw [5, 6, 7] (fun s5 s6 s7 wr => ∃ (j : Nat) (inn : Bool) (acc : List Fa), j ≤ L ∧ s7 = .int .i64 j ∧ s6 = .bool inn ∧ acc.length ≤ j + bi inn ∧ Hid (acc ++ putR X inn (l.drop j) = putR X false l) ∧ Mine w0 75 5 wr s5 acc.length (acc.flatMap Fa.cs)) (fun _ _ s7 _ => L - (intOf s7).toNat)
  case atStart => exact ⟨0, false, [], Nat.zero_le _, rfl, rfl, Nat.zero_le _, Lib.hid rfl, Mine.nil (Later.refl _)⟩
  case round =>
    obtain ⟨j, inn, acc, hj, rfl, rfl, hacc, hput, hM⟩ := hrel
    obtain ⟨p', cp', rfl⟩ := hM.form
    have hlat := hM.lat
    have y0 := ((bcell hlat).1 _ _ zx).trans x0
    have y1 := ((bcell hlat).1 _ _ zx).trans x1
    have y2 := ((bcell hlat).1 _ _ zx).trans x2
    have y3 := ((bcell hlat).1 _ _ zx).trans x3
    have y4 := ((bcell hlat).1 _ _ zx).trans x4
    have hzr := Later.size hlat
    have hzx : w.heap.size < wr.heap.size := by omega
    have HM := Lib.hid (fun W (hb : Later wr W) => hM.later hb)
    have HM0 := Lib.hid hM
    by_cases hlt : j < L
    · have hjl : j < l.length := by rw [HL.out]; exact hlt
      obtain ⟨b, o, cp2, hv, hb, gg⟩ := HN.out.full (i := j) hjl
      rw [HL.out] at hv
      cases hv
      have g0 := ((bcell (hLX.out.trans hlat)).1 _ _ hb).trans (gg 0 (by omega))
      have g1 := ((bcell (hLX.out.trans hlat)).1 _ _ hb).trans (gg 1 (by omega))
      have g2 := ((bcell (hLX.out.trans hlat)).1 _ _ hb).trans (gg 2 (by omega))
      have g3 := ((bcell (hLX.out.trans hlat)).1 _ _ hb).trans (gg 3 (by omega))
      have g4 := ((bcell (hLX.out.trans hlat)).1 _ _ hb).trans (gg 4 (by omega))
      have hdr : l.drop j = l[j] :: l.drop (j + 1) := by rw [List.getElem_cons_drop]
      rw [hdr] at hput
      obtain ⟨Y, hY⟩ : ∃ Y, l[j] = Y := ⟨_, rfl⟩
      rw [hY] at hput g0 g1 g2 g3 g4
      obtain ⟨yk, yd, yn, ym, yp⟩ := Y
      simp only [Fa.cell, Nat.add_zero] at g0 g1 g2 g3 g4
      have HYC := Lib.hid (show Fa.cs ⟨yk, yd, yn, ym, yp⟩ = (#[.int .i64 yk, .int .i64 yd, .int .i64 yn, .int .i64 ym, .int .i64 yp] : Array Value).toList from rfl)
      have hsz := Later.size (hLX.out.trans hlat)
      have hput2 := hput.out
      have hun : putR X inn (⟨yk, yd, yn, ym, yp⟩ :: l.drop (j + 1)) = (if inn = false ∧ (yk > X.k ∨ yk = X.k ∧ yd ≥ X.d) then [X] else []) ++ (if yk ≠ X.k ∨ yd ≠ X.d then [⟨yk, yd, yn, ym, yp⟩] else []) ++ putR X (inn || decide (yk > X.k ∨ yk = X.k ∧ yd ≥ X.d)) (l.drop (j + 1)) := rfl
      rw [hun] at hput2
      have HPU : ∀ k d, X.k = k → X.d = d → acc ++ ((if inn = false ∧ (yk > k ∨ yk = k ∧ yd ≥ d) then [X] else []) ++ (if yk ≠ k ∨ yd ≠ d then [⟨yk, yd, yn, ym, yp⟩] else []) ++ putR X (inn || decide (yk > k ∨ yk = k ∧ yd ≥ d)) (l.drop (j + 1))) = putR X false l := by rintro _ _ rfl rfl; exact hput2
      have HPP := Lib.hid (HPU xk xd (by rw [← HX.out]) (by rw [← HX.out]))
      clear hput hput2 hun hdr hY gg hM hlat HPU x2 x3 x4
      generalize hacn : acc.length = ac at *
      have HACN := Lib.hid hacn
      clear hacn
      have hne5 : some wr.heap.size ≠ (Value.slice p' ac cp').ownBlock := by
        intro e
        have := (HM0.out.1.lt _ e.symm).2
        omega
      cases inn with
      | true =>
        have hac2 : ac ≤ j + 1 := hacc
        by_cases hk : yk = xk
        · subst hk
          by_cases hd : yd = xd
          · subst hd
            go_wp2
            have hc2 : ¬ (yk ≠ yk ∨ yd ≠ yd) := by omega
            have hres : acc ++ putR X true (l.drop (j + 1)) = putR X false l := by rw [← HPP.out, if_neg (by simp), Bool.true_or, if_neg hc2]; simp
            have hlen2 : acc.length = ac := HACN.out
            exact ⟨⟨j + 1, true, acc, by omega, by simp, rfl, (show acc.length ≤ (j + 1) + 1 by omega), Lib.hid hres, by rw [hlen2]; exact HM.out _ (by repeat (first | with_reducible exact Later.refl _ | with_reducible assumption | with_reducible refine Later.ofdrew ?_ | with_reducible refine Later.ofdrewN ?_ | with_reducible refine Later.setCell ?_ ?_ _ | with_reducible refine Later.alloc ?_ _ | with_reducible refine Later.drewN ?_ _ | with_reducible refine Later.drew ?_ | (with_reducible refine Later.trans ?_ (by assumption)) | (simp only [World.size_setCell, World.size_alloc, World.heap_drewN]; omega) | (simp; done) | (simp; omega)))⟩, by simp [intOf]; omega⟩
          · skip
            have d1 : (yd == xd) = false := by simpa using hd
            have d2 : (yd != xd) = true := by simpa using hd
            go_wp2_with (at_builtin; go_must (refine wpList_pushAt sliceFact (HM.out _ (by repeat (first | with_reducible exact Later.refl _ | with_reducible assumption | with_reducible refine Later.ofdrew ?_ | with_reducible refine Later.ofdrewN ?_ | with_reducible refine Later.setCell ?_ ?_ _ | with_reducible refine Later.alloc ?_ _ | with_reducible refine Later.drewN ?_ _ | with_reducible refine Later.drew ?_ | (with_reducible refine Later.trans ?_ (by assumption)) | (simp only [World.size_setCell, World.size_alloc, World.heap_drewN]; omega) | (simp; done) | (simp; omega)))) rfl _ _ rfl rfl 1 _ rfl (by simp) rfl (by simp [Value.oneCell']) (by omega) (by unfold maxLen; omega) ?_; intro v6 w6 hM6 hg6; obtain ⟨p6, cp6, rfl⟩ := hM6.form))
            have hc2 : (yk ≠ yk ∨ yd ≠ xd) := by omega
            have hres : (acc ++ ([Fa.mk yk yd yn ym yp])) ++ putR X true (l.drop (j + 1)) = putR X false l := by rw [← HPP.out, if_neg (by simp), Bool.true_or, if_pos hc2]; simp
            have hlen2 : (acc ++ ([Fa.mk yk yd yn ym yp])).length = ac + 1 := by simp [HACN.out]
            have hM7 := hM6
            exact ⟨⟨j + 1, true, (acc ++ ([Fa.mk yk yd yn ym yp])), by omega, by simp, rfl, (show (acc ++ ([Fa.mk yk yd yn ym yp])).length ≤ (j + 1) + 1 by omega), Lib.hid hres, by rw [hlen2]; simpa [Fa.cs] using hM7⟩, by simp [intOf]; omega⟩
        · skip
          have k1 : (yk == xk) = false := by simpa using hk
          have k2 : (yk != xk) = true := by simpa using hk
          go_wp2_with (at_builtin; go_must (refine wpList_pushAt sliceFact (HM.out _ (by repeat (first | with_reducible exact Later.refl _ | with_reducible assumption | with_reducible refine Later.ofdrew ?_ | with_reducible refine Later.ofdrewN ?_ | with_reducible refine Later.setCell ?_ ?_ _ | with_reducible refine Later.alloc ?_ _ | with_reducible refine Later.drewN ?_ _ | with_reducible refine Later.drew ?_ | (with_reducible refine Later.trans ?_ (by assumption)) | (simp only [World.size_setCell, World.size_alloc, World.heap_drewN]; omega) | (simp; done) | (simp; omega)))) rfl _ _ rfl rfl 1 _ rfl (by simp) rfl (by simp [Value.oneCell']) (by omega) (by unfold maxLen; omega) ?_; intro v6 w6 hM6 hg6; obtain ⟨p6, cp6, rfl⟩ := hM6.form))
          have hc2 : (yk ≠ xk ∨ yd ≠ xd) := by omega
          have hres : (acc ++ ([Fa.mk yk yd yn ym yp])) ++ putR X true (l.drop (j + 1)) = putR X false l := by rw [← HPP.out, if_neg (by simp), Bool.true_or, if_pos hc2]; simp
          have hlen2 : (acc ++ ([Fa.mk yk yd yn ym yp])).length = ac + 1 := by simp [HACN.out]
          have hM7 := hM6
          exact ⟨⟨j + 1, true, (acc ++ ([Fa.mk yk yd yn ym yp])), by omega, by simp, rfl, (show (acc ++ ([Fa.mk yk yd yn ym yp])).length ≤ (j + 1) + 1 by omega), Lib.hid hres, by rw [hlen2]; simpa [Fa.cs] using hM7⟩, by simp [intOf]; omega⟩
      | false =>
        have hac2 : ac ≤ j := hacc
        by_cases hk : yk = xk
        · subst hk
          by_cases hd : yd = xd
          · subst hd
            have tok1 : True := trivial
            go_wp2_with (at_builtin; clear tok1; go_must (refine wpList_pushAt sliceFact (HM.out _ (by repeat (first | with_reducible exact Later.refl _ | with_reducible assumption | with_reducible refine Later.ofdrew ?_ | with_reducible refine Later.ofdrewN ?_ | with_reducible refine Later.setCell ?_ ?_ _ | with_reducible refine Later.alloc ?_ _ | with_reducible refine Later.drewN ?_ _ | with_reducible refine Later.drew ?_ | (with_reducible refine Later.trans ?_ (by assumption)) | (simp only [World.size_setCell, World.size_alloc, World.heap_drewN]; omega) | (simp; done) | (simp; omega)))) rfl _ _ rfl rfl 1 _ rfl (by simp) rfl (by simp [Value.oneCell']) (by omega) (by unfold maxLen; omega) ?_; intro v5 w5 hM5 hg5; obtain ⟨p5, cp5, rfl⟩ := hM5.form; have hl5 := hM5.lat; have y50 := ((bcell hl5).1 _ _ zx).trans x0; have y51 := ((bcell hl5).1 _ _ zx).trans x1; have q0 := grown_cell hg5 (b := wr.heap.size) (i := 0) (by simp; rfl) hne5; have q1 := grown_cell hg5 (b := wr.heap.size) (i := 1) (by simp; rfl) hne5; have q2 := grown_cell hg5 (b := wr.heap.size) (i := 2) (by simp; rfl) hne5; have q3 := grown_cell hg5 (b := wr.heap.size) (i := 3) (by simp; rfl) hne5; have q4 := grown_cell hg5 (b := wr.heap.size) (i := 4) (by simp; rfl) hne5; have hz5 := grown_size hg5; (try simp only [World.size_alloc] at hz5)))
            have hc2 : ¬ (yk ≠ yk ∨ yd ≠ yd) := by omega
            have hc : (yk > yk ∨ yk = yk ∧ yd ≥ yd) := by omega
            have hres : (acc ++ ([X])) ++ putR X true (l.drop (j + 1)) = putR X false l := by rw [← HPP.out, if_pos ⟨rfl, hc⟩, decide_eq_true hc, Bool.false_or, if_neg hc2]; simp
            have hlen2 : (acc ++ ([X])).length = ac + 1 := by simp [HACN.out]
            have hM7 := hM5
            rw [← HXC.out] at hM7
            exact ⟨⟨j + 1, true, (acc ++ ([X])), by omega, by simp, rfl, (show (acc ++ ([X])).length ≤ (j + 1) + 1 by omega), Lib.hid hres, by rw [hlen2]; simpa [Fa.cs] using hM7⟩, by simp [intOf]; omega⟩
          · by_cases hd3 : xd < yd
            · skip
              have d1 : (yd == xd) = false := by simpa using hd
              have d2 : (yd != xd) = true := by simpa using hd
              have tok1 : True := trivial
              go_wp2_with (first | (at_builtin; clear tok1; go_must (refine wpList_pushAt sliceFact (HM.out _ (by repeat (first | with_reducible exact Later.refl _ | with_reducible assumption | with_reducible refine Later.ofdrew ?_ | with_reducible refine Later.ofdrewN ?_ | with_reducible refine Later.setCell ?_ ?_ _ | with_reducible refine Later.alloc ?_ _ | with_reducible refine Later.drewN ?_ _ | with_reducible refine Later.drew ?_ | (with_reducible refine Later.trans ?_ (by assumption)) | (simp only [World.size_setCell, World.size_alloc, World.heap_drewN]; omega) | (simp; done) | (simp; omega)))) rfl _ _ rfl rfl 1 _ rfl (by simp) rfl (by simp [Value.oneCell']) (by omega) (by unfold maxLen; omega) ?_; intro v5 w5 hM5 hg5; obtain ⟨p5, cp5, rfl⟩ := hM5.form; have hl5 := hM5.lat; have y50 := ((bcell hl5).1 _ _ zx).trans x0; have y51 := ((bcell hl5).1 _ _ zx).trans x1; have q0 := grown_cell hg5 (b := wr.heap.size) (i := 0) (by simp; rfl) hne5; have q1 := grown_cell hg5 (b := wr.heap.size) (i := 1) (by simp; rfl) hne5; have q2 := grown_cell hg5 (b := wr.heap.size) (i := 2) (by simp; rfl) hne5; have q3 := grown_cell hg5 (b := wr.heap.size) (i := 3) (by simp; rfl) hne5; have q4 := grown_cell hg5 (b := wr.heap.size) (i := 4) (by simp; rfl) hne5; have hz5 := grown_size hg5; (try simp only [World.size_alloc] at hz5))) | (at_builtin; go_must (refine wpList_pushAt sliceFact hM5 rfl _ _ rfl rfl 1 _ rfl (by simp) rfl (by simp [Value.oneCell']) (by omega) (by unfold maxLen; omega) ?_; intro v6 w6 hM6 hg6; obtain ⟨p6, cp6, rfl⟩ := hM6.form)))
              have hc2 : (yk ≠ yk ∨ yd ≠ xd) := by omega
              have hc : (yk > yk ∨ yk = yk ∧ yd ≥ xd) := by omega
              have hres : (acc ++ ([X] ++ [Fa.mk yk yd yn ym yp])) ++ putR X true (l.drop (j + 1)) = putR X false l := by rw [← HPP.out, if_pos ⟨rfl, hc⟩, decide_eq_true hc, Bool.false_or, if_pos hc2]; simp
              have hlen2 : (acc ++ ([X] ++ [Fa.mk yk yd yn ym yp])).length = ac + 2 := by simp [HACN.out]
              have hM7 := hM6
              rw [← HXC.out] at hM7
              exact ⟨⟨j + 1, true, (acc ++ ([X] ++ [Fa.mk yk yd yn ym yp])), by omega, by simp, rfl, (show (acc ++ ([X] ++ [Fa.mk yk yd yn ym yp])).length ≤ (j + 1) + 1 by omega), Lib.hid hres, by rw [hlen2]; simpa [Fa.cs] using hM7⟩, by simp [intOf]; omega⟩
            · have hd4 : yd < xd := by omega
              have d1 : (yd == xd) = false := by simpa using hd
              have d2 : (yd != xd) = true := by simpa using hd
              go_wp2_with (at_builtin; go_must (refine wpList_pushAt sliceFact (HM.out _ (by repeat (first | with_reducible exact Later.refl _ | with_reducible assumption | with_reducible refine Later.ofdrew ?_ | with_reducible refine Later.ofdrewN ?_ | with_reducible refine Later.setCell ?_ ?_ _ | with_reducible refine Later.alloc ?_ _ | with_reducible refine Later.drewN ?_ _ | with_reducible refine Later.drew ?_ | (with_reducible refine Later.trans ?_ (by assumption)) | (simp only [World.size_setCell, World.size_alloc, World.heap_drewN]; omega) | (simp; done) | (simp; omega)))) rfl _ _ rfl rfl 1 _ rfl (by simp) rfl (by simp [Value.oneCell']) (by omega) (by unfold maxLen; omega) ?_; intro v6 w6 hM6 hg6; obtain ⟨p6, cp6, rfl⟩ := hM6.form))
              have hc2 : (yk ≠ yk ∨ yd ≠ xd) := by omega
              have hc : ¬ (yk > yk ∨ yk = yk ∧ yd ≥ xd) := by omega
              have hres : (acc ++ ([Fa.mk yk yd yn ym yp])) ++ putR X false (l.drop (j + 1)) = putR X false l := by rw [← HPP.out, if_neg (fun e => hc e.2), decide_eq_false hc, Bool.false_or, if_pos hc2]; simp
              have hlen2 : (acc ++ ([Fa.mk yk yd yn ym yp])).length = ac + 1 := by simp [HACN.out]
              have hM7 := hM6
              exact ⟨⟨j + 1, false, (acc ++ ([Fa.mk yk yd yn ym yp])), by omega, by simp, rfl, (show (acc ++ ([Fa.mk yk yd yn ym yp])).length ≤ (j + 1) + 0 by omega), Lib.hid hres, by rw [hlen2]; simpa [Fa.cs] using hM7⟩, by simp [intOf]; omega⟩
        · by_cases hk3 : xk < yk
          · skip
            have k1 : (yk == xk) = false := by simpa using hk
            have k2 : (yk != xk) = true := by simpa using hk
            have tok1 : True := trivial
            go_wp2_with (first | (at_builtin; clear tok1; go_must (refine wpList_pushAt sliceFact (HM.out _ (by repeat (first | with_reducible exact Later.refl _ | with_reducible assumption | with_reducible refine Later.ofdrew ?_ | with_reducible refine Later.ofdrewN ?_ | with_reducible refine Later.setCell ?_ ?_ _ | with_reducible refine Later.alloc ?_ _ | with_reducible refine Later.drewN ?_ _ | with_reducible refine Later.drew ?_ | (with_reducible refine Later.trans ?_ (by assumption)) | (simp only [World.size_setCell, World.size_alloc, World.heap_drewN]; omega) | (simp; done) | (simp; omega)))) rfl _ _ rfl rfl 1 _ rfl (by simp) rfl (by simp [Value.oneCell']) (by omega) (by unfold maxLen; omega) ?_; intro v5 w5 hM5 hg5; obtain ⟨p5, cp5, rfl⟩ := hM5.form; have hl5 := hM5.lat; have y50 := ((bcell hl5).1 _ _ zx).trans x0; have y51 := ((bcell hl5).1 _ _ zx).trans x1; have q0 := grown_cell hg5 (b := wr.heap.size) (i := 0) (by simp; rfl) hne5; have q1 := grown_cell hg5 (b := wr.heap.size) (i := 1) (by simp; rfl) hne5; have q2 := grown_cell hg5 (b := wr.heap.size) (i := 2) (by simp; rfl) hne5; have q3 := grown_cell hg5 (b := wr.heap.size) (i := 3) (by simp; rfl) hne5; have q4 := grown_cell hg5 (b := wr.heap.size) (i := 4) (by simp; rfl) hne5; have hz5 := grown_size hg5; (try simp only [World.size_alloc] at hz5))) | (at_builtin; go_must (refine wpList_pushAt sliceFact hM5 rfl _ _ rfl rfl 1 _ rfl (by simp) rfl (by simp [Value.oneCell']) (by omega) (by unfold maxLen; omega) ?_; intro v6 w6 hM6 hg6; obtain ⟨p6, cp6, rfl⟩ := hM6.form)))
            have hc2 : (yk ≠ xk ∨ yd ≠ xd) := by omega
            have hc : (yk > xk ∨ yk = xk ∧ yd ≥ xd) := by omega
            have hres : (acc ++ ([X] ++ [Fa.mk yk yd yn ym yp])) ++ putR X true (l.drop (j + 1)) = putR X false l := by rw [← HPP.out, if_pos ⟨rfl, hc⟩, decide_eq_true hc, Bool.false_or, if_pos hc2]; simp
            have hlen2 : (acc ++ ([X] ++ [Fa.mk yk yd yn ym yp])).length = ac + 2 := by simp [HACN.out]
            have hM7 := hM6
            rw [← HXC.out] at hM7
            exact ⟨⟨j + 1, true, (acc ++ ([X] ++ [Fa.mk yk yd yn ym yp])), by omega, by simp, rfl, (show (acc ++ ([X] ++ [Fa.mk yk yd yn ym yp])).length ≤ (j + 1) + 1 by omega), Lib.hid hres, by rw [hlen2]; simpa [Fa.cs] using hM7⟩, by simp [intOf]; omega⟩
          · have hk4 : yk < xk := by omega
            have k1 : (yk == xk) = false := by simpa using hk
            have k2 : (yk != xk) = true := by simpa using hk
            go_wp2_with (at_builtin; go_must (refine wpList_pushAt sliceFact (HM.out _ (by repeat (first | with_reducible exact Later.refl _ | with_reducible assumption | with_reducible refine Later.ofdrew ?_ | with_reducible refine Later.ofdrewN ?_ | with_reducible refine Later.setCell ?_ ?_ _ | with_reducible refine Later.alloc ?_ _ | with_reducible refine Later.drewN ?_ _ | with_reducible refine Later.drew ?_ | (with_reducible refine Later.trans ?_ (by assumption)) | (simp only [World.size_setCell, World.size_alloc, World.heap_drewN]; omega) | (simp; done) | (simp; omega)))) rfl _ _ rfl rfl 1 _ rfl (by simp) rfl (by simp [Value.oneCell']) (by omega) (by unfold maxLen; omega) ?_; intro v6 w6 hM6 hg6; obtain ⟨p6, cp6, rfl⟩ := hM6.form))
            have hc2 : (yk ≠ xk ∨ yd ≠ xd) := by omega
            have hc : ¬ (yk > xk ∨ yk = xk ∧ yd ≥ xd) := by omega
            have hres : (acc ++ ([Fa.mk yk yd yn ym yp])) ++ putR X false (l.drop (j + 1)) = putR X false l := by rw [← HPP.out, if_neg (fun e => hc e.2), decide_eq_false hc, Bool.false_or, if_pos hc2]; simp
            have hlen2 : (acc ++ ([Fa.mk yk yd yn ym yp])).length = ac + 1 := by simp [HACN.out]
            have hM7 := hM6
            exact ⟨⟨j + 1, false, (acc ++ ([Fa.mk yk yd yn ym yp])), by omega, by simp, rfl, (show (acc ++ ([Fa.mk yk yd yn ym yp])).length ≤ (j + 1) + 0 by omega), Lib.hid hres, by rw [hlen2]; simpa [Fa.cs] using hM7⟩, by simp [intOf]; omega⟩
    · have hfin : l.drop j = [] := List.drop_eq_nil_of_le (by rw [HL.out]; omega)
      rw [hfin] at hput
      have HPP := hput
      have hacb : acc.length ≤ 100001 := by cases inn <;> (simp [bi] at hacc; omega)
      clear hput hM hfin hacc hlat
      cases inn with
      | true =>
        go_wp2
        go_ret
        refine ⟨_, rfl, ?_, hLX.out.trans HM0.out.lat⟩
        have h1 := (Mine.row_ Fa.cs Fa.cs_len Fa.cs_get (by omega) HM0.out).1
        have h2 := HPP.out
        simp only [putR, if_true, List.append_nil] at h2
        rw [← h2]
        exact h1
      | false =>
        go_wp2_with (at_builtin; go_must (refine wpList_pushAt sliceFact (HM.out _ (Later.refl _)) rfl _ _ rfl rfl 1 _ rfl (by simp) rfl (by simp [Value.oneCell']) (by omega) (by unfold maxLen; omega) ?_; intro v6 w6 hM6 hg6; obtain ⟨p6, cp6, rfl⟩ := hM6.form))
        go_ret
        refine ⟨_, rfl, ?_, hLX.out.trans hM6.lat⟩
        rw [← HXC.out] at hM6
        have h1 := (Mine.row_ (xs := acc ++ [X]) Fa.cs Fa.cs_len Fa.cs_get (by omega) (by rw [List.flatMap_append, List.flatMap_cons, List.flatMap_nil, List.append_nil]; exact hM6)).1
        have h2 := HPP.out
        simp only [putR, Bool.false_eq_true, if_false] at h2
        rw [← h2]
        exact h1
end Go.Proofs.YtkpadahpepeaoaaDoor

/- references of facts: Get; what is told: wrong, Tell, Made, Plain -/
namespace Go.Proofs.YtkpadahpepeaoaaDoor
open Go.RowKit
set_option maxRecDepth 100000

/-- What a look up hands back, in the reference. -/
def gotR (l : List Fa) (k d : Int) : Fa × Bool := match getR l k d with | none => (⟨0, 0, 0, 0, 0⟩, false) | some y => (y, true)
set_option maxHeartbeats 1600000 in
theorem get_any (l : List Fa) (hlen : l.length ≤ 100002) (v : Value) (k d : Int) (w : World) (hN : IsFacts w v l) :
    Calls Tryd.prog 29 #[v, .int .i64 k, .int .i64 d] w fun e w' => (∃ y : Fa, y = (gotR l k d).1 ∧ e = .returned (.tuple #[.agg #[.int .i64 y.k, .int .i64 y.d, .int .i64 y.n, .int .i64 y.m, .int .i64 y.p], .bool (gotR l k d).2])) ∧ Later w w' := by
  obtain ⟨p, cp, rfl⟩ := hN.form
  have HN := Lib.hid hN
  clear hN
  obtain ⟨L, hL⟩ : ∃ L, l.length = L := ⟨_, rfl⟩
  rw [hL] at HN hlen ⊢
  have HL := Lib.hid hL
  clear hL
  have hO := Lib.hid (own_alloc w #[.int .i64 0, .int .i64 0, .int .i64 0, .int .i64 0, .int .i64 0] 75)
  have hLX := Lib.hid ((Later.refl w).alloc (.cells #[.int .i64 0, .int .i64 0, .int .i64 0, .int .i64 0, .int .i64 0] 75))
  go_enter Tryd.func29, Tryd.ntmps29
  go_wp2
  obtain ⟨w0, hw0⟩ : ∃ W, w.alloc (.cells #[.int .i64 0, .int .i64 0, .int .i64 0, .int .i64 0, .int .i64 0] 75) = W := ⟨_, rfl⟩
  rw [hw0] at hO hLX ⊢
  clear hw0
  go_loopw [8] (fun s8 wr => ∃ j : Nat, j ≤ L ∧ s8 = .int .i64 j ∧ Hid (getR (l.drop j) k d = getR l k d) ∧ wr = w0) (fun s8 _ => L - (intOf s8).toNat)
  case atStart => exact ⟨0, Nat.zero_le _, rfl, Lib.hid rfl, rfl⟩
  case round =>
    obtain ⟨j, hj, rfl, hget, rfl⟩ := hrel
    obtain ⟨zx, cx, fx⟩ := own_get hO.out
    have x0 := cx 0
    have x1 := cx 1
    have x2 := cx 2
    have x3 := cx 3
    have x4 := cx 4
    simp only [List.getElem?_toArray, List.getElem?_cons_zero, List.getElem?_cons_succ] at x0 x1 x2 x3 x4
    have f0 := fx 0 (by simp)
    have f1 := fx 1 (by simp)
    have f2 := fx 2 (by simp)
    have f3 := fx 3 (by simp)
    have f4 := fx 4 (by simp)
    have HO := hO
    clear cx fx hO
    by_cases hlt : j < L
    · have hjl : j < l.length := by rw [HL.out]; exact hlt
      obtain ⟨b, o, cp2, hv, hb, gg⟩ := HN.out.full (i := j) hjl
      rw [HL.out] at hv
      cases hv
      have g0 := ((bcell hLX.out).1 _ _ hb).trans (gg 0 (by omega))
      have g1 := ((bcell hLX.out).1 _ _ hb).trans (gg 1 (by omega))
      have g2 := ((bcell hLX.out).1 _ _ hb).trans (gg 2 (by omega))
      have g3 := ((bcell hLX.out).1 _ _ hb).trans (gg 3 (by omega))
      have g4 := ((bcell hLX.out).1 _ _ hb).trans (gg 4 (by omega))
      have hdr : l.drop j = l[j] :: l.drop (j + 1) := by rw [List.getElem_cons_drop]
      have hget2 := hget.out
      rw [hdr, getR_cons] at hget2
      obtain ⟨Y, hY⟩ : ∃ Y, l[j] = Y := ⟨_, rfl⟩
      rw [hY] at hget2 g0 g1 g2 g3 g4
      obtain ⟨yk, yd, yn, ym, yp⟩ := Y
      simp only [Fa.cell, Nat.add_zero] at g0 g1 g2 g3 g4 hget2
      clear hget hdr hY gg
      by_cases hk : yk = k
      · subst hk
        by_cases hd : yd = d
        · subst hd
          rw [if_pos ⟨rfl, rfl⟩] at hget2
          have hR : gotR l yk yd = (⟨yk, yd, yn, ym, yp⟩, true) := by unfold gotR; rw [← hget2]
          have HR := Lib.hid hR
          have hl := hLX.out
          clear hget2 hR
          go_wp2
          exact bodyPost_ret (v := .tuple #[.agg #[.int .i64 yk, .int .i64 yd, .int .i64 yn, .int .i64 ym, .int .i64 yp], .bool true]) (by simp [results, Tryd.results29, go_sem, x0, x1, x2, x3, x4]) rfl ⟨⟨⟨yk, yd, yn, ym, yp⟩, by rw [HR.out], by rw [HR.out]⟩, by repeat (first | with_reducible exact Later.refl _ | with_reducible assumption | with_reducible refine Later.ofdrew ?_ | with_reducible refine Later.ofdrewN ?_ | with_reducible refine Later.setCell ?_ ?_ _ | with_reducible refine Later.alloc ?_ _ | with_reducible refine Later.drewN ?_ _ | with_reducible refine Later.drew ?_ | (with_reducible refine Later.trans ?_ (by assumption)) | (simp only [World.size_setCell, World.size_alloc, World.heap_drewN]; omega) | (simp; done) | (simp; omega))⟩
        · rw [if_neg (fun e => hd e.2)] at hget2
          have d1 : (yd == d) = false := by simpa using hd
          have HG := Lib.hid hget2
          clear hget2 hd
          go_wp2
          go_roundw
          case rel => exact ⟨j + 1, by omega, by go_num, HG, trivial⟩
          case measure => simp [intOf]; omega
      · rw [if_neg (fun e => hk e.1)] at hget2
        have d1 : (yk == k) = false := by simpa using hk
        have HG := Lib.hid hget2
        clear hget2 hk
        go_wp2
        go_roundw
        case rel => exact ⟨j + 1, by omega, by go_num, HG, trivial⟩
        case measure => simp [intOf]; omega
    · have hfin : l.drop j = [] := List.drop_eq_nil_of_le (by rw [HL.out]; omega)
      have hget2 := hget.out
      rw [hfin] at hget2
      have hR : gotR l k d = (⟨0, 0, 0, 0, 0⟩, false) := by unfold gotR; rw [← hget2]; rfl
      have HR := Lib.hid hR
      have hl := hLX.out
      clear hget hget2 hR hfin
      go_wp2
      exact bodyPost_ret (v := .tuple #[.agg #[.int .i64 0, .int .i64 0, .int .i64 0, .int .i64 0, .int .i64 0], .bool false]) (by simp [results, Tryd.results29, go_sem, x0, x1, x2, x3, x4]) rfl ⟨⟨⟨0, 0, 0, 0, 0⟩, by rw [HR.out], by rw [HR.out]⟩, by repeat (first | with_reducible exact Later.refl _ | with_reducible assumption | with_reducible refine Later.ofdrew ?_ | with_reducible refine Later.ofdrewN ?_ | with_reducible refine Later.setCell ?_ ?_ _ | with_reducible refine Later.alloc ?_ _ | with_reducible refine Later.drewN ?_ _ | with_reducible refine Later.drew ?_ | (with_reducible refine Later.trans ?_ (by assumption)) | (simp only [World.size_setCell, World.size_alloc, World.heap_drewN]; omega) | (simp; done) | (simp; omega))⟩
end Go.Proofs.YtkpadahpepeaoaaDoor

/- what is told: wrong, Tell, Made, Plain -/
namespace Go.Proofs.YtkpadahpepeaoaaDoor
open Go.RowKit
set_option maxRecDepth 100000

/-- A fact that is told. -/
structure Td where
  c : Bool
  k : Int
  d : Int
  n : Int
  m : Int
  p : Int
def Td.cell (x : Td) : Nat → Value
  | 0 => .bool x.c
  | 1 => .int .i64 x.k
  | 2 => .int .i64 x.d
  | 3 => .int .i64 x.n
  | 4 => .int .i64 x.m
  | _ => .int .i64 x.p
def Td.val (x : Td) : Value := .agg #[.bool x.c, .int .i64 x.k, .int .i64 x.d, .int .i64 x.n, .int .i64 x.m, .int .i64 x.p]
def Td.ok (x : Td) : Prop := I64 x.k ∧ I64 x.d ∧ I64 x.n ∧ I64 x.m ∧ I64 x.p
abbrev IsTolds (w : World) (v : Value) (l : List Td) : Prop := IsRow 6 Td.cell w v l
/-- What is wrong with it. -/
def wrongT (x : Td) : Int := if x.c then chooseE x.k x.d x.p else fixE x.k x.d x.n x.m

set_option maxHeartbeats 3200000 in
theorem twrong_any (x : Td) (w : World) (hx : x.ok) : Calls Tryd.prog 27 #[x.val] w fun e w' => e = .returned (.int .i64 (wrongT x)) ∧ Later w w' := by
  obtain ⟨c, k, d, n, m, p⟩ := x
  obtain ⟨hk, hd, hn, hm, hp⟩ := hx
  have HC := Lib.hid (fun W => qcheck_any n m W hn.1 hn.2 hm.1 hm.2)
  have hr : ∃ r, wrongT ⟨c, k, d, n, m, p⟩ = r := ⟨_, rfl⟩
  obtain ⟨r, hr⟩ := hr
  rw [hr]
  unfold wrongT chooseE fixE mayI at hr
  obtain ⟨ck, hck⟩ : ∃ ck, chkE n m = ck := ⟨_, rfl⟩
  simp only [hck] at hr HC
  have HR := Lib.hid hr
  unfold Td.val
  simp only
  clear hr hck hk hd hn hm hp
  have fin : ∀ (a b : Int), a = b → Ending.returned (.int .i64 a) = Ending.returned (.int .i64 b) := fun a b h => by rw [h]
  cases c
  · simp only [Bool.false_eq_true, if_false] at HR
    by_cases h1 : k < 0 ∨ 63 < k
    · have hr : r = 10 := by
        rw [← HR.out, if_neg, if_pos] <;> simp <;> omega
      subst hr
      clear HR
      by_cases h2 : k < 0
      · clear h1
        go_enter Tryd.func27, Tryd.ntmps27
        go_wp2
        go_ret
        exact ⟨rfl, by repeat (first | with_reducible exact Later.refl _ | with_reducible assumption | with_reducible refine Later.ofdrew ?_ | with_reducible refine Later.ofdrewN ?_ | with_reducible refine Later.setCell ?_ ?_ _ | with_reducible refine Later.alloc ?_ _ | with_reducible refine Later.drewN ?_ _ | with_reducible refine Later.drew ?_ | (with_reducible refine Later.trans ?_ (by assumption)) | (simp only [World.size_setCell, World.size_alloc, World.heap_drewN]; omega) | (simp; done) | (simp; omega))⟩
      · have h3 : 63 < k := by omega
        clear h1
        go_enter Tryd.func27, Tryd.ntmps27
        go_wp2
        go_ret
        exact ⟨rfl, by repeat (first | with_reducible exact Later.refl _ | with_reducible assumption | with_reducible refine Later.ofdrew ?_ | with_reducible refine Later.ofdrewN ?_ | with_reducible refine Later.setCell ?_ ?_ _ | with_reducible refine Later.alloc ?_ _ | with_reducible refine Later.drewN ?_ _ | with_reducible refine Later.drew ?_ | (with_reducible refine Later.trans ?_ (by assumption)) | (simp only [World.size_setCell, World.size_alloc, World.heap_drewN]; omega) | (simp; done) | (simp; omega))⟩
    · have h2 : ¬ k < 0 := by omega
      have h3 : ¬ 63 < k := by omega
      by_cases h4 : d < 0 ∨ 73048 < d
      · have hr : r = 18 := by
          rw [← HR.out, if_neg, if_neg, if_pos] <;> simp <;> omega
        subst hr
        clear HR h1
        by_cases h5 : d < 0
        · clear h4
          go_enter Tryd.func27, Tryd.ntmps27
          go_wp2
          go_ret
          exact ⟨rfl, by repeat (first | with_reducible exact Later.refl _ | with_reducible assumption | with_reducible refine Later.ofdrew ?_ | with_reducible refine Later.ofdrewN ?_ | with_reducible refine Later.setCell ?_ ?_ _ | with_reducible refine Later.alloc ?_ _ | with_reducible refine Later.drewN ?_ _ | with_reducible refine Later.drew ?_ | (with_reducible refine Later.trans ?_ (by assumption)) | (simp only [World.size_setCell, World.size_alloc, World.heap_drewN]; omega) | (simp; done) | (simp; omega))⟩
        · have h6 : 73048 < d := by omega
          clear h4
          go_enter Tryd.func27, Tryd.ntmps27
          go_wp2
          go_ret
          exact ⟨rfl, by repeat (first | with_reducible exact Later.refl _ | with_reducible assumption | with_reducible refine Later.ofdrew ?_ | with_reducible refine Later.ofdrewN ?_ | with_reducible refine Later.setCell ?_ ?_ _ | with_reducible refine Later.alloc ?_ _ | with_reducible refine Later.drewN ?_ _ | with_reducible refine Later.drew ?_ | (with_reducible refine Later.trans ?_ (by assumption)) | (simp only [World.size_setCell, World.size_alloc, World.heap_drewN]; omega) | (simp; done) | (simp; omega))⟩
      · have h5 : ¬ d < 0 := by omega
        have h6 : ¬ 73048 < d := by omega
        have hr : r = ck := by
          rw [← HR.out, if_pos]; simp; omega
        subst hr
        clear HR h1 h4
        by_cases hn0 : n = 0
        · subst hn0
          go_enter Tryd.func27, Tryd.ntmps27
          go_wp2_with (go_at_call 47; go_must (refine (HC.out _).mono ?_; rintro e w1 ⟨rfl, hb1⟩))
          go_ret
          exact ⟨rfl, Later.trans (by repeat (first | with_reducible exact Later.refl _ | with_reducible assumption | with_reducible refine Later.ofdrew ?_ | with_reducible refine Later.ofdrewN ?_ | with_reducible refine Later.setCell ?_ ?_ _ | with_reducible refine Later.alloc ?_ _ | with_reducible refine Later.drewN ?_ _ | with_reducible refine Later.drew ?_ | (with_reducible refine Later.trans ?_ (by assumption)) | (simp only [World.size_setCell, World.size_alloc, World.heap_drewN]; omega) | (simp; done) | (simp; omega))) hb1⟩
        · go_enter Tryd.func27, Tryd.ntmps27
          go_wp2_with (go_at_call 47; go_must (refine (HC.out _).mono ?_; rintro e w1 ⟨rfl, hb1⟩))
          go_ret
          exact ⟨rfl, Later.trans (by repeat (first | with_reducible exact Later.refl _ | with_reducible assumption | with_reducible refine Later.ofdrew ?_ | with_reducible refine Later.ofdrewN ?_ | with_reducible refine Later.setCell ?_ ?_ _ | with_reducible refine Later.alloc ?_ _ | with_reducible refine Later.drewN ?_ _ | with_reducible refine Later.drew ?_ | (with_reducible refine Later.trans ?_ (by assumption)) | (simp only [World.size_setCell, World.size_alloc, World.heap_drewN]; omega) | (simp; done) | (simp; omega))) hb1⟩
  · simp only [if_true] at HR
    clear HC
    by_cases h2 : k < 0
    · have hr : r = 10 := by
        rw [← HR.out, if_pos]; simp; omega
      subst hr
      clear HR
      go_enter Tryd.func27, Tryd.ntmps27
      go_wp2
      go_ret
      exact ⟨rfl, by repeat (first | with_reducible exact Later.refl _ | with_reducible assumption | with_reducible refine Later.ofdrew ?_ | with_reducible refine Later.ofdrewN ?_ | with_reducible refine Later.setCell ?_ ?_ _ | with_reducible refine Later.alloc ?_ _ | with_reducible refine Later.drewN ?_ _ | with_reducible refine Later.drew ?_ | (with_reducible refine Later.trans ?_ (by assumption)) | (simp only [World.size_setCell, World.size_alloc, World.heap_drewN]; omega) | (simp; done) | (simp; omega))⟩
    by_cases h3 : 63 < k
    · have hr : r = 10 := by
        rw [← HR.out, if_pos]; simp; omega
      subst hr
      clear HR
      go_enter Tryd.func27, Tryd.ntmps27
      go_wp2
      go_ret
      exact ⟨rfl, by repeat (first | with_reducible exact Later.refl _ | with_reducible assumption | with_reducible refine Later.ofdrew ?_ | with_reducible refine Later.ofdrewN ?_ | with_reducible refine Later.setCell ?_ ?_ _ | with_reducible refine Later.alloc ?_ _ | with_reducible refine Later.drewN ?_ _ | with_reducible refine Later.drew ?_ | (with_reducible refine Later.trans ?_ (by assumption)) | (simp only [World.size_setCell, World.size_alloc, World.heap_drewN]; omega) | (simp; done) | (simp; omega))⟩
    have key : (p = 1 ∨ (p ≠ 1 ∧ p = 2)) ∨ (p ≠ 1 ∧ p ≠ 2) := by omega
    rcases key with (hp | ⟨hp, hp2⟩) | ⟨hp, hp2⟩
    · subst hp
      have hr : r = if (decide (0 ≤ d) && decide (d ≤ 73048)) = false then 18 else 0 := by
        rw [← HR.out, if_neg]; simp; omega
      clear HR
      have HR := Lib.hid hr
      clear hr
      go_enter Tryd.func27, Tryd.ntmps27
      go_wp2
      all_goals
        go_ret
        refine ⟨fin _ _ ?_, by repeat (first | with_reducible exact Later.refl _ | with_reducible assumption | with_reducible refine Later.ofdrew ?_ | with_reducible refine Later.ofdrewN ?_ | with_reducible refine Later.setCell ?_ ?_ _ | with_reducible refine Later.alloc ?_ _ | with_reducible refine Later.drewN ?_ _ | with_reducible refine Later.drew ?_ | (with_reducible refine Later.trans ?_ (by assumption)) | (simp only [World.size_setCell, World.size_alloc, World.heap_drewN]; omega) | (simp; done) | (simp; omega))⟩
        rw [HR.out]
        simp
        try omega
    · subst hp2
      have hr : r = if (decide (0 ≤ d) && decide (d ≤ 73048)) = false then 18 else 0 := by
        rw [← HR.out, if_neg]; simp; omega
      clear HR hp
      have HR := Lib.hid hr
      clear hr
      go_enter Tryd.func27, Tryd.ntmps27
      go_wp2
      all_goals
        go_ret
        refine ⟨fin _ _ ?_, by repeat (first | with_reducible exact Later.refl _ | with_reducible assumption | with_reducible refine Later.ofdrew ?_ | with_reducible refine Later.ofdrewN ?_ | with_reducible refine Later.setCell ?_ ?_ _ | with_reducible refine Later.alloc ?_ _ | with_reducible refine Later.drewN ?_ _ | with_reducible refine Later.drew ?_ | (with_reducible refine Later.trans ?_ (by assumption)) | (simp only [World.size_setCell, World.size_alloc, World.heap_drewN]; omega) | (simp; done) | (simp; omega))⟩
        rw [HR.out]
        simp
        try omega
    · have p1 : (p == 1) = false := by simpa using hp
      have p2 : (p == 2) = false := by simpa using hp2
      have p3 : (p != 1) = true := by simpa using hp
      have p4 : (p != 2) = true := by simpa using hp2
      have hr : r = 10 := by
        rw [← HR.out, if_pos]; simp [p1, p2]
      subst hr
      clear HR hp hp2
      go_enter Tryd.func27, Tryd.ntmps27
      go_wp2
      go_ret
      exact ⟨rfl, by repeat (first | with_reducible exact Later.refl _ | with_reducible assumption | with_reducible refine Later.ofdrew ?_ | with_reducible refine Later.ofdrewN ?_ | with_reducible refine Later.setCell ?_ ?_ _ | with_reducible refine Later.alloc ?_ _ | with_reducible refine Later.drewN ?_ _ | with_reducible refine Later.drew ?_ | (with_reducible refine Later.trans ?_ (by assumption)) | (simp only [World.size_setCell, World.size_alloc, World.heap_drewN]; omega) | (simp; done) | (simp; omega))⟩
end Go.Proofs.YtkpadahpepeaoaaDoor
