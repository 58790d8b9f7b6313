/- reference of value: Value, the whole -/
import Derived.Test.YtkpadahpepeaoaaDoorSValL
import Derived.Great.BuildSlice
set_option linter.all false
namespace Go.Proofs.YtkpadahpepeaoaaDoor
open Go.RowKit
set_option maxRecDepth 100000

theorem ret_rv {a b c d : Int} {e : Bool} {f : Int} {a' b' : Int} {e' : Bool} {f' : Int} (h1 : a = a') (h2 : b = b') (h3 : e = e') (h4 : f = f') : Ending.returned (.tuple #[.agg #[.int .i64 a, .int .i64 b], .bool e, .int .i64 f]) = Ending.returned (.tuple #[.agg #[.int .i64 a', .int .i64 b'], .bool e', .int .i64 f']) := by rw [h1, h2, h3, h4]
theorem cmpZ_le {x y : Int} : cmpZ x y ≤ 0 ↔ x ≤ y := by
  unfold cmpZ
  by_cases h : x < y
  · rw [if_pos h]; constructor <;> intro _ <;> omega
  · rw [if_neg h]
    by_cases h2 : x = y
    · rw [if_pos h2]; constructor <;> intro _ <;> omega
    · rw [if_neg h2]; constructor <;> intro h3 <;> omega
theorem placesI_two (k : Nat) (l : List Tm) : placesI k l 2 = [(placeN k l 0 : Int), (placeN k l 1 : Int)] := rfl
theorem placesI_one (k : Nat) (l : List Tm) : placesI k l 1 = [(placeN k l 0 : Int)] := rfl
theorem node_one {get : Int → Option Q2} {x : Nd} {r : Int × Option Q2} (h1 : x.op ≠ 1) (h2 : x.op ≠ 2) : nodeV get x [r] = if r.1 ≠ 0 then (r.1, none) else match r.2 with | none => (0, none) | some a => applyV x.op [a] := by
  obtain ⟨e, v⟩ := r
  by_cases h : e = 0
  · subst h
    rw [if_neg (by simp)]
    cases v with
    | none => exact nodeV_none h1 h2 (by simp) rfl
    | some a => exact nodeV_some h1 h2 (by simp) rfl
  · rw [if_pos h]
    exact nodeV_err h1 h2 (r := (e, v)) (by simp [h])
theorem node_two {get : Int → Option Q2} {x : Nd} {r s : Int × Option Q2} (h1 : x.op ≠ 1) (h2 : x.op ≠ 2) : nodeV get x [r, s] = if r.1 ≠ 0 then (r.1, none) else if s.1 ≠ 0 then (s.1, none) else match r.2, s.2 with | some a, some b => applyV x.op [a, b] | _, _ => (0, none) := by
  obtain ⟨e, v⟩ := r
  obtain ⟨f, u⟩ := s
  by_cases h : e = 0
  · subst h
    rw [if_neg (by simp)]
    by_cases g : f = 0
    · subst g
      rw [if_neg (by simp)]
      cases v with
      | none => exact nodeV_none h1 h2 (by simp) rfl
      | some a =>
        cases u with
        | none => exact nodeV_none h1 h2 (by simp) rfl
        | some b => exact nodeV_some h1 h2 (by simp) rfl
    · rw [if_pos g]
      exact nodeV_err h1 h2 (r := (f, u)) (by simp [g])
  · rw [if_pos h]
    exact nodeV_err h1 h2 (r := (e, v)) (by simp [h])

theorem rval_fit {w : World} {args : Array Value} {N D : Int} (h : ∀ qn qd qe, Hid (rN N D = qn ∧ rD N D = qd ∧ rE N D = qe) → (qe = 0 → Calls Tryd.prog 13 args w fun e w' => e = .returned (.tuple #[.agg #[.int .i64 qn, .int .i64 qd], .bool true, .int .i64 0]) ∧ Later w w') ∧
    ((qe != 0) = true → Calls Tryd.prog 13 args w fun e w' => e = .returned (.tuple #[.agg #[.int .i64 0, .int .i64 0], .bool false, .int .i64 qe]) ∧ Later w w')) : Calls Tryd.prog 13 args w (RVal w (fitQ N D)) := by
  have hh := h _ _ _ (Lib.hid ⟨rfl, rfl, rfl⟩)
  by_cases h0 : rE N D = 0
  · refine (hh.1 h0).mono fun e w' ⟨h1, h2⟩ => ⟨h1.trans ?_, h2⟩
    refine ret_rv (c := 0) (d := 0) (fitQ_out N D).1.symm (fitQ_out N D).2.symm ?_ ?_
    · unfold fitQ; simp [h0]
    · unfold fitQ; exact h0.symm
  · refine (hh.2 (by simpa using h0)).mono fun e w' ⟨h1, h2⟩ => ⟨h1.trans ?_, h2⟩
    have hf : fitQ N D = (rE N D, none) := by unfold fitQ; rw [if_neg h0]
    rw [hf]; rfl

theorem rval_any (ts : List Nd) (a : List Fa) (day : Int) (hlen : ts.length ≤ 100000) (ha : a.length ≤ 100002) (hg : GetOk (getRF a day)) : ∀ (T : Tm) (k : Nat) (v fv : Value) (w : World), TmAt ts k T → NumT T → IsNodes w v ts → IsFacts w fv a →
    Calls Tryd.prog 13 #[v, .int .i64 k, .int .i64 day, fv] w (RVal w (valT (getRF a day) T)) := by
  intro T
  induction T using Tm.ind with
  | h x l ih =>
    intro k v fv w hT hNT hN hA
    obtain ⟨o1, o2, hl, hf, hx, hk⟩ := hNT
    by_cases h1 : x.op = 1
    · exact rval_number ts k x l _ v fv day w hlen hT hN h1
    by_cases h2 : x.op = 2
    · exact rval_fixing ts k x l a v fv day w hlen ha hT hN hA h2
    have hkl : k < ts.length := by have := hT.le; have := (Tm.node x l).size_pos; omega
    obtain ⟨b, o, cp, rfl, hb, hcap, g0, g1, g2, g3, g4⟩ := hN.full hkl
    have hx0 : ts[k] = x := by have := hT.root.1; rw [List.getElem?_eq_getElem hkl] at this; exact Option.some.inj this
    rw [hx0] at g0 g1 g2 g3 g4
    have hOA : OpAt w b o ts.length cp k x.op x.a x.b x.n x.d := ⟨hb, hkl, g0, g1, g2, g3, g4, by simpa using h1, by simpa using h2⟩
    have hB := fun W (hl : Later w W) => rbelow_any ts hlen x l k _ W hT (hN.later hl)
    have hkt := (NumTs_iff l).1 hk
    rw [valT_node]
    have h12 := many_12 (op := x.op) (by omega) o2
    rw [← hl] at h12
    rcases h12 with h12 | h12
    · match l, h12, hl, hk, hkt, hT, hB, ih with
      | [t], _, hl, hk, hkt, hT, hB, ih =>
        have hop : x.op = 3 := by
          have : x.op = 3 ∨ x.op = 4 ∨ x.op = 5 ∨ x.op = 6 ∨ x.op = 7 ∨ x.op = 8 := by omega
          rcases this with h | h | h | h | h | h
          · exact h
          all_goals (rw [h] at hl; cases hl)
        have HB : Hid (∀ W, Later w W → Calls Tryd.prog 30 #[.slice (some ⟨b, o, none⟩) ts.length cp, .int .i64 (k : Int)] W fun e w' => ∃ v', e = .returned v' ∧ IsInts w' v' [(placeN k [t] 0 : Int)] ∧ Later W w') := Lib.hid hB
        have hC := fun W (hl : Later w W) => ih t (by simp) (placeN k [t] 0) _ fv W (placeN_at hT (j := 0) (by simp)) (hkt t (by simp)) (hN.later hl) (hA.later hl)
        have hvv := valT_valid hg (hkt t (by simp))
        rw [List.map_cons, List.map_nil, node_one h1 h2]
        obtain ⟨r, hr⟩ : ∃ r, valT (getRF a day) t = r := ⟨_, rfl⟩
        rw [hr] at hC hvv ⊢
        unfold RVal at hC
        obtain ⟨e0, v0⟩ := r
        simp only at hC hvv ⊢
        by_cases he : e0 = 0
        · subst he
          rw [if_neg (by simp)]
          cases v0 with
          | none => exact (rval_one_unknown w b o ts.length cp k _ _ _ _ _ _ 0 day fv hOA hlen HB _ _ (Lib.hid hC)).mono fun e w' h => h
          | some q =>
            have hq := hvv q rfl
            obtain ⟨qn, qd⟩ := q
            have hi := valid_i64 hq
            have hng := valid_neg hq
            obtain ⟨e1, e2, e3⟩ := valid_r hng hng.d0 rfl
            rw [hop] at hOA ⊢
            refine (rval_neg_fits w b o ts.length cp k _ _ _ _ _ 0 day fv hOA hlen HB qn qd hi (-qn) qd 0 (-qn) (Lib.hid rfl) (valid_i64 hng).1 (Lib.hid ⟨e1, e2, e3⟩) (by have := hq.d0; omega) rfl (Lib.hid hC)).mono fun e w' h => h
        · rw [if_pos he]
          exact (rval_one_first w b o ts.length cp k _ _ _ _ _ _ 0 day fv hOA hlen HB _ _ e0 _ (by simpa using he) (Lib.hid hC)).mono fun e w' h => h
    · match l, h12, hl, hk, hkt, hT, hB, ih with
      | [t, s], _, hl, hk, hkt, hT, hB, ih =>
        have hop : 4 ≤ x.op := by
          have : x.op = 3 ∨ 4 ≤ x.op := by omega
          rcases this with h | h
          · rw [h] at hl; cases hl
          · exact h
        have HB : Hid (∀ W, Later w W → Calls Tryd.prog 30 #[.slice (some ⟨b, o, none⟩) ts.length cp, .int .i64 (k : Int)] W fun e w' => ∃ v', e = .returned v' ∧ IsInts w' v' [(placeN k [t, s] 0 : Int), (placeN k [t, s] 1 : Int)] ∧ Later W w') := Lib.hid hB
        have hC := fun W (hl : Later w W) => ih t (by simp) (placeN k [t, s] 0) _ fv W (placeN_at hT (j := 0) (by simp)) (hkt t (by simp)) (hN.later hl) (hA.later hl)
        have hC1 := fun W (hl : Later w W) => ih s (by simp) (placeN k [t, s] 1) _ fv W (placeN_at hT (j := 1) (by simp)) (hkt s (by simp)) (hN.later hl) (hA.later hl)
        have hvv := valT_valid hg (hkt t (by simp))
        have hvv1 := valT_valid hg (hkt s (by simp))
        rw [List.map_cons, List.map_cons, List.map_nil, node_two h1 h2]
        obtain ⟨r, hr⟩ : ∃ r, valT (getRF a day) t = r := ⟨_, rfl⟩
        obtain ⟨r1, hr1⟩ : ∃ r, valT (getRF a day) s = r := ⟨_, rfl⟩
        rw [hr] at hC hvv ⊢
        rw [hr1] at hC1 hvv1 ⊢
        unfold RVal at hC hC1
        obtain ⟨e0, v0⟩ := r
        obtain ⟨e1, v1⟩ := r1
        simp only at hC hC1 hvv hvv1 ⊢
        by_cases he : e0 = 0
        · subst he
          rw [if_neg (by simp)]
          by_cases he1 : e1 = 0
          · subst he1
            rw [if_neg (by simp)]
            cases v0 with
            | none => exact (rval_two_unknown w b o ts.length cp k _ _ _ _ _ _ _ day fv hOA hlen HB _ _ _ _ _ _ (.inl rfl) (Lib.hid hC) (Lib.hid hC1)).mono fun e w' h => h
            | some q =>
              cases v1 with
              | none => exact (rval_two_unknown w b o ts.length cp k _ _ _ _ _ _ _ day fv hOA hlen HB _ _ _ _ _ _ (.inr ⟨rfl, rfl⟩) (Lib.hid hC) (Lib.hid hC1)).mono fun e w' h => h
              | some u =>
                have hq := hvv q rfl
                have hu := hvv1 u rfl
                obtain ⟨an, ad⟩ := q
                obtain ⟨bn, bd⟩ := u
                have hi := valid_i64 hq
                have hj := valid_i64 hu
                have hd := mul_pos' hq.d0 hu.d0
                simp only
                have hcase : x.op = 4 ∨ x.op = 5 ∨ x.op = 6 ∨ x.op = 7 ∨ x.op = 8 := by omega
                rcases hcase with h | h | h | h | h
                · rw [h] at hOA ⊢
                  show Calls _ _ _ _ (RVal w (fitQ (an * bd + bn * ad) (ad * bd)))
                  exact rval_fit fun qn qd qe hq => ⟨fun h0 => rval_plus_fits w b o ts.length cp k _ _ _ _ _ _ day fv hOA hlen HB an ad bn bd hi hj qn qd qe hq (by simp only at hd; omega) h0 (Lib.hid hC) (Lib.hid hC1),
                    fun h0 => rval_plus_over w b o ts.length cp k _ _ _ _ _ _ day fv hOA hlen HB an ad bn bd hi hj qn qd qe hq (by simp only at hd; omega) h0 (Lib.hid hC) (Lib.hid hC1)⟩
                · rw [h] at hOA ⊢
                  show Calls _ _ _ _ (RVal w (fitQ (an * bd + -bn * ad) (ad * bd)))
                  exact rval_fit fun qn qd qe hq => ⟨fun h0 => rval_minus_fits w b o ts.length cp k _ _ _ _ _ _ day fv hOA hlen HB an ad bn bd hi hj qn qd qe (-bn) (Lib.hid rfl) (valid_i64 (valid_neg hu)).1 hq (by simp only at hd; omega) h0 (Lib.hid hC) (Lib.hid hC1),
                    fun h0 => rval_minus_over w b o ts.length cp k _ _ _ _ _ _ day fv hOA hlen HB an ad bn bd hi hj qn qd qe (-bn) (Lib.hid rfl) (valid_i64 (valid_neg hu)).1 hq (by simp only at hd; omega) h0 (Lib.hid hC) (Lib.hid hC1)⟩
                · rw [h] at hOA ⊢
                  show Calls _ _ _ _ (RVal w (fitQ (an * bn) (ad * bd)))
                  exact rval_fit fun qn qd qe hq => ⟨fun h0 => rval_times_fits w b o ts.length cp k _ _ _ _ _ _ day fv hOA hlen HB an ad bn bd hi hj qn qd qe hq (by simp only at hd; omega) h0 (Lib.hid hC) (Lib.hid hC1),
                    fun h0 => rval_times_over w b o ts.length cp k _ _ _ _ _ _ day fv hOA hlen HB an ad bn bd hi hj qn qd qe hq (by simp only at hd; omega) h0 (Lib.hid hC) (Lib.hid hC1)⟩
                · rw [h] at hOA ⊢
                  have hap : applyV 7 [(an, ad), (bn, bd)] = (0, some (if bn * ad < an * bd then (bn, bd) else (an, ad))) := rfl
                  rw [hap]
                  by_cases hc : cmpZ (an * bd) (bn * ad) ≤ 0
                  · rw [if_neg (by have := cmpZ_le.1 hc; omega)]
                    exact (rval_least_le w b o ts.length cp k _ _ _ _ _ _ day fv hOA hlen HB an ad bn bd hi hj hc (Lib.hid hC) (Lib.hid hC1)).mono fun e w' h => h
                  · rw [if_pos (by have := mt cmpZ_le.2 hc; omega)]
                    exact (rval_least_gt w b o ts.length cp k _ _ _ _ _ _ day fv hOA hlen HB an ad bn bd hi hj (by omega) (Lib.hid hC) (Lib.hid hC1)).mono fun e w' h => h
                · rw [h] at hOA ⊢
                  have hap : applyV 8 [(an, ad), (bn, bd)] = (0, some (if an * bd < bn * ad then (bn, bd) else (an, ad))) := rfl
                  rw [hap]
                  by_cases hc : cmpZ (an * bd) (bn * ad) ≤ 0
                  · have hle := cmpZ_le.1 hc
                    have hres : (if an * bd < bn * ad then (bn, bd) else (an, ad)) = ((bn, bd) : Q2) := by
                      by_cases hlt : an * bd < bn * ad
                      · rw [if_pos hlt]
                      · rw [if_neg hlt]
                        obtain ⟨e1, e2⟩ := valid_unique hq hu (show an * bd = bn * ad by omega)
                        simp only at e1 e2
                        rw [e1, e2]
                    rw [hres]
                    exact (rval_most_le w b o ts.length cp k _ _ _ _ _ _ day fv hOA hlen HB an ad bn bd hi hj hc (Lib.hid hC) (Lib.hid hC1)).mono fun e w' h => h
                  · rw [if_neg (by have := mt cmpZ_le.2 hc; omega)]
                    exact (rval_most_gt w b o ts.length cp k _ _ _ _ _ _ day fv hOA hlen HB an ad bn bd hi hj (by omega) (Lib.hid hC) (Lib.hid hC1)).mono fun e w' h => h
          · rw [if_pos he1]
            exact (rval_two_second w b o ts.length cp k _ _ _ _ _ _ _ day fv hOA hlen HB _ _ _ _ e1 _ _ (by simpa using he1) (Lib.hid hC) (Lib.hid hC1)).mono fun e w' h => h
        · rw [if_pos he]
          exact (rval_two_first w b o ts.length cp k _ _ _ _ _ _ _ day fv hOA hlen HB _ _ e0 _ (by simpa using he) (Lib.hid hC)).mono fun e w' h => h
end Go.Proofs.YtkpadahpepeaoaaDoor

/- facts: the two look ups agree; what is known may be -/
namespace Go.Proofs.YtkpadahpepeaoaaDoor
open Go.RowKit
set_option maxRecDepth 100000

def AgreeF (fx : FxL) (a : List Fa) : Prop := ∀ k d, getA fx (k, d) = (getR a k d).map (fun y => (y.n, y.m))
theorem agree_step {fx : FxL} {a : List Fa} {x : Td} (hn : (fx.map (·.1)).Nodup) (h : AgreeF fx a) : AgreeF (tellFx fx x) (plainA a x) := by
  intro k d
  unfold tellFx plainA wrongT
  cases hc : x.c with
  | true => simp; exact h k d
  | false =>
    simp only [Bool.false_eq_true, if_false, and_true]
    unfold fixL
    by_cases h0 : fixE x.k x.d x.n x.m = 0
    · rw [if_pos h0, if_pos h0, putA_get _ _ _ _ hn, getR_putR]
      by_cases hk : k = x.k ∧ d = x.d
      · rw [if_pos (by rw [hk.1, hk.2]), if_pos hk]; rfl
      · rw [if_neg (fun e => hk ⟨congrArg (·.1) e, congrArg (·.2) e⟩), if_neg hk]
        exact h k d
    · rw [if_neg h0, if_neg h0]; exact h k d
theorem agree_all (l : List Td) : ∀ (fx : FxL) (a : List Fa), (fx.map (·.1)).Nodup → AgreeF fx a → AgreeF (l.foldl tellFx fx) (l.foldl plainA a) := by
  induction l with
  | nil => exact fun _ _ _ h => h
  | cons x r ih => exact fun fx a hn h => ih _ _ (tellFx_nodup hn) (agree_step hn h)
theorem agree_made (l : List Td) : AgreeF (madeFx l) (l.foldl plainA []) := agree_all l [] [] (by simp) (fun _ _ => rfl)
theorem get_agree (l : List Td) (day : Int) : getRF (l.foldl plainA []) day = getF (madeFx l) day := by
  funext k; exact (agree_made l k day).symm
def FxOk (fx : FxL) : Prop := ∀ p v, getA fx p = some v → Valid v.1 v.2
theorem fxOk_step {fx : FxL} {x : Td} (hn : (fx.map (·.1)).Nodup) (hx : x.ok) (h : FxOk fx) : FxOk (tellFx fx x) := by
  intro p v hv
  unfold tellFx at hv
  split at hv
  · exact h p v hv
  · unfold fixL at hv
    split at hv
    · rename_i h0
      rw [putA_get _ _ _ _ hn] at hv
      split at hv
      · cases hv
        unfold fixE at h0
        split at h0
        · exact (chk_valid hx.2.2.1.1 hx.2.2.1.2 hx.2.2.2.1.2).1 h0
        · rename_i h1; exact absurd h0 h1
      · exact h p v hv
    · exact h p v hv
theorem fxOk_all (l : List Td) (hok : ∀ x ∈ l, x.ok) : ∀ (fx : FxL), (fx.map (·.1)).Nodup → FxOk fx → FxOk (l.foldl tellFx fx) := by
  induction l with
  | nil => exact fun _ _ h => h
  | cons x r ih => exact fun fx hn h => ih (fun y hy => hok y (by simp [hy])) _ (tellFx_nodup hn) (fxOk_step hn (hok x (by simp)) h)
theorem fxOk_made (l : List Td) (hok : ∀ x ∈ l, x.ok) : FxOk (madeFx l) := fxOk_all l hok [] (by simp) (fun _ _ h => by cases h)
theorem getOk_of {fx : FxL} (h : FxOk fx) (day : Int) : GetOk (getF fx day) := fun _ _ hv => h _ _ hv
theorem plain_length (l : List Td) : ∀ (a : List Fa), (l.foldl plainA a).length ≤ a.length + l.length := by
  induction l with
  | nil => intro a; exact Nat.le_refl _
  | cons x r ih => intro a; have h1 := ih (plainA a x); have h2 := plainA_len a x; simp only [List.foldl_cons, List.length_cons]; omega

/-! The chapter's example. -/
def awT : List Nd := [⟨4, 0, 0, 0, 0⟩, ⟨2, 3, 0, 0, 0⟩, ⟨1, 0, 0, 1, 2⟩]
def awTree : Tm := .node ⟨4, 0, 0, 0, 0⟩ [.node ⟨2, 3, 0, 0, 0⟩ [], .node ⟨1, 0, 0, 1, 2⟩ []]
def awFx : FxL := [((3, 10), (2, 1))]
theorem aw_tree : treeOf awT = some awTree := treeOf_iff.2 ⟨⟨by decide, rfl, ⟨by decide, rfl, trivial⟩, ⟨by decide, rfl, trivial⟩, trivial⟩, rfl⟩
theorem aw_ofE : ofE awT = 0 := by
  unfold ofE
  rw [if_neg (by decide), aw_tree]
  simp only
  rw [if_pos (by decide), if_pos (by decide), if_pos (by decide)]
theorem aw_wrong : wrongV awT 0 = 0 := by
  unfold wrongV
  rw [if_neg (by rw [aw_ofE]; simp), if_neg (by decide), if_pos (by decide)]
theorem aw_sub : subAt awT 0 = some awTree := subAt_eq (treeOf_at aw_tree).1
theorem aw_at10 : atV awT awFx 0 10 = (0, some (5, 2)) := by
  unfold atV
  rw [if_neg (by rw [aw_wrong]; simp), if_neg (by decide)]
  have : (0 : Int).toNat = 0 := rfl
  rw [this, aw_sub]
  decide
theorem aw_at11 : atV awT awFx 0 11 = (0, none) := by
  unfold atV
  rw [if_neg (by rw [aw_wrong]; simp), if_neg (by decide)]
  have : (0 : Int).toNat = 0 := rfl
  rw [this, aw_sub]
  decide
theorem aw_fix : fixL [] 3 10 2 1 = awFx := by decide
theorem aw_ok : FxOk awFx := by
  have h : awFx = tellFx [] ⟨false, 3, 10, 2, 1, 0⟩ := by decide
  rw [h]
  exact fxOk_step (by simp) (by unfold Td.ok I64; decide) (fun _ _ h => by cases h)
theorem aw_nodes : ∀ x ∈ awT, x.ok := by
  intro x hx
  unfold awT at hx
  simp only [List.mem_cons, List.not_mem_nil, or_false] at hx
  rcases hx with rfl | rfl | rfl <;> (unfold Nd.ok I64; decide)
end Go.Proofs.YtkpadahpepeaoaaDoor

/- slice literals of nodes -/
namespace Go.Proofs.YtkpadahpepeaoaaDoor
open Go.RowKit
set_option maxRecDepth 100000

theorem node_build (a : Int) (w : World) : (Instr.build 51 #[(0, .int .i64 a)]).run Tryd.prog w = .ok (.agg #[.int .i64 a, .int .i64 0, .int .i64 0, .int .i64 0, .int .i64 0]) w := by kernel_rfl
theorem node_build1 (a b : Int) (w : World) : (Instr.build 51 #[(0, .int .i64 a), (1, .int .i64 b)]).run Tryd.prog w = .ok (.agg #[.int .i64 a, .int .i64 b, .int .i64 0, .int .i64 0, .int .i64 0]) w := by kernel_rfl
theorem node_build3 (a n m : Int) (w : World) : (Instr.build 51 #[(0, .int .i64 a), (3, .agg #[.int .i64 n, .int .i64 m])]).run Tryd.prog w = .ok (.agg #[.int .i64 a, .int .i64 0, .int .i64 0, .int .i64 n, .int .i64 m]) w := by kernel_rfl
theorem ratio_build (n m : Int) (w : World) : (Instr.build 29 #[(0, .int .i64 n), (1, .int .i64 m)]).run Tryd.prog w = .ok (.agg #[.int .i64 n, .int .i64 m]) w := by kernel_rfl
theorem nodes_three (a0 a1 a2 a3 a4 b0 b1 b2 b3 b4 c0 c1 c2 c3 c4 : Value) (w : World) :
    (Instr.buildSlice 22 3 #[(0, .agg #[a0, a1, a2, a3, a4]), (1, .agg #[b0, b1, b2, b3, b4]), (2, .agg #[c0, c1, c2, c3, c4])]).run Tryd.prog w
      = .ok (.slice (some ⟨w.heap.size, 0, none⟩) 3 3) (w.alloc (.cells #[a0, a1, a2, a3, a4, b0, b1, b2, b3, b4, c0, c1, c2, c3, c4] 51)) := by kernel_rfl
theorem nodes_two (a0 a1 a2 a3 a4 b0 b1 b2 b3 b4 : Value) (w : World) :
    (Instr.buildSlice 22 2 #[(0, .agg #[a0, a1, a2, a3, a4]), (1, .agg #[b0, b1, b2, b3, b4])]).run Tryd.prog w
      = .ok (.slice (some ⟨w.heap.size, 0, none⟩) 2 2) (w.alloc (.cells #[a0, a1, a2, a3, a4, b0, b1, b2, b3, b4] 51)) := by kernel_rfl
theorem nodes_one (a0 a1 a2 a3 a4 : Value) (w : World) :
    (Instr.buildSlice 22 1 #[(0, .agg #[a0, a1, a2, a3, a4])]).run Tryd.prog w
      = .ok (.slice (some ⟨w.heap.size, 0, none⟩) 1 1) (w.alloc (.cells #[a0, a1, a2, a3, a4] 51)) := by kernel_rfl

def ndCs (x : Nd) : List Value := [.int .i64 (x.cell 0), .int .i64 (x.cell 1), .int .i64 (x.cell 2), .int .i64 (x.cell 3), .int .i64 (x.cell 4)]
theorem ndCs_cell (x : Nd) (j : Nat) (h : j < 5) : (ndCs x)[j]? = some (.int .i64 (x.cell j)) := by
  rcases j with _ | _ | _ | _ | _ | j
  all_goals first | rfl | omega
theorem nodes_of_own {w : World} {b : Nat} {A : Array Value} (h : Own w [(b, A)]) (ts : List Nd) (hA : A = (ts.flatMap ndCs).toArray) (hl : ts.length ≤ maxLen) : IsNodes w (.slice (some ⟨b, 0, none⟩) ts.length ts.length) ts := by
  obtain ⟨z, c, -⟩ := own_get h
  refine .inr ⟨b, 0, ts.length, rfl, z, Nat.le_refl _, hl, fun i hi j hj => ?_⟩
  rw [Nat.zero_add, c, hA, List.getElem?_toArray, flat_get ndCs (fun _ => rfl) ts i hi j hj]
  exact ndCs_cell _ _ hj

/-! The two operations, as laws of the walk. -/
theorem wpList_built {P : Program} {ops : Array Oper} {rest : List Oper} {o : Oper} {a : Act} {w : World} {Q : Exit → Act → World → Prop} {t : TypeId} {vs : Array (Nat × Value)} {v : Value}
    (hr : ∀ w, (Instr.build t vs).run P w = .ok v w) {parts : Array (Nat × Operand)} (ho : o.op = .build t parts) (hg : o.guard = none) (hv : (parts.map fun (i, x) => (i, a.eval x)) = vs)
    (h : wpList P ops Q rest (a.put o.dst v) w) : wpList P ops Q (o :: rest) a w :=
  wpList_plain hg fun _ hK => by
    unfold Oper.wp execOp
    simp only [ho, Sem.run_bind, hv, hr, Result.andThen_ok]
    exact hK _ _ h
theorem wpList_builtS {P : Program} {ops : Array Oper} {rest : List Oper} {o : Oper} {a : Act} {w : World} {Q : Exit → Act → World → Prop} {t : TypeId} {n : Nat} {vs : Array (Nat × Value)} {ob : Obj}
    (hr : ∀ w, (Instr.buildSlice t n vs).run P w = .ok (.slice (some ⟨w.heap.size, 0, none⟩) n n) (w.alloc ob)) {parts : Array (Nat × Operand)} (ho : o.op = .buildSlice t n parts) (hg : o.guard = none) (hv : (parts.map fun (i, x) => (i, a.eval x)) = vs)
    (h : wpList P ops Q rest (a.put o.dst (.slice (some ⟨w.heap.size, 0, none⟩) n n)) (w.alloc ob)) : wpList P ops Q (o :: rest) a w :=
  wpList_plain hg fun _ hK => by
    unfold Oper.wp execOp
    simp only [ho, Sem.run_bind, hv, hr, Result.andThen_ok]
    exact hK _ _ h
end Go.Proofs.YtkpadahpepeaoaaDoor

/- the chapter's example: awake -/
namespace Go.Proofs.YtkpadahpepeaoaaDoor
open Go.RowKit
set_option maxRecDepth 100000

set_option maxHeartbeats 3200000 in
theorem vawake_any (w : World) (hS : Shapes w) : Calls Tryd.prog 8 #[] w fun e w' => e = .returned (.bool true) ∧ Later w w' := by
  have HNEW := Lib.hid fnew_any
  have HFIX := Lib.hid (fun p m1 m2 W hF => fix_any p m1 m2 [] [] 3 10 2 1 W hF (by unfold I64; omega) (by unfold I64; omega) (by unfold I64; omega) (by unfold I64; omega))
  rw [aw_fix] at HFIX
  have HG : ∀ day, GetOk (getF awFx day) := fun day => getOk_of aw_ok day
  have HA := Lib.hid (fun p m1 m2 v W hS hN hF => vat_any awT awFx [] p m1 m2 0 10 v W (by decide) aw_nodes (by unfold I64; omega) (HG 10) hS hN hF)
  have HB := Lib.hid (fun p m1 m2 v W hS hN hF => vat_any awT awFx [] p m1 m2 0 11 v W (by decide) aw_nodes (by unfold I64; omega) (HG 11) hS hN hF)
  rw [aw_at10, show valR (0, some (5, 2)) = .agg #[.bool true, .int .i64 5, .int .i64 2] from rfl] at HA
  rw [aw_at11, show valR (0, none) = .agg #[.bool false, .int .i64 0, .int .i64 0] from rfl] at HB
  clear HG
  go_enter Tryd.func8, Tryd.ntmps8
  go_upto_region 5 with (first
    | (go_at_call 22; go_must (refine (HNEW.out _).mono ?_; rintro e w1 ⟨p, m1, m2, rfl, hF1, ge1, ge2, hb1⟩))
    | (go_at_call 23; go_must (refine (HFIX.out _ _ _ _ hF1).mono ?_; rintro e w2 ⟨rfl, hF2, hg2⟩; have hl2 : Later w w2 := Later.grown hb1 hg2 (fun k hk => by cases hk; exact ge1))))
  refine wp_opaque (fun w3 hb3 => ?_)
  have hF3 := hF2.later hb3
  have hl3 := hl2.trans hb3
  clear hb3 hF2 hl2 hg2 hF1 hb1 HNEW HFIX
  go_upto_region 6 with (first | refine wpList_built (node_build _) rfl rfl rfl ?_ | refine wpList_built (node_build1 _ _) rfl rfl rfl ?_ | refine wpList_built (node_build3 _ _ _) rfl rfl rfl ?_ | refine wpList_built (ratio_build _ _) rfl rfl rfl ?_ | refine wpList_builtS (nodes_one _ _ _ _ _) rfl rfl rfl ?_ | refine wpList_builtS (nodes_two _ _ _ _ _ _ _ _ _ _) rfl rfl rfl ?_ | refine wpList_builtS (nodes_three _ _ _ _ _ _ _ _ _ _ _ _ _ _ _) rfl rfl rfl ?_)
  refine wp_opaque (fun w4 hb4 => ?_)
  have hN4 : IsNodes w4 (.slice (some ⟨w3.heap.size, 0, none⟩) 3 3) awT := nodes_of_own (Own.one hb4) awT rfl (by decide)
  have hF4 := hF3.later hb4.un1
  have hl4 := hl3.trans hb4.un1
  have hS4 := hS.later hl4
  clear hF3 hl3 hS hb4
  obtain ⟨V, hV⟩ : ∃ V : Value, .slice (some ⟨w3.heap.size, 0, none⟩) 3 3 = V := ⟨_, rfl⟩
  rw [hV] at hN4 ⊢
  clear hV
  have hHA := Lib.hid (fun W (hl : Later w4 W) => HA.out p m1 m2 V W (hS4.later hl) (hN4.later hl) (hF4.later hl))
  have hHB := Lib.hid (fun W (hl : Later w4 W) => HB.out p m1 m2 V W (hS4.later hl) (hN4.later hl) (hF4.later hl))
  clear HA HB hS4 hN4 hF4
  go_upto_region 7 with (go_at_call 10; go_must (refine (hHA.out _ (Later.refl _)).mono ?_; rintro e w5 ⟨rfl, hb5⟩))
  refine wp_opaque (fun w6 hb6 => ?_)
  have hl6 := hb5.trans hb6.un1
  have hO6 := Own.one hb6
  have hlA := hl4.trans hl6
  clear hHA hb6 hb5
  go_upto_region 8 with (go_at_call 10; go_must (refine (hHB.out _ hl6).mono ?_; rintro e w7 ⟨rfl, hb7⟩))
  refine wp_opaque (fun w8 hb8 => ?_)
  obtain ⟨z1, c1, -⟩ := own_get (hO6.later (hb7.trans hb8.un1))
  obtain ⟨z2, c2, -⟩ := own_get (Own.one hb8)
  have hlB := (hlA.trans hb7).trans hb8.un1
  clear hO6 hHB hb7 hl6 hlA hl4 hb8
  go_wp2
  go_ret
  exact ⟨rfl, hlB⟩
end Go.Proofs.YtkpadahpepeaoaaDoor
