/- what is known stays: the plain laws -/
import Derived.Test.YtkpadahpepeaoaaDoorSTells
set_option linter.all false
namespace Go.Proofs.YtkpadahpepeaoaaDoor
open Go.RowKit
set_option maxRecDepth 100000

theorem fitQ_code {N D : Int} (h : 0 < D) : (fitQ N D).1 = 0 ∨ (fitQ N D).1 = 11 := by
  unfold fitQ rE
  simp only
  rw [if_neg (by omega)]
  split
  · exact .inl rfl
  · exact .inr rfl
theorem applyV_code {op : Int} {l : List Q2} (hl : ∀ x ∈ l, 0 < x.2) : (applyV op l).1 = 0 ∨ (applyV op l).1 = 11 := by
  match l, hl with
  | [], _ => exact .inl rfl
  | [a], _ => exact .inl rfl
  | [a, b], hl =>
    have hd : 0 < a.2 * b.2 := Int.mul_pos (hl a (by simp)) (hl b (by simp))
    unfold applyV
    simp only
    split
    · exact fitQ_code hd
    split
    · exact fitQ_code hd
    split
    · exact fitQ_code hd
    split
    · exact .inl rfl
    · exact .inl rfl
  | _ :: _ :: _ :: _, _ => exact .inl rfl
theorem valT_code {get : Int → Option Q2} (hg : GetOk get) : ∀ {T : Tm}, NumT T → (valT get T).1 = 0 ∨ (valT get T).1 = 11 := by
  intro T
  induction T using Tm.ind with
  | h x l ih =>
    intro hT
    obtain ⟨o1, o2, hl, hf, hx, hk⟩ := hT
    rw [valT_node]
    unfold nodeV
    by_cases h1 : x.op = 1
    · rw [if_pos h1]; exact .inl rfl
    rw [if_neg h1]
    by_cases h2 : x.op = 2
    · rw [if_pos h2]; exact .inl rfl
    rw [if_neg h2]
    split
    · rename_i r hr
      have hm := List.mem_of_find?_eq_some hr
      obtain ⟨t, ht, rfl⟩ := List.mem_map.1 hm
      exact ih t ht ((NumTs_iff l).1 hk t ht)
    · split
      · refine applyV_code (fun y hy => ?_)
        rename_i hall
        obtain ⟨r, hr, rfl⟩ := List.mem_map.1 hy
        obtain ⟨t, ht, rfl⟩ := List.mem_map.1 hr
        have h3 := List.all_eq_true.1 hall _ hr
        obtain ⟨q, hq⟩ := Option.isSome_iff_exists.1 h3
        have h4 := valT_valid hg ((NumTs_iff l).1 hk t ht) q hq
        simp only [outD, hq]
        exact h4.d0
      · exact .inl rfl
theorem valT_mono {get get' : Int → Option Q2} (hm : ∀ k v, get k = some v → get' k = some v) : ∀ (T : Tm), ((valT get T).1 ≠ 0 → (valT get' T).1 ≠ 0) ∧ ((valT get T).1 = 0 → ∀ q, (valT get T).2 = some q → valT get' T = (0, some q)) := by
  intro T
  induction T using Tm.ind with
  | h x l ih =>
    rw [valT_node, valT_node]
    unfold nodeV
    by_cases h1 : x.op = 1
    · rw [if_pos h1, if_pos h1]; exact ⟨fun h => absurd rfl h, fun _ q hq => by cases hq; rfl⟩
    rw [if_neg h1, if_neg h1]
    by_cases h2 : x.op = 2
    · rw [if_pos h2, if_pos h2]; exact ⟨fun h => absurd rfl h, fun _ q hq => by rw [hm _ _ hq]⟩
    rw [if_neg h2, if_neg h2]
    cases hr : (l.map (valT get)).find? (fun r => decide (r.1 ≠ 0)) with
    | some r =>
      have h3 : r.1 ≠ 0 := by have := List.find?_some hr; simpa using this
      have hmem := List.mem_of_find?_eq_some hr
      obtain ⟨t, ht, rfl⟩ := List.mem_map.1 hmem
      have h4 := (ih t ht).1 h3
      cases hr' : (l.map (valT get')).find? (fun r => decide (r.1 ≠ 0)) with
      | some r' => 
        have h5 : r'.1 ≠ 0 := by have := List.find?_some hr'; simpa using this
        exact ⟨fun _ => h5, fun h => absurd h h3⟩
      | none =>
        have h5 := List.find?_eq_none.1 hr' _ (List.mem_map.2 ⟨t, ht, rfl⟩)
        exact absurd h4 (by simpa using h5)
    | none =>
      have h3 : ∀ t ∈ l, (valT get t).1 = 0 := fun t ht => by have := List.find?_eq_none.1 hr _ (List.mem_map.2 ⟨t, ht, rfl⟩); simpa using this
      simp only
      by_cases hall : ((l.map (valT get)).all fun r => r.2.isSome) = true
      · have hsame : l.map (valT get') = l.map (valT get) := by
          refine List.map_congr_left (fun t ht => ?_)
          have h4 := List.all_eq_true.1 hall _ (List.mem_map.2 ⟨t, ht, rfl⟩)
          obtain ⟨q, hq⟩ := Option.isSome_iff_exists.1 h4
          rw [(ih t ht).2 (h3 t ht) q hq]
          exact Prod.ext (h3 t ht).symm hq.symm
        rw [hsame, hr]
        simp only
        rw [if_pos hall]
        exact ⟨fun h => h, fun h q hq => Prod.ext h hq⟩
      · rw [if_neg hall]
        exact ⟨fun h => absurd rfl h, fun _ q hq => by cases hq⟩
/-- What is known stays, and what does not fit. -/
theorem atV_stays {ts : List Nd} {fx fx' : FxL} {k day : Int} (hok : ∀ x ∈ ts, x.ok) (hg : GetOk (getF fx day)) (hg' : GetOk (getF fx' day)) (hm : ∀ k v, getF fx day k = some v → getF fx' day k = some v) :
    ((atV ts fx k day).1 ≠ 0 → atV ts fx' k day = ((atV ts fx k day).1, none)) ∧ (∀ q, atV ts fx k day = (0, some q) → atV ts fx' k day = (0, some q)) ∧
    (atV ts fx k day = (0, none) → (atV ts fx' k day).1 = 0 ∨ atV ts fx' k day = (11, none)) := by
  by_cases h0 : wrongV ts k = 0
  · by_cases hd : day < 0 ∨ 73048 < day
    · rw [atV_day h0 hd, atV_day h0 hd]
      exact ⟨fun _ => rfl, fun q h => (by cases h), fun h => by cases h⟩
    · obtain ⟨j, s, rfl, hs, hn, ha⟩ := atV_fine (fx := fx) hok h0 hd
      obtain ⟨j', s', e', hs', hn', ha'⟩ := atV_fine (fx := fx') hok h0 hd
      have ej : j = j' := by omega
      subst ej
      have es : s = s' := TmAt.unique hs hs'
      subst es
      rw [ha, ha']
      have m1 := valT_mono hm s
      have c1 := valT_code hg hn
      have c2 := valT_code hg' hn
      refine ⟨fun h => ?_, fun q h => m1.2 (by rw [h]) q (by rw [h]), fun _ => ?_⟩
      · have h2 := m1.1 h
        refine Prod.ext ?_ (valT_err s h2)
        simp only
        omega
      · rcases c2 with c2 | c2
        · exact .inl c2
        · exact .inr (Prod.ext c2 (valT_err s (by rw [c2]; simp)))
  · rw [atV_wrong h0, atV_wrong h0]
    exact ⟨fun _ => rfl, fun q h => absurd (congrArg (·.1) h) h0, fun h => absurd (congrArg (·.1) h) h0⟩

/-! More is told, of no key and day anew. -/
def moreFx (fx : FxL) (x : Td) : FxL := if (getA fx (x.k, x.d)).isSome then fx else tellFx fx x
def moreCh (fx : FxL) (ch : ChL) (x : Td) : ChL := if (getA fx (x.k, x.d)).isSome then ch else tellCh ch x
def more (s : FxL × ChL) (x : Td) : FxL × ChL := (moreFx s.1 x, moreCh s.1 s.2 x)
structure FxGood (fx : FxL) : Prop where
  nd : (fx.map (·.1)).Nodup
  ok : FxOk fx
theorem moreFx_good {fx : FxL} {x : Td} (hx : x.ok) (h : FxGood fx) : FxGood (moreFx fx x) := by
  unfold moreFx
  split
  · exact h
  · exact ⟨tellFx_nodup h.nd, fxOk_step h.nd hx h.ok⟩
theorem moreFx_keeps {fx : FxL} {x : Td} (h : FxGood fx) {p : Int × Int} {v : Int × Int} (hv : getA fx p = some v) : getA (moreFx fx x) p = some v := by
  unfold moreFx
  split
  · exact hv
  · rename_i h0
    unfold tellFx
    split
    · exact hv
    · unfold fixL
      split
      · rw [putA_get _ _ _ _ h.nd, if_neg ?_]
        · exact hv
        · intro e; apply h0; rw [← e, hv]; rfl
      · exact hv
theorem more_all (l : List Td) (hok : ∀ x ∈ l, x.ok) : ∀ (s : FxL × ChL), FxGood s.1 → FxGood (l.foldl more s).1 ∧ ∀ p v, getA s.1 p = some v → getA (l.foldl more s).1 p = some v := by
  induction l with
  | nil => exact fun s h => ⟨h, fun _ _ hv => hv⟩
  | cons x r ih =>
    intro s h
    have h1 : FxGood (more s x).1 := moreFx_good (hok x (by simp)) h
    obtain ⟨a, b⟩ := ih (fun y hy => hok y (by simp [hy])) (more s x) h1
    exact ⟨a, fun p v hv => b p v (moreFx_keeps h hv)⟩
theorem made_good (l : List Td) (hok : ∀ x ∈ l, x.ok) : FxGood (madeFx l) := by
  refine ⟨?_, fxOk_made l hok⟩
  unfold madeFx
  have : ∀ (l : List Td) (fx : FxL), (fx.map (·.1)).Nodup → ((l.foldl tellFx fx).map (·.1)).Nodup := by
    intro l
    induction l with
    | nil => exact fun _ h => h
    | cons x r ih => exact fun fx h => ih _ (tellFx_nodup h)
  exact this l [] (by simp)
end Go.Proofs.YtkpadahpepeaoaaDoor
