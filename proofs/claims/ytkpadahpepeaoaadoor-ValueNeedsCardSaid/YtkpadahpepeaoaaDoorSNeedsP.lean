/- the keys that a number asks for: the plain laws -/
import Derived.Test.YtkpadahpepeaoaaDoorSPartsP
set_option linter.all false
namespace Go.Proofs.YtkpadahpepeaoaaDoor
open Go.RowKit
set_option maxRecDepth 100000

/-- Is a key asked for by nodes? -/
def keyB (op op' : Int) (l : List Nd) (k : Nat) : Bool := l.any (fun x => decide ((x.op = op ∨ x.op = op') ∧ x.a = (k : Int)))
def keysU (op op' : Int) (l : List Nd) (n : Nat) : List Int := ((List.range n).filter (keyB op op' l)).map (fun k : Nat => (k : Int))
def keysI (op op' : Int) (l : List Nd) : List Int := keysU op op' l 64
theorem keysU_succ (op op' : Int) (l : List Nd) (n : Nat) : keysU op op' l (n + 1) = keysU op op' l n ++ if keyB op op' l n then [(n : Int)] else [] := by
  unfold keysU
  rw [List.range_succ, List.filter_append, List.map_append]
  congr 1
  cases h : keyB op op' l n <;> simp [h]
theorem keysU_len (op op' : Int) (l : List Nd) (n : Nat) : (keysU op op' l n).length ≤ n := by
  unfold keysU
  rw [List.length_map]
  have := List.length_filter_le (keyB op op' l) (List.range n)
  simpa using this
theorem keys_mem {op op' : Int} {l : List Nd} {k : Int} : k ∈ keysI op op' l ↔ 0 ≤ k ∧ k < 64 ∧ keyB op op' l k.toNat = true := by
  unfold keysI keysU
  rw [List.mem_map]
  constructor
  · rintro ⟨n, hn, rfl⟩
    rw [List.mem_filter, List.mem_range] at hn
    exact ⟨by omega, by omega, by simpa using hn.2⟩
  · rintro ⟨h1, h2, h3⟩
    refine ⟨k.toNat, ?_, by omega⟩
    rw [List.mem_filter, List.mem_range]
    exact ⟨by omega, h3⟩
theorem keyB_mem {l : List Nd} {x : Nd} (hx : x ∈ l) (h2 : x.op = 2) (ha : 0 ≤ x.a) (hb : x.a < 64) : x.a ∈ keysI 2 2 l := by
  rw [keys_mem]
  refine ⟨ha, hb, List.any_eq_true.2 ⟨x, hx, decide_eq_true ⟨.inl h2, by omega⟩⟩⟩
theorem key_range {x : Nd} (h : fieldsB x = true) (h2 : x.op = 2) : 0 ≤ x.a ∧ x.a < 64 := by
  unfold fieldsB at h
  rw [if_neg (by omega), if_pos (.inl h2)] at h
  unfold limB withinB at h
  simp at h
  omega
/-- A number hangs on its keys alone. -/
theorem valT_congr {get get' : Int → Option Q2} : ∀ {T : Tm}, NumT T → (∀ k, k ∈ keysI 2 2 T.flat → get k = get' k) → valT get T = valT get' T := by
  intro T
  induction T using Tm.ind with
  | h x l ih =>
    intro hT hk
    obtain ⟨o1, o2, hl, hf, hx, hks⟩ := hT
    rw [valT_node, valT_node]
    have hsub : ∀ t ∈ l, valT get t = valT get' t := by
      intro t ht
      refine ih t ht ((NumTs_iff l).1 hks t ht) (fun k hk' => hk k ?_)
      rw [keys_mem] at hk' ⊢
      refine ⟨hk'.1, hk'.2.1, ?_⟩
      obtain ⟨y, hy, h3⟩ := List.any_eq_true.1 hk'.2.2
      refine List.any_eq_true.2 ⟨y, ?_, h3⟩
      unfold Tm.flat
      rw [Tm.flats_eq]
      exact List.mem_cons_of_mem _ (List.mem_flatMap.2 ⟨t, ht, hy⟩)
    rw [List.map_congr_left hsub]
    unfold nodeV
    by_cases h2 : x.op = 2
    · have h1 : ¬ (x.op = 1) := by omega
      rw [if_neg h1, if_neg h1, if_pos h2, if_pos h2]
      obtain ⟨r1, r2⟩ := key_range hf h2
      rw [hk x.a (keyB_mem (by unfold Tm.flat; exact List.mem_cons_self) h2 r1 r2)]
    · by_cases h1 : x.op = 1
      · rw [if_pos h1, if_pos h1]
      · rw [if_neg h1, if_neg h1, if_neg h2, if_neg h2]
theorem applyV_some {op : Int} {l : List Q2} (h : l.length = 1 ∨ l.length = 2) (h0 : (applyV op l).1 = 0) : (applyV op l).2.isSome = true := by
  have hf : ∀ N D, (fitQ N D).1 = 0 → (fitQ N D).2.isSome = true := by
    intro N D h
    unfold fitQ at h ⊢
    simp only at h ⊢
    rw [if_pos h]; rfl
  match l, h with
  | [a], _ => rfl
  | [a, b], _ =>
    unfold applyV at h0 ⊢
    simp only at h0 ⊢
    split at h0
    · rename_i h1; simp only [if_pos h1]; exact hf _ _ h0
    rename_i h1
    split at h0
    · rename_i h2; simp only [if_neg h1, if_pos h2]; exact hf _ _ h0
    rename_i h2
    split at h0
    · rename_i h3; simp only [if_neg h1, if_neg h2, if_pos h3]; exact hf _ _ h0
    rename_i h3
    simp only [if_neg h1, if_neg h2, if_neg h3]
    split <;> rfl
/-- It is known if its keys are. -/
theorem valT_known {get : Int → Option Q2} : ∀ {T : Tm}, NumT T → (∀ k, k ∈ keysI 2 2 T.flat → (get k).isSome = true) → (valT get T).1 = 0 → (valT get T).2.isSome = true := by
  intro T
  induction T using Tm.ind with
  | h x l ih =>
    intro hT hk h0
    obtain ⟨o1, o2, hl, hf, hx, hks⟩ := hT
    rw [valT_node] at h0 ⊢
    by_cases h1 : x.op = 1
    · unfold nodeV; rw [if_pos h1]; rfl
    by_cases h2 : x.op = 2
    · unfold nodeV; rw [if_neg h1, if_pos h2]
      obtain ⟨r1, r2⟩ := key_range hf h2
      exact hk x.a (keyB_mem (by unfold Tm.flat; exact List.mem_cons_self) h2 r1 r2)
    cases hfd : (l.map (valT get)).find? (fun r => decide (r.1 ≠ 0)) with
    | some r =>
      rw [nodeV_err h1 h2 hfd] at h0
      have h3 := List.find?_some hfd
      simp only [decide_eq_true_eq] at h3
      exact absurd h0 h3
    | none =>
      have hz : ∀ t ∈ l, (valT get t).1 = 0 := fun t ht => by have := List.find?_eq_none.1 hfd _ (List.mem_map.2 ⟨t, ht, rfl⟩); simpa using this
      have hall : ((l.map (valT get)).all fun r => r.2.isSome) = true := by
        rw [List.all_eq_true]
        intro r hr
        obtain ⟨t, ht, rfl⟩ := List.mem_map.1 hr
        refine ih t ht ((NumTs_iff l).1 hks t ht) (fun k hk' => hk k ?_) (hz t ht)
        rw [keys_mem] at hk' ⊢
        refine ⟨hk'.1, hk'.2.1, ?_⟩
        obtain ⟨y, hy, h3⟩ := List.any_eq_true.1 hk'.2.2
        refine List.any_eq_true.2 ⟨y, ?_, h3⟩
        unfold Tm.flat
        rw [Tm.flats_eq]
        exact List.mem_cons_of_mem _ (List.mem_flatMap.2 ⟨t, ht, hy⟩)
      have hz' : ∀ r ∈ l.map (valT get), r.1 = 0 := by
        intro r hr
        obtain ⟨t, ht, rfl⟩ := List.mem_map.1 hr
        exact hz t ht
      rw [nodeV_some h1 h2 hz' hall] at h0 ⊢
      refine applyV_some ?_ h0
      simp only [List.length_map]
      rw [hl]
      have : x.op = 3 ∨ x.op = 4 ∨ x.op = 5 ∨ x.op = 6 ∨ x.op = 7 ∨ x.op = 8 := by omega
      rcases this with h | h | h | h | h | h <;> rw [h] <;> decide

/-! The facts of keys at a day alone. -/
def FxPl (fx : FxL) : Prop := ∀ p v, getA fx p = some v → mayI p.1 p.2 true = 0
theorem fxPl_step {fx : FxL} {x : Td} (hn : (fx.map (·.1)).Nodup) (h : FxPl fx) : FxPl (tellFx fx x) := by
  intro p v hv
  unfold tellFx at hv
  split at hv
  · exact h p v hv
  · unfold fixL at hv
    split at hv
    · rename_i h0
      rw [putA_get _ _ _ _ hn] at hv
      split at hv
      · rename_i e
        subst e
        unfold fixE at h0
        split at h0
        · rename_i h1; exact h1
        · rename_i h1; exact absurd h0 h1
      · exact h p v hv
    · exact h p v hv
theorem fxPl_made (l : List Td) : FxPl (madeFx l) := by
  have : ∀ (l : List Td) (fx : FxL), (fx.map (·.1)).Nodup → FxPl fx → FxPl (l.foldl tellFx fx) := by
    intro l
    induction l with
    | nil => exact fun _ _ h => h
    | cons x r ih => exact fun fx hn h => ih _ (tellFx_nodup hn) (fxPl_step hn h)
  exact this l [] (by simp) (fun _ _ h => by cases h)
def someStep (fx : FxL) (day : Int) (acc : FxL) (k : Int) : FxL := match getA fx (k, day) with
  | none => acc
  | some v => fixL acc k day v.1 v.2
def someFx (fx : FxL) (day : Int) (keys : List Int) : FxL := keys.foldl (someStep fx day) []
theorem fix_fine {fx : FxL} {k day : Int} {v : Int × Int} (hp : FxPl fx) (ho : FxOk fx) (h : getA fx (k, day) = some v) : fixE k day v.1 v.2 = 0 := by
  have h1 : mayI k day true = 0 := hp _ _ h
  have h2 := ho _ _ h
  unfold fixE
  rw [if_pos h1]
  exact (chk_valid (by have := h2.n0; omega) h2.n1 h2.d1).2 h2
theorem some_get {fx : FxL} {day : Int} (hp : FxPl fx) (ho : FxOk fx) : ∀ (keys : List Int) (acc : FxL), (acc.map (·.1)).Nodup →
    ((keys.foldl (someStep fx day) acc).map (·.1)).Nodup ∧ ∀ q, getA (keys.foldl (someStep fx day) acc) q = if q.2 = day ∧ q.1 ∈ keys ∧ (getA fx q).isSome = true then getA fx q else getA acc q := by
  intro keys
  induction keys with
  | nil => intro acc hn; exact ⟨hn, fun q => by simp⟩
  | cons k r ih =>
    intro acc hn
    simp only [List.foldl_cons]
    cases hg : getA fx (k, day) with
    | none =>
      have e : someStep fx day acc k = acc := by unfold someStep; rw [hg]
      rw [e]
      obtain ⟨a, b⟩ := ih acc hn
      refine ⟨a, fun q => ?_⟩
      rw [b q]
      by_cases h1 : q.2 = day ∧ q.1 ∈ r ∧ (getA fx q).isSome = true
      · rw [if_pos h1, if_pos ⟨h1.1, List.mem_cons_of_mem _ h1.2.1, h1.2.2⟩]
      · rw [if_neg h1, if_neg]
        rintro ⟨h2, h3, h4⟩
        rcases List.mem_cons.1 h3 with h3 | h3
        · have : q = (k, day) := Prod.ext h3 h2
          rw [this, hg] at h4; cases h4
        · exact h1 ⟨h2, h3, h4⟩
    | some v =>
      have e : someStep fx day acc k = putA acc (k, day) v := by unfold someStep; rw [hg]; simp only; unfold fixL; rw [if_pos (fix_fine hp ho hg)]
      rw [e]
      obtain ⟨a, b⟩ := ih (putA acc (k, day) v) (putA_keys _ _ _ hn)
      refine ⟨a, fun q => ?_⟩
      rw [b q, putA_get _ _ _ _ hn]
      by_cases h1 : q.2 = day ∧ q.1 ∈ r ∧ (getA fx q).isSome = true
      · rw [if_pos h1, if_pos ⟨h1.1, List.mem_cons_of_mem _ h1.2.1, h1.2.2⟩]
      · rw [if_neg h1]
        by_cases h2 : q = (k, day)
        · subst h2
          rw [if_pos rfl, if_pos ⟨rfl, List.mem_cons_self, by rw [hg]; rfl⟩, hg]
        · rw [if_neg h2, if_neg]
          rintro ⟨h3, h4, h5⟩
          rcases List.mem_cons.1 h4 with h4 | h4
          · exact h2 (Prod.ext h4 h3)
          · exact h1 ⟨h3, h4, h5⟩
theorem someFx_get {fx : FxL} {day : Int} (hp : FxPl fx) (ho : FxOk fx) (keys : List Int) (q : Int × Int) : getA (someFx fx day keys) q = if q.2 = day ∧ q.1 ∈ keys ∧ (getA fx q).isSome = true then getA fx q else none :=
  (some_get hp ho keys [] (by simp)).2 q
theorem someFx_key {fx : FxL} {day : Int} (hp : FxPl fx) (ho : FxOk fx) {keys : List Int} {k : Int} (hk : k ∈ keys) : getF (someFx fx day keys) day k = getF fx day k := by
  unfold getF
  rw [someFx_get hp ho]
  split
  · rfl
  · rename_i h
    cases hg : getA fx (k, day) with
    | none => rfl
    | some v => exact absurd ⟨rfl, hk, by rw [hg]; rfl⟩ h
theorem someFx_ok {fx : FxL} {day : Int} (hp : FxPl fx) (ho : FxOk fx) (keys : List Int) : FxOk (someFx fx day keys) := by
  intro q v hv
  rw [someFx_get hp ho] at hv
  split at hv
  · exact ho _ _ hv
  · cases hv
/-- What ValueNeeds asks of both results. -/
theorem needs_all {ts : List Nd} {j : Nat} {s : Tm} {fx : FxL} {day : Int} (hok : ∀ x ∈ ts, x.ok) (hp : FxPl fx) (ho : FxOk fx) (h0 : wrongV ts (j : Nat) = 0) (hs : TmAt ts j s) (hn : NumT s) :
    atV ts (someFx fx day (keysI 2 2 s.flat)) (j : Nat) day = atV ts fx (j : Nat) day ∧
    ((atV ts fx (j : Nat) day).1 ≠ 0 ∨ (atV ts fx (j : Nat) day).2.isSome = true ∨ ((keysI 2 2 s.flat).all fun k => (gotF fx k day).2.2) = false) := by
  by_cases hd : day < 0 ∨ 73048 < day
  · rw [atV_day h0 hd, atV_day h0 hd]
    exact ⟨rfl, .inl (by decide)⟩
  · obtain ⟨j1, s1, e1, hs1, hn1, ha1⟩ := atV_fine (fx := fx) hok h0 hd
    obtain ⟨j2, s2, e2, hs2, hn2, ha2⟩ := atV_fine (fx := someFx fx day (keysI 2 2 s.flat)) hok h0 hd
    have ej1 : j1 = j := by omega
    have ej2 : j2 = j := by omega
    subst ej1
    subst ej2
    obtain rfl : s1 = s := TmAt.unique hs1 hs
    obtain rfl : s2 = s1 := TmAt.unique hs2 hs1
    rw [ha1, ha2]
    refine ⟨valT_congr hn (fun k hk => someFx_key hp ho hk), ?_⟩
    by_cases hc : (valT (getF fx day) s2).1 = 0
    · cases hall : ((keysI 2 2 s2.flat).all fun k => (gotF fx k day).2.2) with
      | false => exact .inr (.inr rfl)
      | true =>
        refine .inr (.inl (valT_known hn (fun k hk => ?_) hc))
        have := List.all_eq_true.1 hall k hk
        rw [(gotF_eq fx k day).2.2] at this
        exact this
    · exact .inl hc
end Go.Proofs.YtkpadahpepeaoaaDoor
