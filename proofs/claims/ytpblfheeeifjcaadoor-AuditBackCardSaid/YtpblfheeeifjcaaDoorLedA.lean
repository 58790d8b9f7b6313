/- rows of a type of their own; clones -/
import Derived.Test.YtpblfheeeifjcaaDoorEntD
import Derived.Shelf.SlMaps.Clone
set_option linter.all false
namespace Go.Proofs.YtpblfheeeifjcaaDoor
open Go.RowKit
set_option maxRecDepth 100000

/-- A row in a block of cells of its type. -/
def RowT {α : Type} (t : TypeId) (sz : Nat) (f : α → Nat → Value) (w : World) (v : Value) (xs : List α) : Prop :=
  IsRow sz f w v xs ∧ ∀ b, v.ownBlock = some b → ∃ cs fr, w.heap[b]? = some (.cells cs t fr)
section
variable {α : Type} {t : TypeId} {sz : Nat} {f : α → Nat → Value} {w w' : World} {v : Value} {xs : List α}
theorem RowT.later (h : RowT t sz f w v xs) (hb : Later w w') : RowT t sz f w' v xs :=
  ⟨h.1.later hb, fun b e => by
    obtain ⟨cs, fr, h1⟩ := h.2 b e
    exact ⟨cs, fr, (hb.block b (Array.getElem?_eq_some_iff.1 h1).1).trans h1⟩⟩
theorem RowT.grown (h : RowT t sz f w v xs) {q : Nat} (hg : w.grownBy w' (some q)) (hq : ∀ cs fr, w.heap[q]? ≠ some (.cells cs t fr)) : RowT t sz f w' v xs := by
  have hb : ∀ b, v.ownBlock = some b → w'.heap[b]? = w.heap[b]? := by
    intro b e
    obtain ⟨cs, fr, h1⟩ := h.2 b e
    exact hg.block b (Array.getElem?_eq_some_iff.1 h1).1 (fun e2 => by cases e2; exact hq _ _ h1)
  refine ⟨?_, fun b e => ?_⟩
  · rcases h.1 with h1 | ⟨b, o, cap, h1, h2, h3, h4, h5⟩
    · exact .inl h1
    · refine .inr ⟨b, o, cap, h1, Nat.lt_of_lt_of_le h2 hg.size, h3, h4, fun i hi j hj => ?_⟩
      rw [World.cell?_of_block (hb b (by rw [h1]; rfl))]
      exact h5 i hi j hj
  · obtain ⟨cs, fr, h1⟩ := h.2 b e
    exact ⟨cs, fr, (hb b e).trans h1⟩
theorem RowT.nil (w : World) : RowT t sz f w (.slice none 0 0) [] := ⟨IsRow.nil w, fun b e => by cases e⟩
theorem Mine.rowT {w0 : World} {n : Nat} (cs : α → List Value) (hcs : ∀ x, (cs x).length = sz) (hf : ∀ x j, j < sz → (cs x)[j]? = some (f x j)) (hsz : 0 < sz) (h : Mine w0 t sz w v n (xs.flatMap cs)) : RowT t sz f w v xs ∧ n = xs.length := by
  have h1 := h.row_ cs hcs hf hsz
  refine ⟨⟨h1.1, fun b e => ?_⟩, h1.2⟩
  rcases h.1.2 with ⟨h2, _⟩ | ⟨g, cap, cur, h2, _, h4, _⟩
  · rw [h2] at e; cases e
  · rw [h2] at e; cases e; exact ⟨_, _, h4⟩
theorem IsRow.cellsAt (h : IsRow sz f w v xs) (cs : α → List Value) (hcs : ∀ x, (cs x).length = sz) (hf : ∀ x j, j < sz → (cs x)[j]? = some (f x j)) (hsz : 0 < sz) (h0 : v ≠ .slice none 0 0) :
    ∃ ad cap, v = .slice (some ad) xs.length cap ∧ xs.length ≤ maxLen ∧ ∀ W, Later w W → ∀ j u, (xs.flatMap cs)[j]? = some u → W.cell? (ad.add j) = some u := by
  rcases h with ⟨⟨p, h1⟩, h2⟩ | ⟨b, o, cap, h1, h2, h3, h4, h5⟩
  · subst h2
    cases p with
    | none => exact absurd h1 h0
    | some ad => exact ⟨ad, 0, h1, by simp, fun W _ j u hj => by simp at hj⟩
  · refine ⟨⟨b, o, none⟩, cap, h1, Nat.le_trans h3 h4, fun W hl j u hj => ?_⟩
    have hjl : j < (xs.flatMap cs).length := (List.getElem?_eq_some_iff.1 hj).1
    rw [flat_len cs hcs] at hjl
    have hi : j / sz < xs.length := by rw [Nat.div_lt_iff_lt_mul hsz]; exact hjl
    have hm := Nat.mod_lt j hsz
    have e : j = j / sz * sz + j % sz := by rw [Nat.mul_comm]; exact (Nat.div_add_mod j sz).symm
    have e2 := h5 (j / sz) hi (j % sz) hm
    have e3 := ((bcell hl).1 _ _ h2).trans e2
    rw [add_plain, ← hj]
    rw [e, flat_get cs hcs xs (j / sz) hi (j % sz) hm, hf _ _ hm, ← Nat.add_assoc]
    exact e3
theorem wpList_appA {P : Program} {w0 w : World} {e sz : Nat} {v : Value} {n : Nat} {xs : List Value} {ops : Array Oper} {rest : List Oper} {o : Oper} {a : Act} {Q : Exit → Act → World → Prop} {t bytes : Nat} (T : SliceOf P t e sz bytes) (hM : Mine w0 e sz w v n xs) (hgd : o.guard = none) (s x : Operand)
    (ho : o.op = .call { callee := .builtin .append, args := #[s, x], argTypes := #[t, t] }) (hs : a.eval s = v)
    (ad : Addr) (m c : Nat) (news : List Value) (hx : a.eval x = .slice (some ad) m c) (hl : news.length = m * sz) (hc : ∀ j u, news[j]? = some u → w.cell? (ad.add j) = some u) (h1 : ∀ u ∈ news, u.oneCell' = true)
    (h63 : (n + m) * bytes ≤ 140737488355328) (h64 : n + m ≤ maxLen)
    (h : ∀ v' w', Mine w0 e sz w' v' (n + m) (xs ++ news) → w.grownBy w' v.ownBlock → wpList P ops Q rest (a.put o.dst v') w') : wpList P ops Q (o :: rest) a w := by
  obtain ⟨i, z, t1, t2, t3, t4, t5, t6, t7⟩ := T
  exact wpList_append_own _ hgd s x t ho w0.heap.size e i z sz bytes t1 t2 t3 t4 t5 t6 t7 v n xs hs hM.1 ad m c news hx hl hc h1 h64 h63 (Later.size hM.2) (fun v' w' h1' h2' _ => h v' w' ⟨h1', Later.grown hM.2 h2' (fun k hk => (hM.1.lt k hk).1)⟩ h2')
end
theorem lnInfo : (Tryd.prog.info? 41).map (fun i => (i.zero, i.size, i.bytes)) = some (some (.agg #[.int .i64 0, .int .i64 0, .int .i64 0]), 3, 24) := by kernel_rfl
theorem sliceLn : SliceOf Tryd.prog 32 41 3 24 := sliceOf_mk Tryd.underlying32 lnInfo rfl (by decide)
theorem enInfo : (Tryd.prog.info? 34).map (fun i => (i.zero, i.size, i.bytes)) = some (some (.agg #[.int .i64 0, .int .i64 0, .int .i64 0, .int .i64 0, .int .i64 0, .int .i64 0, .slice none 0 0]), 7, 72) := by kernel_rfl
theorem sliceEn : SliceOf Tryd.prog 48 34 7 72 := sliceOf_mk Tryd.underlying48 enInfo rfl (by decide)
theorem enCs_len (x : En × Value) : (enCs x).length = 7 := rfl
theorem lnCs_len (x : Ln) : (lnCs x).length = 3 := rfl
theorem enF_one (x : En × Value) (h : ∃ p n c, x.2 = .slice p n c) : ∀ u ∈ enCs x, u.oneCell' = true := by
  obtain ⟨x, v⟩ := x
  obtain ⟨p, n, c, rfl⟩ := h
  intro u hu
  simp only [enCs, List.mem_cons, List.not_mem_nil, or_false] at hu
  rcases hu with rfl | rfl | rfl | rfl | rfl | rfl | rfl <;> rfl


set_option maxHeartbeats 1600000 in
theorem lines_clone (xs : List (Ln)) (hlen : xs.length ≤ 100000) (h1 : ∀ x ∈ xs, ∀ u ∈ lnCs x, u.oneCell' = true) (v : Value) (w : World) (hN : IsRow 3 lnF w v xs) :
    Calls Tryd.prog 23 #[v] w fun e w' => ∃ v', e = .returned v' ∧ Mine w 41 3 w' v' xs.length (xs.flatMap lnCs) := by
  by_cases h0 : v = .slice none 0 0
  · have hx : xs = [] := by
      rcases hN with h | ⟨b, o, cap, h, _⟩
      · exact h.2
      · rw [h0] at h; cases h
    subst hx h0
    have he : ∀ W : World, (binOp .eql 32 (.slice none 0 0) (.slice none 0 0)).run Tryd.prog W = .ok (.bool true) W := fun _ => rfl
    go_enter Tryd.func23, Tryd.ntmps23
    go_wp2
    go_ret
    exact ⟨_, rfl, Mine.nil (by repeat (first | with_reducible exact Later.refl _ | with_reducible assumption | with_reducible refine Later.ofdrew ?_ | with_reducible refine Later.ofdrewN ?_ | with_reducible refine Later.setCell ?_ ?_ _ | with_reducible refine Later.alloc ?_ _ | with_reducible refine Later.drewN ?_ _ | with_reducible refine Later.drew ?_ | (with_reducible refine Later.trans ?_ (by assumption)) | (simp only [World.size_setCell, World.size_alloc, World.heap_drewN]; omega) | (simp; done) | (simp; omega)))⟩
  · obtain ⟨ad, cap, rfl, hl, hC⟩ := hN.cellsAt lnCs lnCs_len lnCs_cell (by decide) h0
    have hC := Lib.hid hC
    have h1 : ∀ u ∈ xs.flatMap lnCs, u.oneCell' = true := fun u hu => by
      obtain ⟨x, hx, hu⟩ := List.mem_flatMap.1 hu
      exact h1 x hx u hu
    have h1 := Lib.hid h1
    have hF := Lib.hid (flat_len lnCs lnCs_len xs)
    clear h0 hN
    generalize xs.length = L at *
    generalize xs.flatMap lnCs = cells at *
    have he : ∀ W : World, (binOp .eql 32 (.slice (some ad) L cap) (.slice none 0 0)).run Tryd.prog W = .ok (.bool false) W := fun _ => rfl
    go_enter Tryd.func23, Tryd.ntmps23
    go_wp2_with (at_builtin; go_must (refine wpList_appA sliceLn (Mine.lit (n := 0) (cur := #[]) (Later.refl w) rfl (by decide)) rfl _ _ rfl rfl ad L cap cells rfl hF.out (hC.out _ ((Later.refl _).alloc _)) h1.out (by omega) (by unfold maxLen; omega) ?_; intro v5 w5 hM5 hg5; obtain ⟨p5, cp5, rfl⟩ := hM5.form))
    go_ret
    exact ⟨_, rfl, by simpa using hM5⟩

set_option maxHeartbeats 1600000 in
theorem entries_clone (xs : List (En × Value)) (hlen : xs.length ≤ 100000) (h1 : ∀ x ∈ xs, ∀ u ∈ enCs x, u.oneCell' = true) (v : Value) (w : World) (hN : IsRow 7 enF w v xs) :
    Calls Tryd.prog 52 #[v] w fun e w' => ∃ v', e = .returned v' ∧ Mine w 34 7 w' v' xs.length (xs.flatMap enCs) := by
  by_cases h0 : v = .slice none 0 0
  · have hx : xs = [] := by
      rcases hN with h | ⟨b, o, cap, h, _⟩
      · exact h.2
      · rw [h0] at h; cases h
    subst hx h0
    have he : ∀ W : World, (binOp .eql 48 (.slice none 0 0) (.slice none 0 0)).run Tryd.prog W = .ok (.bool true) W := fun _ => rfl
    go_enter Tryd.func52, Tryd.ntmps52
    go_wp2
    go_ret
    exact ⟨_, rfl, Mine.nil (by repeat (first | with_reducible exact Later.refl _ | with_reducible assumption | with_reducible refine Later.ofdrew ?_ | with_reducible refine Later.ofdrewN ?_ | with_reducible refine Later.setCell ?_ ?_ _ | with_reducible refine Later.alloc ?_ _ | with_reducible refine Later.drewN ?_ _ | with_reducible refine Later.drew ?_ | (with_reducible refine Later.trans ?_ (by assumption)) | (simp only [World.size_setCell, World.size_alloc, World.heap_drewN]; omega) | (simp; done) | (simp; omega)))⟩
  · obtain ⟨ad, cap, rfl, hl, hC⟩ := hN.cellsAt enCs enCs_len enCs_cell (by decide) h0
    have hC := Lib.hid hC
    have h1 : ∀ u ∈ xs.flatMap enCs, u.oneCell' = true := fun u hu => by
      obtain ⟨x, hx, hu⟩ := List.mem_flatMap.1 hu
      exact h1 x hx u hu
    have h1 := Lib.hid h1
    have hF := Lib.hid (flat_len enCs enCs_len xs)
    clear h0 hN
    generalize xs.length = L at *
    generalize xs.flatMap enCs = cells at *
    have he : ∀ W : World, (binOp .eql 48 (.slice (some ad) L cap) (.slice none 0 0)).run Tryd.prog W = .ok (.bool false) W := fun _ => rfl
    go_enter Tryd.func52, Tryd.ntmps52
    go_wp2_with (at_builtin; go_must (refine wpList_appA sliceEn (Mine.lit (n := 0) (cur := #[]) (Later.refl w) rfl (by decide)) rfl _ _ rfl rfl ad L cap cells rfl hF.out (hC.out _ ((Later.refl _).alloc _)) h1.out (by omega) (by unfold maxLen; omega) ?_; intro v5 w5 hM5 hg5; obtain ⟨p5, cp5, rfl⟩ := hM5.form))
    go_ret
    exact ⟨_, rfl, by simpa using hM5⟩

theorem IsLines.clone {ls : List Ln} (hlen : ls.length ≤ 100000) {v : Value} {w : World} (hN : IsLines w v ls) :
    Calls Tryd.prog 23 #[v] w fun e w' => ∃ v', e = .returned v' ∧ RowT 41 3 lnF w' v' ls ∧ Mine w 41 3 w' v' ls.length (ls.flatMap lnCs) ∧ Later w w' :=
  (lines_clone ls hlen (fun x _ => lnCs_one x) v w hN).mono (fun e w' ⟨v', h1, h2⟩ => ⟨v', h1, (h2.rowT lnCs lnCs_len lnCs_cell (by decide)).1, h2, h2.lat⟩)

theorem map_clone (b : Nat) (es : Array MapEntry) (clock : Nat) (w : World) (hb : w.heap[b]? = some (.map es clock)) :
    Calls Tryd.prog 53 #[.map (some b)] w fun e w' => e = .returned (.map (some w.heap.size)) ∧ w' = w.alloc (.map es clock) := by
  have hq := fun w => run_eql_map_nil_sl (P := Tryd.prog) w 63 _ _ (some b) Tryd.underlying63
  go_enter Tryd.func53, Tryd.ntmps53
  go_wp2
  rw [run_callFunc_extern Tryd.func68 (by kernel_rfl) (by kernel_rfl) (by kernel_rfl) (e := Extern.MapsClone.clone) (by kernel_rfl), run_maps_clone_sl w 63 hb]
  simp only [Result.andThen]
  rw [Oper.upon_value]
  go_wp2
  rw [run_typeAssert_map_sl _ 63 20 _ _ _ Tryd.underlying63]
  simp only [Result.andThen]
  rw [Oper.upon_value]
  go_wp2
  go_ret
  exact ⟨rfl, rfl⟩

end Go.Proofs.YtpblfheeeifjcaaDoor
