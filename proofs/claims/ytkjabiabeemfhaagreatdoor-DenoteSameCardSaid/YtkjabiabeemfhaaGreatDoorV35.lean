/- denote: Flows, Waits -/
import Derived.Test.YtkjabiabeemfhaaGreatDoorV34
import Derived.Test.YtkjabiabeemfhaaGreatDoorV21
import Derived.Lib.SliceRun
import Derived.Deep.LoopGhost
import Derived.Test.YtkjabiabeemfhaaGreatDoorV23
import Derived.Test.YtkjabiabeemfhaaGreatDoorV30
set_option linter.all false
set_option linter.all false
section
namespace Go.Proofs.YtkjabiabeemfhaaGreatDoor
open Go.RowKit
set_option maxRecDepth 100000
theorem wt_eq (b c : Bool) (a1 a2 b1 b2 : Int) (W : World) : (Op.equalIn 10000 46 (.agg #[.bool b, .int .i64 a1, .int .i64 a2]) (.agg #[.bool c, .int .i64 b1, .int .i64 b2])).run Tryz.prog W = .ok (decide ((⟨b, a1, a2⟩ : Wt) = (⟨c, b1, b2⟩ : Wt))) W := by
  have hS : Tryz.prog.underlying 46 = some (.struct (Tryz.prog.fieldsOf 46)) := by kernel_rfl
  have hp : Tryz.prog.stoodInHeld 46 = false := by kernel_rfl
  have u3 := Tryz.underlying3
  have ia3 := Tryz.isAgg3
  have z3 := Tryz.sizeOf3
  have u4 := Tryz.underlying4
  have ia4 := Tryz.isAgg4
  have z4 := Tryz.sizeOf4
  rw [show (10000 : Nat) = 9999 + 1 from rfl, run_equalIn_agg W 9999 46 _ _ hS hp]
  simp only [Program.fieldsOf, Tryz.underlying46]
  go_simp
  by_cases h0 : b = c <;> simp [h0]
  by_cases h1 : a1 = b1 <;> simp [h1]
  by_cases h2 : a2 = b2 <;> simp [h2]
theorem wt_eql (b c : Bool) (a1 a2 b1 b2 : Int) (W : World) : (binOp .eql 46 (.agg #[.bool b, .int .i64 a1, .int .i64 a2]) (.agg #[.bool c, .int .i64 b1, .int .i64 b2])).run Tryz.prog W = .ok (.bool (decide ((⟨b, a1, a2⟩ : Wt) = (⟨c, b1, b2⟩ : Wt)))) W := by
  rw [run_eql_struct, wt_eq]; rfl
theorem wt_neq (b c : Bool) (a1 a2 b1 b2 : Int) (W : World) : (binOp .neq 46 (.agg #[.bool b, .int .i64 a1, .int .i64 a2]) (.agg #[.bool c, .int .i64 b1, .int .i64 b2])).run Tryz.prog W = .ok (.bool (!decide ((⟨b, a1, a2⟩ : Wt) = (⟨c, b1, b2⟩ : Wt)))) W := by
  rw [run_neq_struct, wt_eq]; rfl
theorem wait_from (b o L cp k : Nat) (hk : k < L) (hc : L ≤ cp) (W : World) : (Instr.slice 34 (.slice (some ⟨b, o, none⟩) L cp) (some (.int .i64 (k : Int))) none none).run Tryz.prog W = .ok (.slice (some ⟨b, o + k * 3, none⟩) (L - k) (cp - k)) W := by
  rw [run_slice_l _ _ _ _ _ (by kernel_rfl) _ _ (by omega) (by omega)]
  have e : (sizeOf (Tryz.prog.elem 34)).run Tryz.prog W = .ok 3 W := by kernel_rfl
  rw [e]
  simp only [Result.andThen, sliced, Int.toNat_natCast]
  rw [if_neg (by omega)]
  simp only [Option.map]; rw [add_plain]
theorem wait_upto (b o L cp k : Nat) (hk : k ≤ cp) (W : World) : (Instr.slice 34 (.slice (some ⟨b, o, none⟩) L cp) none (some (.int .i64 (k : Int))) none).run Tryz.prog W = .ok (.slice (some ⟨b, o, none⟩) k cp) W := by
  rw [run_slice_h _ _ _ _ _ (by kernel_rfl) _ _ (by omega) (by omega)]
  have e : (sizeOf (Tryz.prog.elem 34)).run Tryz.prog W = .ok 3 W := by kernel_rfl
  rw [e]
  simp only [Result.andThen, sliced, Int.toNat_natCast, Nat.zero_mul, Nat.sub_zero]
  split
  · rfl
  · simp only [Option.map]; rw [add_plain]; rfl
theorem zero_wait (w : World) : (zeroValue 46).run Tryz.prog w = .ok (.agg #[.bool false, .int .i64 0, .int .i64 0]) w := by kernel_rfl
theorem clear_wait (w : World) (ty : TypeId) (b o n c : Nat) (hn : 0 < n) (hc : ∀ j, j < n * 3 → (w.cell? ⟨b, o + j, none⟩).isSome = true) (hf : ∀ j, j < n * 3 → w.frozen? ⟨b, o + j, none⟩ = false) :
    ∃ vs : List Value, vs.length = n * 3 ∧ (Builtin.clear_ #[34] ty #[.slice (some ⟨b, o, none⟩) n c]).run Tryz.prog w = .ok (.tuple #[]) (w.setCells b o vs) := by
  obtain ⟨z, hz⟩ : ∃ z : Array Value, z = (Value.agg #[.bool false, .int .i64 0, .int .i64 0]).cells := ⟨_, rfl⟩
  have hz3 : z.size = 3 := by rw [hz]; rfl
  have hlen : (Builtin.zeroCells z n).toList.length = n * 3 := by simp [Builtin.zeroCells, hz3]
  have hone : ∀ v ∈ (Builtin.zeroCells z n).toList, v.oneCell' = true := by
    intro v hv
    simp only [Builtin.zeroCells, Array.toList_map, List.mem_map] at hv
    obtain ⟨i, _, rfl⟩ := hv
    have hi := Nat.mod_lt i (show 0 < z.size by omega)
    rw [hz3] at hi ⊢
    rw [hz]
    have : i % 3 = 0 ∨ i % 3 = 1 ∨ i % 3 = 2 := by omega
    rcases this with h | h | h <;> rw [h] <;> rfl
  have hst := run_storeCells_cells (P := Tryz.prog) b o (Builtin.zeroCells z n).toList 0 w (by rw [hlen]; simpa using hc) (by rw [hlen]; simpa using hf) hone
  simp only [Nat.add_zero] at hst
  refine ⟨(Builtin.zeroCells z n).toList, hlen, ?_⟩
  obtain ⟨m, rfl⟩ : ∃ m, n = m + 1 := ⟨n - 1, by omega⟩
  rw [hz] at hst ⊢
  simp [Builtin.clear_, run_underlying Tryz.underlying34, zero_wait, hst]
namespace B
theorem Que.put {α : Type} {sz base : Nat} {w : World} {g o n cap : Nat} {M : List α} {cs : α → List Value} (hcs : ∀ x, (cs x).length = sz) (h : Que base sz w (.slice (some ⟨g, o, none⟩) n cap) n (M.flatMap cs)) (hM : M.length = n) {i : Nat} (hi : i < n) (x : α) :
    Que base sz (w.setCells g (o + i * sz) (cs x)) (.slice (some ⟨g, o, none⟩) n cap) n ((M.set i x).flatMap cs) := by
  refine ⟨by rw [flat_len (sz := sz) cs hcs, List.length_set, hM], ?_⟩
  rcases h.2 with ⟨h1, _⟩ | ⟨g', o', cap', h1, h2, h3, h4, h5, h6, h7⟩
  · cases h1
  · cases h1
    obtain ⟨p1, p2, p3, p4⟩ := plain_setCells g (cs x) (o + i * sz) w
    have hle : (i + 1) * sz ≤ n * sz := Nat.mul_le_mul_right sz hi
    rw [Nat.succ_mul] at hle
    have hcap : n * sz ≤ cap * sz := Nat.mul_le_mul_right sz h4
    have hin : ∀ j, j < (cs x).length → (w.cell? ⟨g, o + i * sz + j, Option.none⟩).isSome = true := fun j hj => by
      rw [hcs] at hj
      have := (h7 (i * sz + j) (by omega)).1
      rwa [← Nat.add_assoc] at this
    have key : ∀ j, j < n * sz → ((M.set i x).flatMap cs)[j]? = if i * sz ≤ j ∧ j < i * sz + sz then (cs x)[j - i * sz]? else (M.flatMap cs)[j]? := by
      intro j hj
      have hsz : 0 < sz := by
        rcases Nat.eq_zero_or_pos sz with h | h
        · rw [h] at hj; simp at hj
        · exact h
      have hq : j / sz < n := by rw [Nat.div_lt_iff_lt_mul hsz]; exact hj
      have hm := Nat.mod_lt j hsz
      have e : j = j / sz * sz + j % sz := by rw [Nat.mul_comm]; exact (Nat.div_add_mod j sz).symm
      have g1 := flat_get cs hcs (M.set i x) (j / sz) (by rw [List.length_set, hM]; exact hq) (j % sz) hm
      have g2 := flat_get cs hcs M (j / sz) (by rw [hM]; exact hq) (j % sz) hm
      rw [← e] at g1 g2
      rw [g1, g2, List.getElem_set]
      by_cases hji : i = j / sz
      · subst hji
        rw [if_pos rfl, if_pos (by omega)]
        congr 1
        omega
      · rw [if_neg hji, if_neg]
        rintro ⟨a, b⟩
        apply hji
        have : j / sz = i := by
          rw [Nat.div_eq_of_lt_le (by omega) (by rw [Nat.succ_mul]; omega)]
        exact this.symm
    refine .inr ⟨g, o, cap, rfl, h2, by rw [p4]; exact h3, h4, h5, fun j hj => ?_, fun j hj => ⟨?_, ?_⟩⟩
    · rw [key j hj]
      by_cases hji : i * sz ≤ j ∧ j < i * sz + sz
      · rw [if_pos hji]
        have := World.cell?_setCells_in g (cs x) (o + i * sz) w hin (j - i * sz) (by rw [hcs]; omega)
        rw [show o + i * sz + (j - i * sz) = o + j by omega] at this
        rw [this, List.getElem?_eq_getElem (by rw [hcs]; omega)]
      · rw [if_neg hji, World.cell?_setCells_out g (cs x) (o + i * sz) w ⟨g, o + j, Option.none⟩ (fun _ _ => by
          rw [hcs]
          by_cases h : j < i * sz
          · exact .inl (by show o + j < _; omega)
          · exact .inr (by show _ ≤ o + j; omega)), h6 j hj]
    · by_cases hji : i * sz ≤ j ∧ j < i * sz + sz
      · have := World.cell?_setCells_in g (cs x) (o + i * sz) w hin (j - i * sz) (by rw [hcs]; omega)
        rw [show o + i * sz + (j - i * sz) = o + j by omega] at this
        rw [this]; rfl
      · rw [World.cell?_setCells_out g (cs x) (o + i * sz) w ⟨g, o + j, Option.none⟩ (fun _ _ => by
          rw [hcs]
          by_cases h : j < i * sz
          · exact .inl (by show o + j < _; omega)
          · exact .inr (by show _ ≤ o + j; omega))]
        exact (h7 j hj).1
    · rw [World.frozen?_setCells]; exact (h7 j hj).2
theorem Que.upto {sz base : Nat} {w : World} {g o n cap : Nat} {xs : List Value} (h : Que base sz w (.slice (some ⟨g, o, none⟩) n cap) n xs) {k : Nat} (hk : k ≤ n) (vs : List Value) (hvs : vs.length = (n - k) * sz) :
    Que base sz (w.setCells g (o + k * sz) vs) (.slice (some ⟨g, o, none⟩) k cap) k (xs.take (k * sz)) := by
  have hle : k * sz ≤ n * sz := Nat.mul_le_mul_right sz hk
  refine ⟨by rw [List.length_take, h.1]; omega, ?_⟩
  rcases h.2 with ⟨h1, _⟩ | ⟨g', o', cap', h1, h2, h3, h4, h5, h6, h7⟩
  · cases h1
  · cases h1
    obtain ⟨p1, p2, p3, p4⟩ := plain_setCells g vs (o + k * sz) w
    have hcap : n * sz ≤ cap * sz := Nat.mul_le_mul_right sz h4
    rw [Nat.sub_mul] at hvs
    have hin : ∀ j, j < vs.length → (w.cell? ⟨g, o + k * sz + j, Option.none⟩).isSome = true := fun j hj => by
      have := (h7 (k * sz + j) (by omega)).1
      rwa [← Nat.add_assoc] at this
    refine .inr ⟨g, o, cap, rfl, h2, by rw [p4]; exact h3, by omega, h5, fun j hj => ?_, fun j hj => ⟨?_, ?_⟩⟩
    · rw [World.cell?_setCells_out g vs (o + k * sz) w ⟨g, o + j, Option.none⟩ (fun _ _ => .inl (by show o + j < _; omega)), h6 j (by omega), List.getElem?_take, if_pos hj]
    · by_cases hji : k * sz ≤ j ∧ j < k * sz + vs.length
      · have := World.cell?_setCells_in g vs (o + k * sz) w hin (j - k * sz) (by omega)
        rw [show o + k * sz + (j - k * sz) = o + j by omega] at this
        rw [this]; rfl
      · rw [World.cell?_setCells_out g vs (o + k * sz) w ⟨g, o + j, Option.none⟩ (fun _ _ => by
          by_cases h : j < k * sz
          · exact .inl (by show o + j < _; omega)
          · exact .inr (by show _ ≤ o + j; omega))]
        exact (h7 j hj).1
    · rw [World.frozen?_setCells]; exact (h7 j hj).2
theorem lat_setCells {Z : Nat → Prop} {a w : World} (h : S.LatB Z a w) {g o : Nat} (hg : Z g) (vs : List Value) : S.LatB Z a (w.setCells g o vs) := by
  obtain ⟨p1, p2, p3, p4⟩ := plain_setCells g vs o w
  exact h.trans ⟨p1, p2, p3, by rw [p4]; exact Nat.le_refl _, fun k _ hs => heap_setCells g vs o w k (fun e => hs (by rw [e]; exact hg))⟩
end B
end Go.Proofs.YtkjabiabeemfhaaGreatDoor
end
section
namespace Go.Proofs.YtkjabiabeemfhaaGreatDoor
open Go.RowKit
set_option maxRecDepth 100000
def Inner (base : Nat) (w : World) (g o cap : Nat) (L : List Wt) (w' : World) (k m : Nat) : Prop :=
  ∃ M : List Wt, M.length = L.length ∧ B.Que base 3 w' (.slice (some ⟨g, o, none⟩) L.length cap) L.length (M.flatMap wtCs) ∧ k = (cmpL (L.take m)).length ∧ M.take k = cmpL (L.take m) ∧ (∀ i, m ≤ i + 1 → M[i]? = L[i]?) ∧ k < m ∧ S.LatB (fun k => k = g) w w'
theorem Inner.drew {base : Nat} {w : World} {g o cap : Nat} {L : List Wt} {w' : World} {k m : Nat} (h : Inner base w g o cap L w' k m) : Inner base w g o cap L w'.drew k m := by
  obtain ⟨M, m1, m2, m3, m4, m5, m6, m7⟩ := h
  exact ⟨M, m1, m2.later ((Later.refl _).drew), m3, m4, m5, m6, m7.drew⟩
theorem wt_at {base : Nat} {w : World} {g o cap n : Nat} {M : List Wt} (h : B.Que base 3 w (.slice (some ⟨g, o, none⟩) n cap) n (M.flatMap wtCs)) (hM : M.length = n) {i : Nat} (hi : i < n) (x : Wt) (hx : M[i]? = some x) :
    w.cell? ⟨g, o + i * 3, none⟩ = some (.bool x.cho) ∧ w.cell? ⟨g, o + i * 3 + 1, none⟩ = some (.int .i64 x.key) ∧ w.cell? ⟨g, o + i * 3 + 2, none⟩ = some (.int .i64 x.day) := by
  rcases h.2 with ⟨h1, _⟩ | ⟨g', o', cap', h1, h2, h3, h4, h5, h6, h7⟩
  · cases h1
  · cases h1
    obtain ⟨hi', rfl⟩ := List.getElem?_eq_some_iff.1 hx
    have key : ∀ j, j < 3 → w.cell? ⟨g, o + i * 3 + j, none⟩ = (wtCs M[i])[j]? := fun j hj => by
      have := h6 (i * 3 + j) (by omega)
      rw [flat_get wtCs wtCs_len M i hi' j hj, ← Nat.add_assoc] at this
      exact this
    exact ⟨key 0 (by decide), key 1 (by decide), key 2 (by decide)⟩
theorem wt_free {base : Nat} {w : World} {g o cap n : Nat} {xs : List Value} (h : B.Que base 3 w (.slice (some ⟨g, o, none⟩) n cap) n xs) {i : Nat} (hi : i < n) :
    w.frozen? ⟨g, o + i * 3, none⟩ = false ∧ w.frozen? ⟨g, o + i * 3 + 1, none⟩ = false ∧ w.frozen? ⟨g, o + i * 3 + 2, none⟩ = false := by
  rcases h.2 with ⟨h1, _⟩ | ⟨g', o', cap', h1, h2, h3, h4, h5, h6, h7⟩
  · cases h1
  · cases h1
    have a := (h7 (i * 3) (by omega)).2
    have b := (h7 (i * 3 + 1) (by omega)).2
    have c := (h7 (i * 3 + 2) (by omega)).2
    exact ⟨a, by rw [Nat.add_assoc]; exact b, by rw [Nat.add_assoc]; exact c⟩
set_option maxHeartbeats 8000000 in
theorem compact_any (L : List Wt) (hlen : L.length ≤ 1000000) (base : Nat) (v : Value) (w : World) (hQ : B.Que base 3 w v L.length (L.flatMap wtCs)) :
    Calls Tryz.prog 55 #[v] w fun e w' => ∃ v', e = .returned v' ∧ B.Que base 3 w' v' (cmpL L).length ((cmpL L).flatMap wtCs) ∧ S.LatB (fun k => v.ownBlock = some k) w w' := by
  obtain ⟨N, hN⟩ : ∃ N, L.length = N := ⟨_, rfl⟩
  have HN := Lib.hid hN
  by_cases h2 : L.length < 2
  · have hc : cmpL L = L := by
      match L, h2 with
      | [], _ => rfl
      | [a], _ => rfl
    obtain ⟨p0, c0, hv⟩ := hQ.form
    have HQ := Lib.hid hQ
    have HC := Lib.hid hc
    have HV := Lib.hid hv
    subst hv
    rw [hN] at h2 ⊢
    have h2I : (N : Int) < 2 := by omega
    clear hQ hc hN
    go_enter Tryz.func55, Tryz.ntmps55
    go_wp2
    go_ret
    exact ⟨_, rfl, by rw [HC.out]; have := HQ.out; rw [HN.out] at this; rw [HN.out]; exact this, S.LatB.refl _⟩
  · have hQ' := hQ.2
    rw [hN] at hQ h2 hQ' hlen
    rcases hQ' with ⟨_, h0⟩ | ⟨g, o, cap, rfl, hg1, hg2, hcap, hcm, -, -⟩
    · omega
    have HQ := Lib.hid hQ
    have h2I : ¬ (N : Int) < 2 := by omega
    clear hQ hg1 hg2 hcm
    go_enter Tryz.func55, Tryz.ntmps55
    go_wp2
    go_loopw [3] (fun s3 wr => ∃ k : Nat, 1 ≤ k ∧ k ≤ N ∧ s3 = .int .i64 k ∧ Later w wr ∧ Hid (cmpL (L.take k) = L.take k)) (fun s3 _ => N - (intOf s3).toNat)
    case atStart => exact ⟨1, Nat.le_refl _, by omega, rfl, Later.refl _, Lib.hid (by
      match L, HN.out with
      | [], _ => rfl
      | a :: r, _ => rfl)⟩
    case round =>
      obtain ⟨k, hk1, hk, rfl, hlr, HK⟩ := hrel
      obtain ⟨wa, hwa⟩ : ∃ wa : World, wa = wr := ⟨_, rfl⟩
      subst hwa
      by_cases hlt : k < N
      · have hltI : (k : Int) < N := by omega
        have hkl : k < L.length := by rw [HN.out]; exact hlt
        have hkm : k - 1 < L.length := by omega
        obtain ⟨a0, a1, a2⟩ := wt_at (HQ.out.later hlr) HN.out hlt L[k] (List.getElem?_eq_getElem hkl)
        obtain ⟨b0, b1, b2⟩ := wt_at (HQ.out.later hlr) HN.out (i := k - 1) (by omega) L[k - 1] (List.getElem?_eq_getElem hkm)
        have HT := Lib.hid (cmpL_take hk1 hkl)
        have HTK : Hid (L.take (k + 1) = L.take k ++ [L[k]]) := Lib.hid (List.take_succ_eq_append_getElem hkl)
        have HAA : Hid (L[k]? = some L[k] ∧ L[k - 1]? = some L[k - 1]) := Lib.hid ⟨List.getElem?_eq_getElem hkl, List.getElem?_eq_getElem hkm⟩
        obtain ⟨x, hx⟩ : ∃ x, L[k] = x := ⟨_, rfl⟩
        obtain ⟨y, hy⟩ : ∃ y, L[k - 1] = y := ⟨_, rfl⟩
        rw [hx, hy] at HT HAA
        rw [hx] at a0 a1 a2 HTK
        rw [hy] at b0 b1 b2
        obtain ⟨x0, x1, x2⟩ := x
        obtain ⟨y0, y1, y2⟩ := y
        simp only at a0 a1 a2 b0 b1 b2
        clear hx hy hkl hkm
        by_cases hxy : (⟨x0, x1, x2⟩ : Wt) = ⟨y0, y1, y2⟩
        · have HE : ∀ W : World, (binOp .eql 46 (.agg #[.bool x0, .int .i64 x1, .int .i64 x2]) (.agg #[.bool y0, .int .i64 y1, .int .i64 y2])).run Tryz.prog W = .ok (.bool true) W := fun W => by rw [wt_eql, decide_eq_true hxy]
          have HXY := Lib.hid hxy
          clear hxy
          have hsl := fun W => wait_from g o N cap k hlt hcap W
          have hI0 : Hid (Inner base w g o cap L wa k (k + 1)) := Lib.hid ⟨L, rfl, by rw [HN.out]; exact HQ.out.later hlr, by rw [HT.out, if_pos HXY.out.symm, HK.out, List.length_take, HN.out]; omega, by rw [HT.out, if_pos HXY.out.symm, HK.out], fun _ _ => rfl, Nat.lt_succ_self k, S.LatB.of hlr⟩
          clear HT HTK HAA HK
          go_upto_region 6 with (fail)
          refine wp_region_plan 10 (.done [0, 1, 2, 3, 4, 5, 6, 7, 8, 9]) (by kernel_rfl) (by kernel_rfl) (fun _ _ d _ _ h => by cases d <;> exact h) ?_
          repeat' (first
            | (refine plan_done (fun K hK => ?_); (first | (simp only [pick_cons, pick_nil, toList_some_append, List.getElem?_toArray, List.getElem?_cons_zero, List.getElem?_cons_succ]; repeat (go_big_quiet_step (fail))) | simp only [pick_nil]); refine wpQuiet_nil (hK _ ?_); clear hK K)
            | ((with_reducible refine at_list ?_); go_wp2_with (fail); first | refine behind_store (t := 10) (by decide) ?_ | refine behind (by repeat (first | with_reducible exact Later.refl _ | with_reducible assumption | with_reducible refine Later.ofdrew ?_ | with_reducible refine Later.ofdrewN ?_ | with_reducible refine Later.alloc ?_ _ | with_reducible refine Later.drewN ?_ _ | with_reducible refine Later.drew ?_ | (with_reducible refine Later.trans ?_ (by assumption)))) ?_))
          clear a0 a1 a2 b0 b1 b2 HE
          go_upto_region 9 with (fail)
          clear hsl
          go_loopw [3, 5] (fun s3 s5 wr => ∃ kk q : Nat, 1 ≤ q ∧ k + q ≤ N ∧ s3 = .int .i64 kk ∧ s5 = .int .i64 q ∧ Hid (Inner base w g o cap L wr kk (k + q))) (fun _ s5 _ => N - (intOf s5).toNat)
          case atStart => exact ⟨k, 1, Nat.le_refl _, hlt, rfl, rfl, Lib.hid hI0.out.drew⟩
          case round =>
            obtain ⟨kk, q, hq1, hq, rfl, rfl, HI⟩ := hrel
            obtain ⟨wb, hwb⟩ : ∃ wa : World, wa = wr := ⟨_, rfl⟩
            subst hwb
            clear hI0
            by_cases hqN : k + q < N
            · have hqI : (q : Int) < ((N - k : Nat) : Int) := by omega
              have hkl : k + q < L.length := by rw [HN.out]; exact hqN
              have hkm : k + q - 1 < L.length := by omega
              have HT := Lib.hid (cmpL_take (l := L) (i := k + q) (by omega) hkl)
              obtain ⟨M, m1, m2, m3, m4, m5, m6, m7⟩ := HI.out
              rw [HN.out] at m1 m2
              obtain ⟨a0, a1, a2⟩ := wt_at m2 m1 hqN L[k + q] (by rw [m5 _ (by omega)]; exact List.getElem?_eq_getElem hkl)
              obtain ⟨b0, b1, b2⟩ := wt_at m2 m1 (i := k + q - 1) (by omega) L[k + q - 1] (by rw [m5 _ (by omega)]; exact List.getElem?_eq_getElem hkm)
              have hkN : kk < N := by omega
              obtain ⟨f0, f1, f2⟩ := wt_free m2 hkN
              obtain ⟨d0, d1, d2⟩ := wt_at m2 m1 hkN M[kk] (List.getElem?_eq_getElem (by omega))
              rw [show o + (k + q) * 3 = o + k * 3 + q * 3 by omega] at a0 a1 a2
              rw [show o + (k + q - 1) * 3 = o + k * 3 + (q - 1) * 3 by omega] at b0 b1 b2
              have HM := Lib.hid (show M.length = N ∧ B.Que base 3 wb (.slice (some ⟨g, o, none⟩) N cap) N (M.flatMap wtCs) ∧ kk = (cmpL (L.take (k + q))).length ∧ M.take kk = cmpL (L.take (k + q)) ∧ (∀ i, k + q ≤ i + 1 → M[i]? = L[i]?) ∧ kk < k + q ∧ S.LatB (fun k => k = g) w wb from ⟨m1, m2, m3, m4, m5, m6, m7⟩)
              obtain ⟨x, hx⟩ : ∃ x, L[k + q] = x := ⟨_, rfl⟩
              obtain ⟨y, hy⟩ : ∃ y, L[k + q - 1] = y := ⟨_, rfl⟩
              obtain ⟨z, hz⟩ : ∃ z, M[kk] = z := ⟨_, rfl⟩
              rw [hx, hy] at HT
              rw [hx] at a0 a1 a2
              rw [hy] at b0 b1 b2
              rw [hz] at d0 d1 d2
              obtain ⟨x0, x1, x2⟩ := x
              obtain ⟨y0, y1, y2⟩ := y
              obtain ⟨z0, z1, z2⟩ := z
              simp only at a0 a1 a2 b0 b1 b2 d0 d1 d2
              have hzb : g < wb.heap.size := World.block_lt_of_cell? _ _ d0
              clear m1 m2 m3 m4 m5 m6 m7 hx hy hz hkm HI
              by_cases hxy : (⟨x0, x1, x2⟩ : Wt) = ⟨y0, y1, y2⟩
              · have HE : ∀ W : World, (binOp .neq 46 (.agg #[.bool x0, .int .i64 x1, .int .i64 x2]) (.agg #[.bool y0, .int .i64 y1, .int .i64 y2])).run Tryz.prog W = .ok (.bool false) W := fun W => by rw [wt_neq, decide_eq_true hxy]; rfl
                have HR : Hid (Inner base w g o cap L wb kk (k + (q + 1))) := Lib.hid (by
                  obtain ⟨m1, m2, m3, m4, m5, m6, m7⟩ := HM.out
                  have e : cmpL (L.take (k + (q + 1))) = cmpL (L.take (k + q)) := by rw [← Nat.add_assoc, HT.out, if_pos hxy.symm]
                  exact ⟨M, by rw [m1, HN.out], by rw [HN.out]; exact m2, by rw [e]; exact m3, by rw [e]; exact m4, fun i hi => m5 i (by omega), by omega, m7⟩)
                clear hxy HT HM hkl
                go_upto_region 11 with (fail)
                refine wp_region_plan 10 (.done [0, 1, 2, 3, 4, 5, 6, 7, 8, 9]) (by kernel_rfl) (by kernel_rfl) (fun _ _ d _ _ h => by cases d <;> exact h) ?_
                repeat' (first
                  | (refine plan_done (fun K hK => ?_); (first | (simp only [pick_cons, pick_nil, toList_some_append, List.getElem?_toArray, List.getElem?_cons_zero, List.getElem?_cons_succ]; repeat (go_big_quiet_step (fail))) | simp only [pick_nil]); refine wpQuiet_nil (hK _ ?_); clear hK K)
                  | ((with_reducible refine at_list ?_); go_wp2_with (fail); first | refine behind_store (t := 10) (by decide) ?_ | refine behind (by repeat (first | with_reducible exact Later.refl _ | with_reducible assumption | with_reducible refine Later.ofdrew ?_ | with_reducible refine Later.ofdrewN ?_ | with_reducible refine Later.alloc ?_ _ | with_reducible refine Later.drewN ?_ _ | with_reducible refine Later.drew ?_ | (with_reducible refine Later.trans ?_ (by assumption)))) ?_))
                go_wp2_with fail
                go_roundw
                case rel => exact ⟨kk, q + 1, by omega, by omega, rfl, by go_num, Lib.hid HR.out.drew⟩
                case measure => simp [intOf]; omega
              · have HE : ∀ W : World, (binOp .neq 46 (.agg #[.bool x0, .int .i64 x1, .int .i64 x2]) (.agg #[.bool y0, .int .i64 y1, .int .i64 y2])).run Tryz.prog W = .ok (.bool true) W := fun W => by rw [wt_neq, decide_eq_false hxy]; rfl
                have HR : Hid (Inner base w g o cap L (wb.setCells g (o + kk * 3) (wtCs ⟨x0, x1, x2⟩)) (kk + 1) (k + (q + 1))) := Lib.hid (by
                  obtain ⟨m1, m2, m3, m4, m5, m6, m7⟩ := HM.out
                  have e : cmpL (L.take (k + (q + 1))) = cmpL (L.take (k + q)) ++ [⟨x0, x1, x2⟩] := by rw [← Nat.add_assoc, HT.out, if_neg (fun e => hxy e.symm)]
                  refine ⟨M.set kk ⟨x0, x1, x2⟩, by rw [List.length_set, m1, HN.out], by rw [HN.out]; exact B.Que.put wtCs_len m2 m1 hkN _, by rw [e, List.length_append, ← m3]; rfl, ?_, fun i hi => by rw [List.getElem?_set_ne (by omega)]; exact m5 i (by omega), by omega, B.lat_setCells m7 rfl _⟩
                  rw [e, ← m4, List.take_succ_eq_append_getElem (by rw [List.length_set, m1]; exact hkN), List.getElem_set_self, List.take_set_of_le (Nat.le_refl _)])
                clear hxy HT HM hkl
                go_upto_region 11 with (fail)
                refine wp_region_plan 10 (.done [0, 1, 2, 3, 4, 5, 6, 7, 8, 9]) (by kernel_rfl) (by kernel_rfl) (fun _ _ d _ _ h => by cases d <;> exact h) ?_
                repeat' (first
                  | (refine plan_done (fun K hK => ?_); (first | (simp only [pick_cons, pick_nil, toList_some_append, List.getElem?_toArray, List.getElem?_cons_zero, List.getElem?_cons_succ]; repeat (go_big_quiet_step (fail))) | simp only [pick_nil]); refine wpQuiet_nil (hK _ ?_); clear hK K)
                  | ((with_reducible refine at_list ?_); go_wp2_with (fail); first | refine behind_store (t := 10) (by decide) ?_ | refine behind (by repeat (first | with_reducible exact Later.refl _ | with_reducible assumption | with_reducible refine Later.ofdrew ?_ | with_reducible refine Later.ofdrewN ?_ | with_reducible refine Later.alloc ?_ _ | with_reducible refine Later.drewN ?_ _ | with_reducible refine Later.drew ?_ | (with_reducible refine Later.trans ?_ (by assumption)))) ?_))
                go_wp2_with fail
                go_roundw
                case rel => exact ⟨kk + 1, q + 1, by omega, by omega, by go_num, by go_num, Lib.hid HR.out.drew⟩
                case measure => simp [intOf]; omega
            · obtain rfl : q = N - k := by omega
              have hqI : ¬ (((N - k : Nat) : Int) < ((N - k : Nat) : Int)) := by omega
              obtain ⟨M, m1, m2, m3, m4, m5, m6, m7⟩ := HI.out
              rw [HN.out] at m1 m2
              rw [show k + (N - k) = N by omega] at m3 m4 m6
              have hkN : kk < N := by omega
              have htk : L.take N = L := List.take_of_length_le (by rw [HN.out]; exact Nat.le_refl _)
              rw [htk] at m3 m4
              obtain ⟨hs1, hs2⟩ : (∀ j, j < (N - kk) * 3 → (wb.cell? ⟨g, o + kk * 3 + j, none⟩).isSome = true) ∧ (∀ j, j < (N - kk) * 3 → wb.frozen? ⟨g, o + kk * 3 + j, none⟩ = false) := by
                rcases m2.2 with ⟨h1, _⟩ | ⟨g', o', cap', h1, h2, h3, h4, h5, h6, h7⟩
                · cases h1
                · cases h1
                  refine ⟨fun j hj => ?_, fun j hj => ?_⟩
                  · have := (h7 (kk * 3 + j) (by omega)).1
                    rwa [← Nat.add_assoc] at this
                  · have := (h7 (kk * 3 + j) (by omega)).2
                    rwa [← Nat.add_assoc] at this
              have hsl := fun W => wait_from g o N cap kk hkN hcap W
              obtain ⟨vs, hvl, hcl⟩ := clear_wait wb 34 g (o + kk * 3) (N - kk) (cap - kk) (by omega) hs1 hs2
              have hcl' : ∀ ty, (Builtin.clear_ #[34] ty #[.slice (some ⟨g, o + kk * 3, none⟩) (N - kk) (cap - kk)]).run Tryz.prog wb = .ok (.tuple #[]) (wb.setCells g (o + kk * 3) vs) := fun ty => hcl
              have hup := fun W => wait_upto g o N cap kk (by omega) W
              have HFIN : Hid (B.Que base 3 (wb.setCells g (o + kk * 3) vs) (.slice (some ⟨g, o, none⟩) kk cap) (cmpL L).length ((cmpL L).flatMap wtCs) ∧ S.LatB (fun k => (Value.slice (some ⟨g, o, none⟩) N cap).ownBlock = some k) w (wb.setCells g (o + kk * 3) vs)) := Lib.hid (by
                have hu := B.Que.upto m2 (k := kk) (by omega) vs hvl
                have e : (M.flatMap wtCs).take (kk * 3) = (cmpL L).flatMap wtCs := by
                  rw [← m4]
                  have h3 := congrArg (·.flatMap wtCs) (List.take_append_drop kk M)
                  simp only [List.flatMap_append] at h3
                  rw [← h3, List.take_left']
                  rw [flat_len (sz := 3) wtCs wtCs_len, List.length_take, m1]
                  congr 1; omega
                rw [e] at hu
                refine ⟨by rw [← m3]; exact hu, (B.lat_setCells m7 rfl vs).mono (fun i hi => by rw [hi]; rfl)⟩)
              clear m1 m2 m3 m4 m5 m6 m7 hs1 hs2 hvl hcl HI htk
              go_wp2_with fail
              go_ret
              exact ⟨_, rfl, HFIN.out.1, HFIN.out.2⟩
        · have HE : ∀ W : World, (binOp .eql 46 (.agg #[.bool x0, .int .i64 x1, .int .i64 x2]) (.agg #[.bool y0, .int .i64 y1, .int .i64 y2])).run Tryz.prog W = .ok (.bool false) W := fun W => by rw [wt_eql, decide_eq_false hxy]
          have HR : Hid (cmpL (L.take (k + 1)) = L.take (k + 1)) := Lib.hid (by rw [HT.out, if_neg (fun e => hxy e.symm), HK.out, HTK.out])
          clear hxy HT HTK HAA HK
          go_upto_region 6 with (fail)
          refine wp_region_plan 10 (.done [0, 1, 2, 3, 4, 5, 6, 7, 8, 9]) (by kernel_rfl) (by kernel_rfl) (fun _ _ d _ _ h => by cases d <;> exact h) ?_
          repeat' (first
            | (refine plan_done (fun K hK => ?_); (first | (simp only [pick_cons, pick_nil, toList_some_append, List.getElem?_toArray, List.getElem?_cons_zero, List.getElem?_cons_succ]; repeat (go_big_quiet_step (fail))) | simp only [pick_nil]); refine wpQuiet_nil (hK _ ?_); clear hK K)
            | ((with_reducible refine at_list ?_); go_wp2_with (fail); first | refine behind_store (t := 10) (by decide) ?_ | refine behind (by repeat (first | with_reducible exact Later.refl _ | with_reducible assumption | with_reducible refine Later.ofdrew ?_ | with_reducible refine Later.ofdrewN ?_ | with_reducible refine Later.alloc ?_ _ | with_reducible refine Later.drewN ?_ _ | with_reducible refine Later.drew ?_ | (with_reducible refine Later.trans ?_ (by assumption)))) ?_))
          go_wp2_with fail
          go_roundw
          case rel => exact ⟨k + 1, by omega, by omega, by go_num, by repeat (first | with_reducible exact Later.refl _ | with_reducible assumption | with_reducible refine Later.ofdrew ?_ | with_reducible refine Later.ofdrewN ?_ | with_reducible refine Later.setCell ?_ ?_ _ | with_reducible refine Later.alloc ?_ _ | with_reducible refine Later.drewN ?_ _ | with_reducible refine Later.drew ?_ | (with_reducible refine Later.trans ?_ (by assumption)) | (simp only [World.size_setCell, World.size_alloc, World.heap_drewN]; omega) | (simp; done) | (simp; omega)), HR⟩
          case measure => simp [intOf]; omega
      · have hge : ¬ ((k : Int) < N) := by omega
        obtain rfl : k = N := by omega
        have HC : Hid (cmpL L = L) := Lib.hid (by have := HK.out; rwa [List.take_of_length_le (by rw [HN.out]; exact Nat.le_refl _)] at this)
        go_wp2_with fail
        go_ret
        exact ⟨_, rfl, by rw [HC.out, HN.out]; exact HQ.out.later hlr, S.LatB.of hlr⟩
end Go.Proofs.YtkjabiabeemfhaaGreatDoor
end
section
namespace Go.Proofs.YtkjabiabeemfhaaGreatDoor
open Go.RowKit
set_option maxRecDepth 100000
noncomputable def flowsT (env : Env) (ts : List Nd) (day tod : Int) : List Fl := sortL ordF (outT env ts day tod).2.1
noncomputable def waitsT (env : Env) (ts : List Nd) (day tod : Int) : List Wt := waitL (outT env ts day tod).2.2
theorem runQ_few (env : Env) (tod : Int) : ∀ (n : Nat) (q : List Hd), (runQ env tod n q).2.1.length ≤ n ∧ (runQ env tod n q).2.2.length ≤ 128 * n := by
  intro n
  induction n with
  | zero => intro q; exact ⟨Nat.le_refl _, Nat.le_refl _⟩
  | succ n ih =>
    intro q
    cases q with
    | nil => exact ⟨Nat.zero_le _, Nat.zero_le _⟩
    | cons h r =>
      have h1 := one_few env tod h
      have h2 := ih (r ++ (oneH env tod h).2.1)
      simp only [runQ]
      split
      · exact ⟨Nat.zero_le _, Nat.zero_le _⟩
      · unfold comb
        split
        · exact ⟨Nat.zero_le _, Nat.zero_le _⟩
        · split
          · exact ⟨Nat.zero_le _, Nat.zero_le _⟩
          · simp only [List.length_append]
            omega
theorem out_few (env : Env) (ts : List Nd) (day tod : Int) : (outT env ts day tod).2.1.length ≤ 64 ∧ (outT env ts day tod).2.2.length ≤ 8192 := by
  by_cases hc : ctE ts = 0
  · by_cases hr : day < 0 ∨ 73048 < day ∨ tod < -1 ∨ 73048 < tod
    · rw [out_day hc hr]; exact ⟨Nat.zero_le _, Nat.zero_le _⟩
    · obtain ⟨T, hG, hm⟩ := ct_good hc
      rw [out_den hc hr hG.tree]
      have hsz : T.size ≤ 64 := by rw [hG.at.2]; exact hG.len
      by_cases h0 : (den env tod ⟨T, 0, day, 1, 1⟩).1 = 0
      · have hs := run_den env tod T.size [⟨T, 0, day, 1, 1⟩] (by simp [sizesH])
        have hq := runQ_few env tod T.size [⟨T, 0, day, 1, 1⟩]
        rw [List.map_cons, List.map_nil, combL_cons] at hs
        have hs' := hs.trans ((comb_comm _ _).trans (comb_nil _))
        obtain ⟨p1, p2⟩ := hs'.2 (hs'.1.2 h0)
        have := p1.length_eq
        have := p2.length_eq
        omega
      · rw [den_err h0]; exact ⟨Nat.zero_le _, Nat.zero_le _⟩
  · rw [out_wrong hc]; exact ⟨Nat.zero_le _, Nat.zero_le _⟩
theorem flows_few (env : Env) (ts : List Nd) (day tod : Int) : (flowsT env ts day tod).length ≤ 64 := by
  unfold flowsT; rw [(sortL_perm _ _).length_eq]; exact (out_few env ts day tod).1
theorem waits_few (env : Env) (ts : List Nd) (day tod : Int) : (waitsT env ts day tod).length ≤ 8192 := by
  unfold waitsT waitL; exact Nat.le_trans (cmpL_le _) (by rw [(sortL_perm _ _).length_eq]; exact (out_few env ts day tod).2)
end Go.Proofs.YtkjabiabeemfhaaGreatDoor
end
section
namespace Go.Proofs.YtkjabiabeemfhaaGreatDoor
open Go.RowKit
set_option maxRecDepth 100000
def wtF (x : Wt) : Nat → Value
  | 0 => .bool x.cho
  | 1 => .int .i64 x.key
  | _ => .int .i64 x.day
theorem wtCs_get (x : Wt) (j : Nat) (hj : j < 3) : (wtCs x)[j]? = some (wtF x j) := by
  rcases j with _ | _ | _ | j
  · rfl
  · rfl
  · rfl
  · omega
abbrev IsWaits (w : World) (v : Value) (l : List Wt) : Prop := IsRow 3 wtF w v l
end Go.Proofs.YtkjabiabeemfhaaGreatDoor
end
section
namespace Go.Proofs.YtkjabiabeemfhaaGreatDoor
open Go.RowKit
set_option maxRecDepth 100000
structure PreAt (w0 : World) (ts : List Nd) (tv : Value) (fx : FxL) (ch : ChL) (p m1 m2 : Nat) : Prop where
  len : ts.length ≤ 100000
  ok : ∀ x ∈ ts, x.ok
  sh : Shapes w0
  nodes : IsNodes w0 tv ts
  facts : FactsAt w0 p m1 m2 fx ch
  fo : FxOk fx
  co : ChOk ch
  cn : (ch.map (·.1)).Nodup
  cl : ch.length ≤ 100000
theorem PreAt.job {w0 : World} {ts : List Nd} {T : Tm} {tv : Value} {fx : FxL} {ch : ChL} {p m1 m2 : Nat} (h : PreAt w0 ts tv fx ch p m1 m2) (hG : Good ts T) : JobAt w0 ts T tv fx ch p m1 m2 := ⟨hG, h.ok, h.sh, h.nodes, h.facts, h.fo, h.co, h.cn, h.cl⟩
theorem studied_any {w0 : World} {ts : List Nd} {tv : Value} {fx : FxL} {ch : ChL} {p m1 m2 : Nat} (h : PreAt w0 ts tv fx ch p m1 m2) (day tod : Int) :
    ((outT (envT fx ch) ts day tod).1 ≠ 0 ∧ Calls Tryz.prog 47 #[tv, .int .i64 day, .int .i64 tod, .pointer (some ⟨p, 0, none⟩)] w0 fun e w' => ∃ q, e = .returned (.tuple #[q, .int .i64 (outT (envT fx ch) ts day tod).1]) ∧ Later w0 w') ∨
    ((outT (envT fx ch) ts day tod).1 = 0 ∧ Calls Tryz.prog 47 #[tv, .int .i64 day, .int .i64 tod, .pointer (some ⟨p, 0, none⟩)] w0 fun e w' => ∃ b rv fv wv H F W, e = .returned (.tuple #[.pointer (some ⟨b, 0, none⟩), .int .i64 0]) ∧ Later w0 w' ∧ StudyAt w0.heap.size w' b tv tod (.pointer (some ⟨p, 0, none⟩)) rv fv wv H F W ∧ F.length ≤ 1000 ∧ W.length ≤ 100000 ∧ sortL ordF F = flowsT (envT fx ch) ts day tod ∧ waitL W = waitsT (envT fx ch) ts day tod) := by
  by_cases h0 : ctE ts = 0
  · by_cases hd : day < 0 ∨ 73048 < day ∨ tod < -1 ∨ 73048 < tod
    · rw [out_day h0 hd]
      exact .inl ⟨by decide, (all_day ts h.len h.ok tv day tod _ w0 h.sh h.nodes h0 hd).mono fun e w' ⟨he, hl⟩ => ⟨_, he, hl⟩⟩
    · obtain ⟨T, hG, hm⟩ := ct_good h0
      have hE := envT_ok h.fo h.co
      obtain ⟨r1, r2, r3⟩ := runT_den (tod := tod) hG h.ok hE hm (day := day) (by omega) (by omega)
      have ho := out_den (env := envT fx ch) h0 hd hG.tree
      have hall := all_run (h.job hG) hm day tod (by omega) (by omega) (by omega) (by omega)
      by_cases hz : (runT (envT fx ch) tod T day).1 = 0
      · refine .inr ⟨by rw [ho, ← r1]; exact hz, hall.mono fun e w' ⟨hl, b, he, hs⟩ => ?_⟩
        obtain ⟨rv, fv, wv, H, hst, hF, hW⟩ := hs hz
        refine ⟨b, rv, fv, wv, H, _, _, by rw [he, hz], hl, hst, hF, hW, ?_, ?_⟩
        · unfold flowsT; rw [ho, r2]
        · unfold waitsT; rw [ho, r3]
      · refine .inl ⟨by rw [ho, ← r1]; exact hz, hall.mono fun e w' ⟨hl, b, he, _⟩ => ⟨.pointer (some ⟨b, 0, none⟩), by rw [he, ho, r1], hl⟩⟩
  · rw [out_wrong h0]
    exact .inl ⟨h0, (all_wrong ts h.len h.ok tv day tod _ w0 h.sh h.nodes h0).mono fun e w' ⟨he, hl⟩ => ⟨_, he, hl⟩⟩
set_option maxHeartbeats 1600000 in
theorem flows_any {w0 : World} {ts : List Nd} {tv : Value} {fx : FxL} {ch : ChL} {p m1 m2 : Nat} (h : PreAt w0 ts tv fx ch p m1 m2) (day tod : Int) :
    Calls Tryz.prog 18 #[tv, .int .i64 day, .int .i64 tod, .pointer (some ⟨p, 0, none⟩)] w0 fun e w' => ∃ v', e = .returned (.tuple #[v', .int .i64 (outT (envT fx ch) ts day tod).1]) ∧ IsFlows w' v' (flowsT (envT fx ch) ts day tod) ∧ Later w0 w' := by
  rcases studied_any h day tod with ⟨h0, hc⟩ | ⟨h0, hc⟩
  · have HE : Hid (flowsT (envT fx ch) ts day tod = []) := Lib.hid (by unfold flowsT; rw [out_err h0]; simp [sortL])
    have HC := Lib.hid hc
    obtain ⟨E, hE⟩ : ∃ E, (outT (envT fx ch) ts day tod).1 = E := ⟨_, rfl⟩
    rw [HE.out]
    rw [hE] at HC h0 ⊢
    have he1 : (E == 0) = false := by simpa using h0
    have he2 : (E != 0) = true := by simpa using h0
    clear hc h0 hE h HE
    go_enter Tryz.func18, Tryz.ntmps18
    go_wp2_with (go_at_call 47; go_must (refine HC.out.mono ?_; rintro e w1 ⟨q, rfl, hb1⟩))
    go_ret2
    exact ⟨_, rfl, .inl ⟨⟨none, rfl⟩, rfl⟩, hb1⟩
  · have HC := Lib.hid hc
    rw [h0]
    obtain ⟨X, hX⟩ : ∃ X, flowsT (envT fx ch) ts day tod = X := ⟨_, rfl⟩
    rw [hX] at HC ⊢
    clear hc h0 h hX
    go_enter Tryz.func18, Tryz.ntmps18
    go_upto_region 4 with (go_at_call 47; go_must (refine HC.out.mono ?_; rintro e w1 ⟨b, rv, fv, wv, H, F, W, rfl, hl1, hst, hF, hW, hsf, hsw⟩))
    have HSF := Lib.hid hsf
    obtain ⟨⟨zb, cb, fb⟩, -⟩ := id hst.own
    have c4 : w1.cell? ⟨b, 4, none⟩ = some fv := cb 4
    have HSO := Lib.hid (sort_flows F (by omega) w0.heap.size fv w1 hst.flows)
    have HST := Lib.hid hst
    have hnb : ¬ fv.ownBlock = some b := hst.fb
    clear hst cb fb hsf hsw HC
    go_upto_region 5 with (go_at_call 48; go_must (refine HSO.out.mono ?_; rintro e w2 ⟨rfl, hq2, hl2⟩))
    have c4' := (hl2.cell zb hnb).trans c4
    have zb2 := Nat.lt_of_lt_of_le zb hl2.size
    have HQ := Lib.hid hq2
    clear hq2 c4 HSO
    go_wp2_with fail
    go_ret2
    refine ⟨_, rfl, ?_, lat_base hl2 hl1 (fun k hk => (HST.out.flows.lo k hk).1)⟩
    have := (HQ.out.row flCs flCs_len flCs_get (by decide)).1
    rw [HSF.out] at this
    exact this
set_option maxHeartbeats 1600000 in
theorem waits_any {w0 : World} {ts : List Nd} {tv : Value} {fx : FxL} {ch : ChL} {p m1 m2 : Nat} (h : PreAt w0 ts tv fx ch p m1 m2) (day tod : Int) :
    Calls Tryz.prog 19 #[tv, .int .i64 day, .int .i64 tod, .pointer (some ⟨p, 0, none⟩)] w0 fun e w' => ∃ v', e = .returned (.tuple #[v', .int .i64 (outT (envT fx ch) ts day tod).1]) ∧ IsWaits w' v' (waitsT (envT fx ch) ts day tod) ∧ Later w0 w' := by
  rcases studied_any h day tod with ⟨h0, hc⟩ | ⟨h0, hc⟩
  · have HE : Hid (waitsT (envT fx ch) ts day tod = []) := Lib.hid (by unfold waitsT; rw [out_err h0]; simp [waitL, sortL, cmpL])
    have HC := Lib.hid hc
    obtain ⟨E, hE⟩ : ∃ E, (outT (envT fx ch) ts day tod).1 = E := ⟨_, rfl⟩
    rw [HE.out]
    rw [hE] at HC h0 ⊢
    have he1 : (E == 0) = false := by simpa using h0
    have he2 : (E != 0) = true := by simpa using h0
    clear hc h0 hE h HE
    go_enter Tryz.func19, Tryz.ntmps19
    go_wp2_with (go_at_call 47; go_must (refine HC.out.mono ?_; rintro e w1 ⟨q, rfl, hb1⟩))
    go_ret2
    exact ⟨_, rfl, .inl ⟨⟨none, rfl⟩, rfl⟩, hb1⟩
  · have HC := Lib.hid hc
    rw [h0]
    obtain ⟨X, hX⟩ : ∃ X, waitsT (envT fx ch) ts day tod = X := ⟨_, rfl⟩
    rw [hX] at HC ⊢
    clear hc h0 h hX
    go_enter Tryz.func19, Tryz.ntmps19
    go_upto_region 4 with (go_at_call 47; go_must (refine HC.out.mono ?_; rintro e w1 ⟨b, rv, fv, wv, H, F, W, rfl, hl1, hst, hF, hW, hsf, hsw⟩))
    have HSW := Lib.hid hsw
    obtain ⟨⟨zb, cb, fb⟩, -⟩ := id hst.own
    have c4 : w1.cell? ⟨b, 5, none⟩ = some wv := cb 5
    have HSO := Lib.hid (sort_waits W (by omega) w0.heap.size wv w1 hst.waits)
    have HST := Lib.hid hst
    have HWL := Lib.hid (show (sortL ordW W).length ≤ 1000000 by rw [(sortL_perm ordW W).length_eq]; omega)
    have HWE := Lib.hid (sortL_perm ordW W).length_eq
    have hnb : ¬ wv.ownBlock = some b := hst.wb
    clear hst cb fb hsf hsw HC
    go_upto_region 5 with (go_at_call 50; go_must (refine HSO.out.mono ?_; rintro e w2 ⟨rfl, hq2, hl2⟩))
    have c4' := (hl2.cell zb hnb).trans c4
    have zb2 := Nat.lt_of_lt_of_le zb hl2.size
    have HQ := Lib.hid (compact_any (sortL ordW W) HWL.out w0.heap.size wv w2 (by rw [HWE.out]; exact hq2))
    clear hq2 c4 HSO
    go_wp2_with (go_at_call 55; go_must (refine HQ.out.mono ?_; rintro e w3 ⟨v3, rfl, hq3, hl3⟩))
    go_ret2
    refine ⟨_, rfl, ?_, lat_base hl3 (lat_base hl2 hl1 (fun k hk => (HST.out.waits.lo k hk).1)) (fun k hk => (HST.out.waits.lo k hk).1)⟩
    have := (hq3.row wtCs wtCs_len wtCs_get (by decide)).1
    rw [← HSW.out]
    exact this
end Go.Proofs.YtkjabiabeemfhaaGreatDoor
end
