/- value.Needs: its walk -/
import Derived.Test.YtkpadahpepeaoaaDoorSNeedsW
import Derived.Test.YtkpadahpepeaoaaDoorSAppN
set_option linter.all false
namespace Go.Proofs.YtkpadahpepeaoaaDoor
open Go.RowKit
set_option maxRecDepth 100000

def flagsV (l : List Nd) : List Value := (List.range 64).map (fun k => .bool (keyB 2 2 l k))
theorem flagsV_get (l : List Nd) {k : Nat} (h : k < 64) : (flagsV l)[k]? = some (.bool (keyB 2 2 l k)) := by simp [flagsV, h]
theorem flagsV_len (l : List Nd) : (flagsV l).length = 64 := by simp [flagsV]
theorem flagsV_skip {l : List Nd} {i : Nat} (hi : i < l.length) (h : l[i].op ≠ 2) : flagsV (l.take (i + 1)) = flagsV (l.take i) := by
  unfold flagsV
  refine List.map_congr_left (fun k _ => ?_)
  rw [keyB_take _ _ _ _ _ hi]
  simp [h]
theorem flagsV_set {l : List Nd} {i k : Nat} (hi : i < l.length) (h : l[i].op = 2) (ha : l[i].a = (k : Int)) (hk : k < 64) : (flagsV (l.take i)).set k (.bool true) = flagsV (l.take (i + 1)) := by
  apply List.ext_getElem?
  intro m
  by_cases hm : m < 64
  · rw [List.getElem?_set, flagsV_get _ hm, flagsV_get _ hm, flagsV_len, keyB_take 2 2 l m i hi]
    by_cases e : k = m
    · subst e; simp [h, ha, hk]
    · rw [if_neg e]
      have : ¬ ((k : Int) = (m : Int)) := by omega
      simp [ha, this]
  · rw [List.getElem?_eq_none (by rw [List.length_set, flagsV_len]; omega), List.getElem?_eq_none (by rw [flagsV_len]; omega)]
/-- A slice of nodes is cut. -/
theorem nodes_cut {w : World} {v : Value} {ts : List Nd} (hN : IsNodes w v ts) {j q : Nat} (hj : j < q) (hq : q ≤ ts.length) :
    ∃ b o cap, v = .slice (some ⟨b, o, none⟩) ts.length cap ∧ q ≤ cap ∧ IsNodes w (.slice (some ⟨b, o + j * 5, none⟩) (q - j) (cap - j)) ((ts.drop j).take (q - j)) := by
  rcases hN with ⟨_, rfl⟩ | ⟨b, o, cap, h1, h2, h3, h4, h5⟩
  · simp at hq; omega
  · have hl : ((ts.drop j).take (q - j)).length = q - j := by simp; omega
    refine ⟨b, o, cap, h1, by omega, .inr ⟨b, o + j * 5, cap - j, by rw [hl], h2, by rw [hl]; omega, by omega, fun i hi k hk => ?_⟩⟩
    rw [hl] at hi
    have := h5 (j + i) (by omega) k hk
    rw [show o + j * 5 + i * 5 + k = o + (j + i) * 5 + k by rw [Nat.add_mul]; omega, this]
    simp
theorem row_of_own1 {w : World} {b : Nat} {A : Array Value} (h : Own w [(b, A)]) (h0 : 0 < A.size) : ∃ t fr, w.heap[b]? = some (.cells A t fr) := by
  obtain ⟨-, c, -⟩ := own_get h
  have c0 := c 0
  have hs : A[0]? = some A[0] := Array.getElem?_eq_getElem h0
  rw [hs] at c0
  cases hh : w.heap[b]? with
  | none => simp [World.cell?, hh] at c0
  | some o =>
    cases o with
    | cells cs t fr =>
      refine ⟨t, fr, ?_⟩
      have : cs = A := by
        apply Array.ext_getElem?
        intro i
        have := c i
        simpa [World.cell?, hh] using this
      rw [this]
    | _ => simp [World.cell?, hh] at c0
theorem run_index_agg {P : Program} (t e : TypeId) (n : Nat) (cs : Array Value) (k : Nat) (v : Value) (w : World) (h : P.underlying t = some (.array n e)) (hk : k < n) (hv : cs[k]? = some v) (hs : ∀ w, (sizeOf e).run P w = .ok 1 w) (ha : ∀ w, (isAgg e).run P w = .ok false w) :
    (Instr.index t (.agg cs) (.int .i64 (k : Int))).run P w = .ok v w := by
  have h1 : (0 : Int) ≤ (k : Int) ∧ (k : Int) < (n : Int) := by omega
  simp [Instr.index, run_underlying h, asIntOf, hk, hs, part, ha, hv, Result.andThen]
theorem wpList_idx {P : Program} {ops : Array Oper} {rest : List Oper} {o : Oper} {a : Act} {w : World} {Q : Exit → Act → World → Prop} {t : TypeId} {x i : Operand} {X I v : Value}
    (hr : (Instr.index t X I).run P w = .ok v w) (ho : o.op = .index t x i) (hg : o.guard = none) (hx : a.eval x = X) (hi : a.eval i = I)
    (h : wpList P ops Q rest (a.put o.dst v) w) : wpList P ops Q (o :: rest) a w :=
  wpList_plain hg fun _ hK => by
    unfold Oper.wp execOp
    simp only [ho, hx, hi, Sem.run_bind, hr, Result.andThen_ok]
    exact hK _ _ h

theorem cut_run (b o L cp j n : Nat) (hn : 0 < n) (hc : j + n ≤ cp) (W : World) : (Instr.slice 22 (.slice (some ⟨b, o, none⟩) L cp) (some (.int .i64 (j : Int))) (some (.int .i64 ((j + n : Nat) : Int))) none).run Tryd.prog W = .ok (.slice (some ⟨b, o + j * 5, none⟩) n (cp - j)) W := by
  rw [run_slice_lh _ _ _ _ _ (by kernel_rfl) _ _ _ _ (by omega) (by omega) (by omega)]
  have e : (sizeOf (Tryd.prog.elem 22)).run Tryd.prog W = .ok 5 W := by kernel_rfl
  rw [e]
  simp only [Result.andThen, sliced, Int.toNat_natCast]
  rw [if_neg (by omega), Nat.add_sub_cancel_left]
  simp only [Option.map]
  rw [add_plain]

set_option maxHeartbeats 1600000 in
theorem vneeds_bad (ts : List Nd) (hlen : ts.length ≤ 100000) (hok : ∀ x ∈ ts, x.ok) (k : Int) (v : Value) (w : World) (h0 : wrongV ts k ≠ 0) (hS : Shapes w) (hN : IsNodes w v ts) :
    Calls Tryd.prog 18 #[v, .int .i64 k] w fun e w' => e = .returned (.tuple #[.slice none 0 0, .int .i64 (wrongV ts k)]) ∧ Later w w' := by
  have HR := Lib.hid (fun W (hl : Later w W) => right_any ts hlen hok v k W (hS.later hl) (hN.later hl))
  obtain ⟨E, hE⟩ : ∃ E, wrongV ts k = E := ⟨_, rfl⟩
  rw [hE] at HR h0 ⊢
  have he1 : (E == 0) = false := by simpa using h0
  have he2 : (E != 0) = true := by simpa using h0
  obtain ⟨p0, c0, rfl⟩ := hN.form
  generalize ts.length = L at *
  clear hN hS hok h0 hE
  go_enter Tryd.func18, Tryd.ntmps18
  go_wp2_with (go_at_call 24; go_must (refine (HR.out _ (by repeat (first | with_reducible exact Later.refl _ | with_reducible assumption | with_reducible refine Later.ofdrew ?_ | with_reducible refine Later.ofdrewN ?_ | with_reducible refine Later.setCell ?_ ?_ _ | with_reducible refine Later.alloc ?_ _ | with_reducible refine Later.drewN ?_ _ | with_reducible refine Later.drew ?_ | (with_reducible refine Later.trans ?_ (by assumption)) | (simp only [World.size_setCell, World.size_alloc, World.heap_drewN]; omega) | (simp; done) | (simp; omega)))).mono ?_; rintro e w2 ⟨rfl, hb2⟩))
  go_ret2
  exact ⟨rfl, hb2⟩

set_option maxHeartbeats 3200000 in
theorem vneeds_good (ts : List Nd) (hlen : ts.length ≤ 100000) (hok : ∀ x ∈ ts, x.ok) (j : Nat) (s : Tm) (v : Value) (w : World) (h0 : wrongV ts (j : Nat) = 0) (hs : TmAt ts j s) (hf : ∀ x ∈ s.flat, x.op = 2 → 0 ≤ x.a ∧ x.a < 64) (hS : Shapes w) (hN : IsNodes w v ts) :
    Calls Tryd.prog 18 #[v, .int .i64 j] w fun e w' => ∃ v', e = .returned (.tuple #[v', .int .i64 0]) ∧ IsInts w' v' (keysI 2 2 s.flat) ∧ Later w w' := by
  have hle := hs.le
  have hp := s.size_pos
  have HR := Lib.hid (fun W (hl : Later w W) => right_any ts hlen hok v j W (hS.later hl) (hN.later hl))
  rw [h0] at HR
  have HZ := Lib.hid (fun W (hl : Later w W) => tsize_any ts j s v W hlen hs (hS.later hl) (hN.later hl))
  obtain ⟨b, o, cp, rfl, hq, hN2⟩ := nodes_cut hN (j := j) (q := j + s.size) (by omega) hle
  have hfl : (ts.drop j).take (j + s.size - j) = s.flat := by
    rw [Nat.add_sub_cancel_left]
    obtain ⟨r, hr⟩ := hs.2
    rw [← hr, ← Tm.size_flat s, List.take_left]
  rw [hfl, Nat.add_sub_cancel_left] at hN2
  have hll : s.flat.length = s.size := Tm.size_flat s
  obtain ⟨l, hl⟩ : ∃ l, s.flat = l := ⟨_, rfl⟩
  rw [hl] at hN2 hf hll ⊢
  generalize s.size = n at *
  generalize ts.length = L at *
  clear hN hS hok h0 hs hl hfl
  have hsl := fun W => cut_run b o L cp j n hp hq W
  obtain ⟨q, hqe⟩ : ∃ q, j + n = q := ⟨_, rfl⟩
  rw [hqe] at hsl hq hle
  have hqi : (j : Int) + (n : Int) = (q : Int) := by omega
  clear hqe
  go_enter Tryd.func18, Tryd.ntmps18
  go_upto_region 5 with (go_at_call 24; go_must (refine (HR.out _ (by repeat (first | with_reducible exact Later.refl _ | with_reducible assumption | with_reducible refine Later.ofdrew ?_ | with_reducible refine Later.ofdrewN ?_ | with_reducible refine Later.setCell ?_ ?_ _ | with_reducible refine Later.alloc ?_ _ | with_reducible refine Later.drewN ?_ _ | with_reducible refine Later.drew ?_ | (with_reducible refine Later.trans ?_ (by assumption)) | (simp only [World.size_setCell, World.size_alloc, World.heap_drewN]; omega) | (simp; done) | (simp; omega)))).mono ?_; rintro e w2 ⟨rfl, hb2⟩))
  refine wp_opaque (fun w3 hb3 => ?_)
  have hO3 := Own.one hb3
  have hl3 := hb2.trans hb3.un1
  have hBw : w.heap.size ≤ w2.heap.size := Later.size hb2
  obtain ⟨B, hB⟩ : ∃ B, w2.heap.size = B := ⟨_, rfl⟩
  rw [hB] at hO3 hBw ⊢
  have hO3 : Own w3 [(B, (flagsV []).toArray)] := hO3
  clear hb2 hb3 hB HR
  go_upto_region 6 with (go_at_call 40; go_must (refine (HZ.out _ hl3).mono ?_; rintro e w4 ⟨rfl, hb4⟩))
  have HO4 := Lib.hid (hO3.later hb4)
  have hl4 := hl3.trans hb4
  clear hO3 hl3 hb4 HZ
  have HN2 := Lib.hid hN2
  clear hN2
  go_upto_region 7 with (fail)
  clear hsl
  go_loopw [34] (fun s34 wr => ∃ i : Nat, i ≤ n ∧ s34 = .int .i64 i ∧ Later w wr ∧ Hid (Own wr [(B, (flagsV (l.take i)).toArray)])) (fun s34 _ => n - (intOf s34).toNat)
  case atStart => exact ⟨0, Nat.zero_le _, rfl, hl4, HO4⟩
  case round =>
    obtain ⟨i, hi, rfl, hlat, hO⟩ := hrel
    clear hl4 HO4
    by_cases hlt : i < n
    · have hil : i < l.length := by omega
      obtain ⟨b', o', cp', hv, hb', -, g0, g1, g2, g3, g4⟩ := (HN2.out.later hlat).full hil
      rw [hll] at hv
      cases hv
      have hskip := flagsV_skip hil
      have hset : l[i].op = 2 → ∃ k : Nat, l[i].a = k ∧ k < 64 ∧ (flagsV (l.take i)).set k (.bool true) = flagsV (l.take (i + 1)) := fun h => by
        have h3 := hf _ (List.getElem_mem hil) h
        exact ⟨(l[i].a).toNat, by omega, by omega, flagsV_set hil h (by omega) (by omega)⟩
      obtain ⟨x, hx⟩ : ∃ x, l[i] = x := ⟨_, rfl⟩
      rw [hx] at g0 g1 g2 g3 g4 hskip hset
      obtain ⟨xo, xa, xb, xn, xd⟩ := x
      simp only at g0 g1 g2 g3 g4 hskip hset
      have HSK := Lib.hid hskip
      have HST := Lib.hid hset
      clear hskip hset hx HN2 hf
      go_upto_region 9 with (fail)
      refine wp_opaque (fun wk hbk => ?_)
      have hOk := Own.one hbk
      have hlk : Later wr wk := hbk.un1
      obtain ⟨zk, dk, -⟩ := own_get hOk
      have hOB := hO.out.later hlk
      clear g0 g1 g2 g3 g4 hbk hO
      by_cases h2 : xo = 2
      · subst h2
        obtain ⟨k, rfl, hk64, hst⟩ := HST.out rfl
        have HQ := Lib.hid hst
        obtain ⟨zB, dB, fB⟩ := own_get hOB
        have dBk := dB k
        have fBk := fB k (by simp [flagsV_len]; exact hk64)
        rw [List.getElem?_toArray, flagsV_get _ hk64] at dBk
        have HOB := Lib.hid hOB
        clear hst hOB dB fB HST HSK
        go_wp2
        go_roundw
        case rel => exact ⟨i + 1, by omega, by go_num, (hlat.trans hlk).putCell hBw _, Lib.hid (by rw [← HQ.out]; exact own_set_row HOB.out (by rw [flagsV_len]; exact hk64))⟩
        case measure => simp [intOf]; omega
      · have e1 : (xo == 2) = false := by simpa using h2
        have HOB := Lib.hid hOB
        clear hOB HST
        go_wp2
        go_roundw
        case rel => exact ⟨i + 1, by omega, by go_num, hlat.trans hlk, Lib.hid (by rw [HSK.out h2]; exact HOB.out)⟩
        case measure => simp [intOf]; omega
    · obtain rfl : i = n := by omega
      have hfin : l.take i = l := List.take_of_length_le (by omega)
      have hO1 := hO.out
      rw [hfin] at hO1
      have hget : ∀ k, k < 64 → ((flagsV l).toArray)[k]? = some (.bool (keyB 2 2 l k)) := fun k hk => by rw [List.getElem?_toArray, flagsV_get _ hk]
      have hsz : ((flagsV l).toArray).size = 64 := by simp [flagsV_len]
      obtain ⟨A, hA⟩ : ∃ A, (flagsV l).toArray = A := ⟨_, rfl⟩
      rw [hA] at hO1 hget hsz
      obtain ⟨t', fr, hrow⟩ := row_of_own1 hO1 (by omega)
      have HG := Lib.hid hget
      have HU := Lib.hid (fun m => keysU_succ 2 2 l m)
      clear hget hA hO hO1 hfin HN2 hf hlt
      go_wp2_with (refine wpList_load_row rfl 102 _ rfl B rfl t' _ fr _ hrow Tryd.underlying102 rfl (by rw [hsz]; kernel_rfl) ?_)
      clear hrow
      go_loopw [12, 46] (fun s12 s46 ws => ∃ (m : Nat) (xs : List Int), m ≤ 64 ∧ s46 = .int .i64 m ∧ Hid (xs = keysU 2 2 l m) ∧ xs.length ≤ m ∧ Mine w 3 1 ws s12 xs.length (xs.map (Value.int .i64))) (fun _ s46 _ => 64 - (intOf s46).toNat)
      case atStart => exact ⟨0, [], Nat.zero_le _, rfl, Lib.hid rfl, Nat.le_refl _, Mine.nil hlat⟩
      case round =>
        obtain ⟨m, xs, hm, rfl, hxs, hxl, hM⟩ := hrel
        obtain ⟨p', cp', rfl⟩ := hM.form
        have HM := Lib.hid hM
        clear hM
        by_cases hlt : m < 64
        · have hg := HG.out m hlt
          have hu := HU.out m
          rw [← hxs.out] at hu
          obtain ⟨bv, hbv⟩ : ∃ bv, keyB 2 2 l m = bv := ⟨_, rfl⟩
          rw [hbv] at hg hu
          have HN := Lib.hid hu
          clear hu hbv
          cases bv
          · have HX : Hid (xs = keysU 2 2 l (m + 1)) := Lib.hid (by rw [HN.out]; simp)
            go_wp2_with (refine wpList_idx (run_index_agg 102 _ 64 A m (.bool false) _ Tryd.underlying102 hlt hg (fun W => by kernel_rfl) (fun W => by kernel_rfl)) rfl rfl rfl rfl ?_)
            go_roundw
            case rel => exact ⟨m + 1, xs, by omega, by go_num, HX, by omega, HM.out⟩
            case measure => simp [intOf]; omega
          · have HX : Hid (xs ++ [(m : Int)] = keysU 2 2 l (m + 1)) := Lib.hid (by rw [HN.out]; simp)
            go_wp2_with (first
              | refine wpList_idx (run_index_agg 102 _ 64 A m (.bool true) _ Tryd.underlying102 hlt hg (fun W => by kernel_rfl) (fun W => by kernel_rfl)) rfl rfl rfl rfl ?_
              | (at_builtin; go_must (refine wpList_push sliceInt HM.out rfl _ _ rfl rfl 1 rfl rfl (by simp [Value.oneCell']) (by omega) (by unfold maxLen; omega) ?_; intro v5 w3 hM3 hg3)))
            go_roundw
            case rel => exact ⟨m + 1, xs ++ [(m : Int)], by omega, by go_num, HX, by simp; omega, by rw [List.length_append, List.map_append]; exact hM3⟩
            case measure => simp [intOf]; omega
        · obtain rfl : m = 64 := by omega
          go_wp2
          go_ret2
          have h2 : xs = keysI 2 2 l := hxs.out
          exact ⟨_, rfl, by rw [← h2]; exact HM.out.ints.1, HM.out.lat⟩
end Go.Proofs.YtkpadahpepeaoaaDoor
