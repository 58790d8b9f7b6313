/- denote: what stands ready for a contract that is gone through; values of numbers (plain) -/
import Derived.Test.YtkjabiabeemfhaaGreatDoorW15
import Derived.Test.YtkjabiabeemfhaaGreatDoorW13
import Derived.Test.YtkjabiabeemfhaaGreatDoorW14
import Derived.ArgAppend
set_option linter.all false
set_option linter.all false
section
namespace Go.Proofs.YtkjabiabeemfhaaGreatDoor
open Go.RowKit
set_option maxRecDepth 100000
def wtF (x : Wt) : Nat → Value
  | 0 => .bool x.cho
  | 1 => .int .i64 x.key
  | _ => .int .i64 x.day
theorem wtCs_get (x : Wt) (j : Nat) (hj : j < 3) : (wtCs x)[j]? = some (wtF x j) := by
  rcases j with _ | _ | _ | j
  · rfl
  · rfl
  · rfl
  · omega
abbrev IsWaits (w : World) (v : Value) (l : List Wt) : Prop := IsRow 3 wtF w v l
end Go.Proofs.YtkjabiabeemfhaaGreatDoor
end
section
namespace Go.Proofs.YtkjabiabeemfhaaGreatDoor
open Go.RowKit
set_option maxRecDepth 100000
theorem keyB_take (op op' : Int) (l : List Nd) (j i : Nat) (hi : i < l.length) : keyB op op' (l.take (i + 1)) j = (keyB op op' (l.take i) j || decide ((l[i].op = op ∨ l[i].op = op') ∧ l[i].a = (j : Int))) := by
  unfold keyB
  rw [List.take_succ_eq_append_getElem hi, List.any_append]
  simp
set_option maxHeartbeats 1600000 in
theorem tsize_any (ts : List Nd) (j : Nat) (s : Tm) (v : Value) (w : World) (hlen : ts.length ≤ 100000) (hs : TmAt ts j s) (hS : Shapes w) (hN : IsNodes w v ts) :
    Calls Tryz.prog 167 #[v, .int .i64 j] w fun e w' => e = .returned (.tuple #[.int .i64 (s.size : Int), .int .i64 0]) ∧ Later w w' := by
  have hle := hs.le
  have hp := s.size_pos
  have HE := Lib.hid (fun W (hl : Later w W) => end_any ts hlen _ j v W (Nat.le_refl _) (by omega) (hS.later hl) (hN.later hl))
  rw [hs.end_] at HE
  have ho : optI (some (j + s.size)) = ((j + s.size : Nat) : Int) := rfl
  rw [ho] at HE
  obtain ⟨p0, c0, rfl⟩ := hN.form
  generalize ts.length = L at *
  generalize s.size = z at *
  obtain ⟨q, hq⟩ : ∃ q, j + z = q := ⟨_, rfl⟩
  rw [hq] at HE hle
  clear hN hS hs ho
  have hzq : (z : Int) = (q : Int) - (j : Int) := by omega
  rw [hzq]
  have HQ := Lib.hid hq
  have hjq : j < q := by omega
  clear hq hzq
  go_enter Tryz.func167, Tryz.ntmps167
  go_wp2_with (go_at_call 78; go_must (refine (HE.out _ (by repeat (first | with_reducible exact Later.refl _ | with_reducible assumption | with_reducible refine Later.ofdrew ?_ | with_reducible refine Later.ofdrewN ?_ | with_reducible refine Later.setCell ?_ ?_ _ | with_reducible refine Later.alloc ?_ _ | with_reducible refine Later.drewN ?_ _ | with_reducible refine Later.drew ?_ | (with_reducible refine Later.trans ?_ (by assumption)) | (simp only [World.size_setCell, World.size_alloc, World.heap_drewN]; omega) | (simp; done) | (simp; omega)))).mono ?_; rintro e w2 ⟨rfl, hb2⟩))
  go_ret2
  exact ⟨rfl, hb2⟩
end Go.Proofs.YtkjabiabeemfhaaGreatDoor
end
section
namespace Go.Proofs.YtkjabiabeemfhaaGreatDoor
open Go.RowKit
set_option maxRecDepth 100000
theorem nodeInfo : (Tryz.prog.info? 61).map (fun i => (i.zero, i.size, i.bytes)) = some (some (.agg #[.int .i64 0, .int .i64 0, .int .i64 0, .int .i64 0, .int .i64 0]), 5, 40) := by kernel_rfl
theorem sliceNode : SliceOf Tryz.prog 22 61 5 40 := sliceOf_mk Tryz.underlying22 nodeInfo rfl (by decide)
def MineN (w0 w : World) (v : Value) (L : List Nd) : Prop := Mine w0 61 5 w v L.length (L.flatMap ndCs)
theorem MineN.lat {w0 w : World} {v : Value} {L : List Nd} (h : MineN w0 w v L) : Later w0 w := Mine.lat h
theorem MineN.nodes {w0 w : World} {v : Value} {L : List Nd} (h : MineN w0 w v L) : IsNodes w v L := (Mine.row_ (sz := 5) (f := fun (y : Nd) j => .int .i64 (y.cell j)) ndCs (fun _ => rfl) ndCs_cell (by decide) h).1
theorem MineN.form {w0 w : World} {v : Value} {L : List Nd} (h : MineN w0 w v L) : ∃ p cap, v = .slice p L.length cap := Mine.form h
theorem ndCs_cells (x : Nd) : ∀ u ∈ ndCs x, u.oneCell' = true := by
  intro u hu
  simp only [ndCs, List.mem_cons, List.not_mem_nil, or_false] at hu
  rcases hu with rfl | rfl | rfl | rfl | rfl <;> rfl
theorem wpList_nodes {w0 w : World} {v V : Value} {L ts : List Nd} {ops : Array Oper} {rest : List Oper} {o : Oper} {a : Act} {Q : Exit → Act → World → Prop} (hM : MineN w0 w v L) (hN : IsNodes w V ts) (hgd : o.guard = none) (s x : Operand)
    (ho : o.op = .call { callee := .builtin .append, args := #[s, x], argTypes := #[22, 22] }) (hs : a.eval s = v) (hx : a.eval x = V) (h64 : L.length + ts.length ≤ 1000000)
    (h : ∀ v' w', MineN w0 w' v' (L ++ ts) → Later w0 w' → wpList Tryz.prog ops Q rest (a.put o.dst v') w') : wpList Tryz.prog ops Q (o :: rest) a w := by
  refine B.wpList_rows (f := fun (y : Nd) j => .int .i64 (y.cell j)) (base := w0.heap.size) ndCs (fun _ => rfl) ndCs_cell ndCs_cells sliceNode hM.1 (Later.size hM.lat) hN hgd s x ho hs hx h64 (by decide) (fun v' w' h1 h2 _ => ?_)
  have hl := Later.grown hM.lat h2 (fun k hk => (hM.1.lt k hk).1)
  exact h v' w' ⟨h1, hl⟩ hl
end Go.Proofs.YtkjabiabeemfhaaGreatDoor
end
section
namespace Go.Proofs.YtkjabiabeemfhaaGreatDoor
open Go.RowKit
set_option maxRecDepth 100000
def flagsV (l : List Nd) : List Value := (List.range 64).map (fun k => .bool (keyB 2 2 l k))
theorem flagsV_get (l : List Nd) {k : Nat} (h : k < 64) : (flagsV l)[k]? = some (.bool (keyB 2 2 l k)) := by simp [flagsV, h]
theorem flagsV_len (l : List Nd) : (flagsV l).length = 64 := by simp [flagsV]
theorem flagsV_skip {l : List Nd} {i : Nat} (hi : i < l.length) (h : l[i].op ≠ 2) : flagsV (l.take (i + 1)) = flagsV (l.take i) := by
  unfold flagsV
  refine List.map_congr_left (fun k _ => ?_)
  rw [keyB_take _ _ _ _ _ hi]
  simp [h]
theorem flagsV_set {l : List Nd} {i k : Nat} (hi : i < l.length) (h : l[i].op = 2) (ha : l[i].a = (k : Int)) (hk : k < 64) : (flagsV (l.take i)).set k (.bool true) = flagsV (l.take (i + 1)) := by
  apply List.ext_getElem?
  intro m
  by_cases hm : m < 64
  · rw [List.getElem?_set, flagsV_get _ hm, flagsV_get _ hm, flagsV_len, keyB_take 2 2 l m i hi]
    by_cases e : k = m
    · subst e; simp [h, ha, hk]
    · rw [if_neg e]
      have : ¬ ((k : Int) = (m : Int)) := by omega
      simp [ha, this]
  · rw [List.getElem?_eq_none (by rw [List.length_set, flagsV_len]; omega), List.getElem?_eq_none (by rw [flagsV_len]; omega)]
theorem nodes_cut {w : World} {v : Value} {ts : List Nd} (hN : IsNodes w v ts) {j q : Nat} (hj : j < q) (hq : q ≤ ts.length) :
    ∃ b o cap, v = .slice (some ⟨b, o, none⟩) ts.length cap ∧ q ≤ cap ∧ IsNodes w (.slice (some ⟨b, o + j * 5, none⟩) (q - j) (cap - j)) ((ts.drop j).take (q - j)) := by
  rcases hN with ⟨_, rfl⟩ | ⟨b, o, cap, h1, h2, h3, h4, h5⟩
  · simp at hq; omega
  · have hl : ((ts.drop j).take (q - j)).length = q - j := by simp; omega
    refine ⟨b, o, cap, h1, by omega, .inr ⟨b, o + j * 5, cap - j, by rw [hl], h2, by rw [hl]; omega, by omega, fun i hi k hk => ?_⟩⟩
    rw [hl] at hi
    have := h5 (j + i) (by omega) k hk
    rw [show o + j * 5 + i * 5 + k = o + (j + i) * 5 + k by rw [Nat.add_mul]; omega, this]
    simp
theorem cut_run (b o L cp j n : Nat) (hn : 0 < n) (hc : j + n ≤ cp) (W : World) : (Instr.slice 22 (.slice (some ⟨b, o, none⟩) L cp) (some (.int .i64 (j : Int))) (some (.int .i64 ((j + n : Nat) : Int))) none).run Tryz.prog W = .ok (.slice (some ⟨b, o + j * 5, none⟩) n (cp - j)) W := by
  rw [run_slice_lh _ _ _ _ _ (by kernel_rfl) _ _ _ _ (by omega) (by omega) (by omega)]
  have e : (sizeOf (Tryz.prog.elem 22)).run Tryz.prog W = .ok 5 W := by kernel_rfl
  rw [e]
  simp only [Result.andThen, sliced, Int.toNat_natCast]
  rw [if_neg (by omega), Nat.add_sub_cancel_left]
  simp only [Option.map]
  rw [add_plain]
set_option maxHeartbeats 1600000 in
theorem vneeds_bad (ts : List Nd) (hlen : ts.length ≤ 100000) (hok : ∀ x ∈ ts, x.ok) (k : Int) (v : Value) (w : World) (h0 : wrongV ts k ≠ 0) (hS : Shapes w) (hN : IsNodes w v ts) :
    Calls Tryz.prog 172 #[v, .int .i64 k] w fun e w' => e = .returned (.tuple #[.slice none 0 0, .int .i64 (wrongV ts k)]) ∧ Later w w' := by
  have HR := Lib.hid (fun W (hl : Later w W) => right_any ts hlen hok v k W (hS.later hl) (hN.later hl))
  obtain ⟨E, hE⟩ : ∃ E, wrongV ts k = E := ⟨_, rfl⟩
  rw [hE] at HR h0 ⊢
  have he1 : (E == 0) = false := by simpa using h0
  have he2 : (E != 0) = true := by simpa using h0
  obtain ⟨p0, c0, rfl⟩ := hN.form
  generalize ts.length = L at *
  clear hN hS hok h0 hE
  go_enter Tryz.func172, Tryz.ntmps172
  go_wp2_with (go_at_call 187; go_must (refine (HR.out _ (by repeat (first | with_reducible exact Later.refl _ | with_reducible assumption | with_reducible refine Later.ofdrew ?_ | with_reducible refine Later.ofdrewN ?_ | with_reducible refine Later.setCell ?_ ?_ _ | with_reducible refine Later.alloc ?_ _ | with_reducible refine Later.drewN ?_ _ | with_reducible refine Later.drew ?_ | (with_reducible refine Later.trans ?_ (by assumption)) | (simp only [World.size_setCell, World.size_alloc, World.heap_drewN]; omega) | (simp; done) | (simp; omega)))).mono ?_; rintro e w2 ⟨rfl, hb2⟩))
  go_ret2
  exact ⟨rfl, hb2⟩
set_option maxHeartbeats 3200000 in
theorem vneeds_own (ts : List Nd) (hlen : ts.length ≤ 100000) (hok : ∀ x ∈ ts, x.ok) (j : Nat) (s : Tm) (v : Value) (w : World) (h0 : wrongV ts (j : Nat) = 0) (hs : TmAt ts j s) (hf : ∀ x ∈ s.flat, x.op = 2 → 0 ≤ x.a ∧ x.a < 64) (hS : Shapes w) (hN : IsNodes w v ts) :
    Calls Tryz.prog 172 #[v, .int .i64 j] w fun e w' => ∃ v', e = .returned (.tuple #[v', .int .i64 0]) ∧ IsInts w' v' (keysI 2 2 s.flat) ∧ Later w w' ∧ ∀ k, v'.ownBlock = some k → w.heap.size ≤ k := by
  have hle := hs.le
  have hp := s.size_pos
  have HR := Lib.hid (fun W (hl : Later w W) => right_any ts hlen hok v j W (hS.later hl) (hN.later hl))
  rw [h0] at HR
  have HZ := Lib.hid (fun W (hl : Later w W) => tsize_any ts j s v W hlen hs (hS.later hl) (hN.later hl))
  obtain ⟨b, o, cp, rfl, hq, hN2⟩ := nodes_cut hN (j := j) (q := j + s.size) (by omega) hle
  have hfl : (ts.drop j).take (j + s.size - j) = s.flat := by
    rw [Nat.add_sub_cancel_left]
    obtain ⟨r, hr⟩ := hs.2
    rw [← hr, ← Tm.size_flat s, List.take_left]
  rw [hfl, Nat.add_sub_cancel_left] at hN2
  have hll : s.flat.length = s.size := Tm.size_flat s
  obtain ⟨l, hl⟩ : ∃ l, s.flat = l := ⟨_, rfl⟩
  rw [hl] at hN2 hf hll ⊢
  generalize s.size = n at *
  generalize ts.length = L at *
  clear hN hS hok h0 hs hl hfl
  have hsl := fun W => cut_run b o L cp j n hp hq W
  obtain ⟨q, hqe⟩ : ∃ q, j + n = q := ⟨_, rfl⟩
  rw [hqe] at hsl hq hle
  have hqi : (j : Int) + (n : Int) = (q : Int) := by omega
  clear hqe
  go_enter Tryz.func172, Tryz.ntmps172
  go_upto_region 5 with (go_at_call 187; go_must (refine (HR.out _ (by repeat (first | with_reducible exact Later.refl _ | with_reducible assumption | with_reducible refine Later.ofdrew ?_ | with_reducible refine Later.ofdrewN ?_ | with_reducible refine Later.setCell ?_ ?_ _ | with_reducible refine Later.alloc ?_ _ | with_reducible refine Later.drewN ?_ _ | with_reducible refine Later.drew ?_ | (with_reducible refine Later.trans ?_ (by assumption)) | (simp only [World.size_setCell, World.size_alloc, World.heap_drewN]; omega) | (simp; done) | (simp; omega)))).mono ?_; rintro e w2 ⟨rfl, hb2⟩))
  refine wp_opaque (fun w3 hb3 => ?_)
  have hO3 := Own.one hb3
  have hl3 := hb2.trans hb3.un1
  have hBw : w.heap.size ≤ w2.heap.size := Later.size hb2
  obtain ⟨B, hB⟩ : ∃ B, w2.heap.size = B := ⟨_, rfl⟩
  rw [hB] at hO3 hBw ⊢
  have hO3 : Own w3 [(B, (flagsV []).toArray)] := hO3
  clear hb2 hb3 hB HR
  go_upto_region 6 with (go_at_call 167; go_must (refine (HZ.out _ hl3).mono ?_; rintro e w4 ⟨rfl, hb4⟩))
  have HO4 := Lib.hid (hO3.later hb4)
  have hl4 := hl3.trans hb4
  clear hO3 hl3 hb4 HZ
  have HN2 := Lib.hid hN2
  clear hN2
  go_upto_region 7 with (fail)
  clear hsl
  go_loopw [34] (fun s34 wr => ∃ i : Nat, i ≤ n ∧ s34 = .int .i64 i ∧ Later w wr ∧ Hid (Own wr [(B, (flagsV (l.take i)).toArray)])) (fun s34 _ => n - (intOf s34).toNat)
  case atStart => exact ⟨0, Nat.zero_le _, rfl, hl4, HO4⟩
  case round =>
    obtain ⟨i, hi, rfl, hlat, hO⟩ := hrel
    clear hl4 HO4
    by_cases hlt : i < n
    · have hil : i < l.length := by omega
      obtain ⟨b', o', cp', hv, hb', -, g0, g1, g2, g3, g4⟩ := (HN2.out.later hlat).full hil
      rw [hll] at hv
      cases hv
      have hskip := flagsV_skip hil
      have hset : l[i].op = 2 → ∃ k : Nat, l[i].a = k ∧ k < 64 ∧ (flagsV (l.take i)).set k (.bool true) = flagsV (l.take (i + 1)) := fun h => by
        have h3 := hf _ (List.getElem_mem hil) h
        exact ⟨(l[i].a).toNat, by omega, by omega, flagsV_set hil h (by omega) (by omega)⟩
      obtain ⟨x, hx⟩ : ∃ x, l[i] = x := ⟨_, rfl⟩
      rw [hx] at g0 g1 g2 g3 g4 hskip hset
      obtain ⟨xo, xa, xb, xn, xd⟩ := x
      simp only at g0 g1 g2 g3 g4 hskip hset
      have HSK := Lib.hid hskip
      have HST := Lib.hid hset
      clear hskip hset hx HN2 hf
      go_upto_region 9 with (fail)
      refine wp_opaque (fun wk hbk => ?_)
      have hOk := Own.one hbk
      have hlk : Later wr wk := hbk.un1
      obtain ⟨zk, dk, -⟩ := own_get hOk
      have hOB := hO.out.later hlk
      clear g0 g1 g2 g3 g4 hbk hO
      by_cases h2 : xo = 2
      · subst h2
        obtain ⟨k, rfl, hk64, hst⟩ := HST.out rfl
        have HQ := Lib.hid hst
        obtain ⟨zB, dB, fB⟩ := own_get hOB
        have dBk := dB k
        have fBk := fB k (by simp [flagsV_len]; exact hk64)
        rw [List.getElem?_toArray, flagsV_get _ hk64] at dBk
        have HOB := Lib.hid hOB
        clear hst hOB dB fB HST HSK
        go_wp2
        go_roundw
        case rel => exact ⟨i + 1, by omega, by go_num, (hlat.trans hlk).putCell hBw _, Lib.hid (by rw [← HQ.out]; exact own_set_row HOB.out (by rw [flagsV_len]; exact hk64))⟩
        case measure => simp [intOf]; omega
      · have e1 : (xo == 2) = false := by simpa using h2
        have HOB := Lib.hid hOB
        clear hOB HST
        go_wp2
        go_roundw
        case rel => exact ⟨i + 1, by omega, by go_num, hlat.trans hlk, Lib.hid (by rw [HSK.out h2]; exact HOB.out)⟩
        case measure => simp [intOf]; omega
    · obtain rfl : i = n := by omega
      have hfin : l.take i = l := List.take_of_length_le (by omega)
      have hO1 := hO.out
      rw [hfin] at hO1
      have hget : ∀ k, k < 64 → ((flagsV l).toArray)[k]? = some (.bool (keyB 2 2 l k)) := fun k hk => by rw [List.getElem?_toArray, flagsV_get _ hk]
      have hsz : ((flagsV l).toArray).size = 64 := by simp [flagsV_len]
      obtain ⟨A, hA⟩ : ∃ A, (flagsV l).toArray = A := ⟨_, rfl⟩
      rw [hA] at hO1 hget hsz
      obtain ⟨t', fr, hrow⟩ := row_of_own1 hO1 (by omega)
      have HG := Lib.hid hget
      have HU := Lib.hid (fun m => keysU_succ 2 2 l m)
      clear hget hA hO hO1 hfin HN2 hf hlt
      go_wp2_with (refine wpList_load_row rfl 292 _ rfl B rfl t' _ fr _ hrow Tryz.underlying292 rfl (by rw [hsz]; kernel_rfl) ?_)
      clear hrow
      go_loopw [12, 46] (fun s12 s46 ws => ∃ (m : Nat) (xs : List Int), m ≤ 64 ∧ s46 = .int .i64 m ∧ Hid (xs = keysU 2 2 l m) ∧ xs.length ≤ m ∧ Mine w 3 1 ws s12 xs.length (xs.map (Value.int .i64))) (fun _ s46 _ => 64 - (intOf s46).toNat)
      case atStart => exact ⟨0, [], Nat.zero_le _, rfl, Lib.hid rfl, Nat.le_refl _, Mine.nil hlat⟩
      case round =>
        obtain ⟨m, xs, hm, rfl, hxs, hxl, hM⟩ := hrel
        obtain ⟨p', cp', rfl⟩ := hM.form
        have HM := Lib.hid hM
        clear hM
        by_cases hlt : m < 64
        · have hg := HG.out m hlt
          have hu := HU.out m
          rw [← hxs.out] at hu
          obtain ⟨bv, hbv⟩ : ∃ bv, keyB 2 2 l m = bv := ⟨_, rfl⟩
          rw [hbv] at hg hu
          have HN := Lib.hid hu
          clear hu hbv
          cases bv
          · have HX : Hid (xs = keysU 2 2 l (m + 1)) := Lib.hid (by rw [HN.out]; simp)
            go_wp2_with (refine wpList_idx (run_index_agg 292 _ 64 A m (.bool false) _ Tryz.underlying292 hlt hg (fun W => by kernel_rfl) (fun W => by kernel_rfl)) rfl rfl rfl rfl ?_)
            go_roundw
            case rel => exact ⟨m + 1, xs, by omega, by go_num, HX, by omega, HM.out⟩
            case measure => simp [intOf]; omega
          · have HX : Hid (xs ++ [(m : Int)] = keysU 2 2 l (m + 1)) := Lib.hid (by rw [HN.out]; simp)
            go_wp2_with (first
              | refine wpList_idx (run_index_agg 292 _ 64 A m (.bool true) _ Tryz.underlying292 hlt hg (fun W => by kernel_rfl) (fun W => by kernel_rfl)) rfl rfl rfl rfl ?_
              | (at_builtin; go_must (refine wpList_push sliceInt HM.out rfl _ _ rfl rfl 1 rfl rfl (by simp [Value.oneCell']) (by omega) (by unfold maxLen; omega) ?_; intro v5 w3 hM3 hg3)))
            go_roundw
            case rel => exact ⟨m + 1, xs ++ [(m : Int)], by omega, by go_num, HX, by simp; omega, by rw [List.length_append, List.map_append]; exact hM3⟩
            case measure => simp [intOf]; omega
        · obtain rfl : m = 64 := by omega
          go_wp2
          go_ret2
          have h2 : xs = keysI 2 2 l := hxs.out
          exact ⟨_, rfl, by rw [← h2]; exact HM.out.ints.1, HM.out.lat, fun k hk => (HM.out.1.lt k hk).1⟩
end Go.Proofs.YtkjabiabeemfhaaGreatDoor
end
section
namespace Go.Proofs.YtkjabiabeemfhaaGreatDoor
open Go.RowKit
set_option maxRecDepth 100000
structure HdOk (ts : List Nd) (h : Hd) : Prop where
  tm : TmAt ts h.pl h.T
  so : h.T.sorted = true
  mc : makesI h.T.root.op = 2
  d0 : 0 ≤ h.day
  d1 : h.day ≤ 73048
  va : Valid h.n h.d
structure EnvOk (env : Env) : Prop where
  get : ∀ day, GetOk (env.get day)
  cho : ∀ k d p, env.cho k d = some p → p = 1 ∨ p = 2
theorem sorted_kid {x : Nd} {l : List Tm} (h : (Tm.node x l).sorted = true) {i : Nat} (hi : i < l.length) : (l[i]).sorted = true ∧ makesI (l[i]).root.op = belI x.op i := by
  unfold Tm.sorted at h
  simp only [Bool.and_eq_true] at h
  obtain ⟨h1, h2⟩ := h
  unfold Tm.top at h1
  exact ⟨(Tm.sorteds_iff l).1 h2 _ (List.getElem_mem _), (of_decide_eq_true h1) i hi⟩
theorem kidH_at {l : List Tm} {k i : Nat} {day n d : Int} (hi : i < l.length) : kidH l k i day n d = [⟨l[i], placeN k l i, day, n, d⟩] := by
  unfold kidH; rw [List.getElem?_eq_getElem hi]
theorem kidH_ok {ts : List Nd} {x : Nd} {l : List Tm} {k i : Nat} {day n d : Int} (hT : TmAt ts k (.node x l)) (hs : (Tm.node x l).sorted = true) (hb : belI x.op i = 2) (h0 : 0 ≤ day) (h1 : day ≤ 73048) (hv : Valid n d) : ∀ g ∈ kidH l k i day n d, HdOk ts g := by
  intro g hg
  unfold kidH at hg
  split at hg
  · rename_i t ht
    obtain ⟨hi, rfl⟩ := List.getElem?_eq_some_iff.1 ht
    obtain rfl := List.mem_singleton.1 hg
    obtain ⟨h2, h3⟩ := sorted_kid hs hi
    exact ⟨placeN_at hT hi, h2, by rw [h3, hb], h0, h1, hv⟩
  · cases hg
theorem kid_num {ts : List Nd} {T : Tm} (hG : Good ts T) (hok : ∀ x ∈ ts, x.ok) {x : Nd} {l : List Tm} {k i : Nat} (hT : TmAt ts k (.node x l)) (hs : (Tm.node x l).sorted = true) (hi : i < l.length) (hb : belI x.op i = 1) :
    TmAt ts (placeN k l i) l[i] ∧ NumT l[i] ∧ wrongV ts (placeN k l i : Nat) = 0 := by
  obtain ⟨h2, h3⟩ := sorted_kid hs hi
  have h4 := placeN_at hT hi
  rw [hb] at h3
  refine ⟨h4, numT_of hG.fields hok h4 h2 h3, ?_⟩
  have hle := h4.le
  have hp := (l[i]).size_pos
  unfold wrongV
  rw [if_neg (by rw [hG.ofE]; simp), if_neg (by omega), if_pos]
  obtain ⟨y, m, hy⟩ : ∃ y m, l[i] = Tm.node y m := ⟨(l[i]).root, (l[i]).kids, by generalize l[i] = t; cases t; rfl⟩
  rw [hy] at h4 h3
  rw [Int.toNat_natCast, h4.root.1]
  exact h3
theorem firstD_range {cho : Int → Int → Option Int} {key a b q : Int} (h : firstD cho key a b = some q) : 0 ≤ q ∧ q ≤ 73048 ∧ a ≤ q ∧ q ≤ b ∧ cho key q = some 1 := by
  unfold firstD at h
  rw [Option.map_eq_some_iff] at h
  obtain ⟨i, hi, rfl⟩ := h
  have h1 := List.mem_of_find?_eq_some hi
  have h2 := List.find?_some hi
  rw [List.mem_range] at h1
  simp only [decide_eq_true_eq] at h2
  exact ⟨by omega, by omega, h2.1, h2.2.1, h2.2.2⟩
theorem contract_ops {op : Int} (h : makesI op = 2) : 9 ≤ op ∧ op ≤ 17 := by
  unfold makesI at h
  split at h
  · cases h
  · split at h
    · cases h
    · omega
theorem fields_when {x : Nd} (h : fieldsB x = true) (h2 : x.op = 14) : 0 ≤ x.a ∧ x.a ≤ 73048 := by
  unfold fieldsB at h
  rw [h2] at h
  simp [limB, withinB] at h
  omega
theorem rat_step {n d p q : Int} (h1 : Valid n d) (h2 : Valid p q) (h : ¬ rE (n * p) (d * q) ≠ 0) : Valid (rN (n * p) (d * q)) (rD (n * p) (d * q)) := by
  have h0 : rE (n * p) (d * q) = 0 := by simpa using h
  have := fitQ_valid (N := n * p) (D := d * q) (Int.mul_pos h1.d0 h2.d0) (v := (rN (n * p) (d * q), rD (n * p) (d * q))) (by unfold fitQ; simp [h0])
  exact this
theorem one_ok {ts : List Nd} {T : Tm} {env : Env} {tod : Int} (hG : Good ts T) (hok : ∀ x ∈ ts, x.ok) (hE : EnvOk env) {h : Hd} (hh : HdOk ts h) : ∀ g ∈ (oneH env tod h).2.1, HdOk ts g := by
  obtain ⟨⟨x, l⟩, pl, day, n, d⟩ := h
  obtain ⟨hT, hs, hm, h0, h1, hv⟩ := hh
  simp only at hT hs hm h0 h1 hv
  have hops := contract_ops hm
  obtain ⟨r1, -, -, r4⟩ := hT.root
  have hx : fieldsB x = true := hG.fields x (List.mem_of_getElem? r1)
  have hnil : ∀ g ∈ ([] : List Hd), HdOk ts g := fun g hg => by cases hg
  unfold oneH
  split
  · exact hnil
  show ∀ g ∈ (stepT env tod x l pl day n d).2.1, HdOk ts g
  unfold stepT
  by_cases h10 : x.op = 10
  · rw [if_pos h10]; exact hnil
  rw [if_neg h10]
  by_cases h11 : x.op = 11
  · rw [if_pos h11]; exact kidH_ok hT hs (by rw [h11]; decide) h0 h1 (valid_neg hv)
  rw [if_neg h11]
  by_cases h12 : x.op = 12
  · rw [if_pos h12]
    intro g hg
    rcases List.mem_append.1 hg with hg | hg
    · exact kidH_ok hT hs (by rw [h12]; decide) h0 h1 hv g hg
    · exact kidH_ok hT hs (by rw [h12]; decide) h0 h1 hv g hg
  rw [if_neg h12]
  by_cases h13 : x.op = 13
  · rw [if_pos h13]
    have hl : l.length = 2 := by rw [r4, h13]; decide
    obtain ⟨k1, k2, k3⟩ := kid_num hG hok hT hs (i := 0) (by omega) (by rw [h13]; decide)
    have hr := valT_res (hE.get day) k2
    have e : numT env day l 0 = valT (env.get day) l[0] := by unfold numT; rw [List.getElem?_eq_getElem (by omega)]
    unfold scaleT
    rw [e]
    split
    · exact hnil
    split
    · exact hnil
    rename_i v hv2
    split
    · exact hnil
    rename_i h3
    exact kidH_ok hT hs (by rw [h13]; decide) h0 h1 (rat_step hv (hr.val v hv2) h3)
  rw [if_neg h13]
  by_cases h14 : x.op = 14
  · rw [if_pos h14]
    obtain ⟨a0, a1⟩ := fields_when hx h14
    show ∀ g ∈ (if day ≤ x.a then kidH l pl 0 x.a n d else []), HdOk ts g
    split
    · exact kidH_ok hT hs (by rw [h14]; decide) a0 a1 hv
    · exact hnil
  rw [if_neg h14]
  by_cases h15 : x.op = 15
  · rw [if_pos h15]
    unfold condT
    split
    · exact hnil
    split
    · exact hnil
    split
    · refine kidH_ok hT hs ?_ h0 h1 hv
      split <;> (rw [h15]; decide)
    · exact hnil
  rw [if_neg h15]
  by_cases h16 : x.op = 16
  · rw [if_pos h16]
    split
    · rename_i p hp
      refine kidH_ok hT hs ?_ h0 h1 hv
      rcases hE.cho _ _ _ hp with rfl | rfl <;> (rw [h16]; decide)
    · exact hnil
  rw [if_neg h16]
  by_cases h17 : x.op = 17
  · rw [if_pos h17]
    split
    · rename_i q hq
      obtain ⟨q0, q1, -⟩ := firstD_range hq
      exact kidH_ok hT hs (by rw [h17]; decide) q0 q1 hv
    · exact hnil
  rw [if_neg h17]
  exact hnil
theorem keysI_le (op op' : Int) (l : List Nd) : (keysI op op' l).length ≤ 64 := keysU_len op op' l 64
theorem asks_le (env : Env) (day : Int) (s : Tm) : (asksT env day s).length ≤ 64 := by
  unfold asksT
  rw [List.length_map]
  exact Nat.le_trans (List.length_filter_le _ _) (keysI_le 2 2 s.flat)
theorem askI_le (env : Env) (day : Int) (l : List Tm) (i : Nat) : (askI env day l i).length ≤ 64 := by
  unfold askI
  split
  · exact asks_le _ _ _
  · exact Nat.zero_le _
theorem one_few (env : Env) (tod : Int) (h : Hd) : (oneH env tod h).2.2.1.length ≤ 1 ∧ (oneH env tod h).2.2.2.length ≤ 128 := by
  unfold oneH
  split
  · exact ⟨Nat.zero_le _, Nat.zero_le _⟩
  unfold stepT
  have a0 := fun i => askI_le env h.day h.T.kids i
  have := a0 0
  have := a0 1
  repeat' split
  all_goals first | (exact ⟨Nat.zero_le _, Nat.zero_le _⟩) | (exact ⟨Nat.le_refl _, Nat.zero_le _⟩) | (exact ⟨Nat.zero_le _, by simp⟩) | skip
  · unfold scaleT
    repeat' split
    all_goals first | (exact ⟨Nat.zero_le _, Nat.zero_le _⟩) | (exact ⟨Nat.zero_le _, by simp only; omega⟩)
  · unfold condT
    repeat' split
    all_goals first | (exact ⟨Nat.zero_le _, Nat.zero_le _⟩) | (exact ⟨Nat.zero_le _, by simp only [List.length_append]; omega⟩)
theorem find_sorted' {α : Type} {R : α → α → Prop} {p : α → Bool} : ∀ {Y : List α} {y : α}, Y.Pairwise R → Y.find? p = some y → ∀ z ∈ Y, p z = true → z = y ∨ R y z
  | a :: r, y, h, hf, z, hz, hp => by
    rw [List.find?_cons] at hf
    obtain ⟨h1, h2⟩ := List.pairwise_cons.1 h
    split at hf
    · cases hf
      rcases List.mem_cons.1 hz with rfl | hz
      · exact .inl rfl
      · exact .inr (h1 z hz)
    · rename_i h3
      rcases List.mem_cons.1 hz with rfl | hz
      · rw [h3] at hp; cases hp
      · exact find_sorted' h2 hf z hz hp
def Left (env : Env) (tod : Int) (R : Rs) (F : List Fl) (W : List Wt) (q : List Hd) : Prop := ∃ n, sizesH q ≤ n ∧ comb (0, F, W) (runQ env tod n q) = R
theorem left_nil {env : Env} {tod : Int} {R : Rs} {F : List Fl} {W : List Wt} (h : Left env tod R F W []) : R = (0, F, W) := by
  obtain ⟨n, -, h⟩ := h
  rw [← h]
  cases n <;> simp [runQ, comb]
theorem left_err {env : Env} {tod : Int} {R : Rs} {F : List Fl} {W : List Wt} {h : Hd} {r : List Hd} (hl : Left env tod R F W (h :: r)) (h1 : (oneH env tod h).1 ≠ 0) : R = ((oneH env tod h).1, [], []) := by
  obtain ⟨n, hn, hl⟩ := hl
  cases n with
  | zero => have := h.T.size_pos; simp [sizesH] at hn; omega
  | succ n =>
    rw [← hl]
    simp only [runQ, h1, ne_eq, not_false_eq_true, if_true]
    unfold comb
    simp [h1]
end Go.Proofs.YtkjabiabeemfhaaGreatDoor
end
section
namespace Go.Proofs.YtkjabiabeemfhaaGreatDoor
open Go.RowKit
set_option maxRecDepth 100000
theorem tellCh_nodup {ch : ChL} {x : Td} (h : (ch.map (·.1)).Nodup) : ((tellCh ch x).map (·.1)).Nodup := by
  unfold tellCh chooseL
  split
  · split
    · exact putA_keys _ _ _ h
    · exact h
  · exact h
def ChOk (ch : ChL) : Prop := ∀ q p, getA ch q = some p → (p = 1 ∨ p = 2) ∧ 0 ≤ q.2 ∧ q.2 ≤ 73048
theorem choose_fine {k d p : Int} (h : chooseE k d p = 0) : (p = 1 ∨ p = 2) ∧ 0 ≤ d ∧ d ≤ 73048 := by
  unfold chooseE mayI at h
  split at h
  · cases h
  · rename_i h1
    split at h
    · cases h
    · rename_i h2
      simp only [Bool.not_eq_false, Bool.and_eq_true, Bool.or_eq_true, beq_iff_eq, decide_eq_true_eq] at h1 h2
      exact ⟨h1.2, h2⟩
theorem chOk_step {ch : ChL} {x : Td} (hn : (ch.map (·.1)).Nodup) (h : ChOk ch) : ChOk (tellCh ch x) := by
  intro q p hp
  unfold tellCh at hp
  split at hp
  · unfold chooseL at hp
    split at hp
    · rename_i h0
      rw [putA_get _ _ _ _ hn] at hp
      split at hp
      · rename_i e
        cases hp
        subst e
        exact choose_fine h0
      · exact h q p hp
    · exact h q p hp
  · exact h q p hp
def getC (ch : ChL) (k d : Int) : Option Int := getA ch (k, d)
theorem first_days {α : Type} {Y : List α} {p : α → Bool} {day : α → Int} {cho : Int → Int → Option Int} {key a b : Int} {R : α → α → Prop} (hs : Y.Pairwise R) (hR : ∀ x y, p x = true → p y = true → R x y → day x ≤ day y)
    (h1 : ∀ y ∈ Y, p y = true → a ≤ day y ∧ day y ≤ b ∧ 0 ≤ day y ∧ day y ≤ 73048 ∧ cho key (day y) = some 1)
    (h2 : ∀ d, a ≤ d → d ≤ b → cho key d = some 1 → ∃ y ∈ Y, p y = true ∧ day y = d) : (Y.find? p).map day = firstD cho key a b := by
  cases hf : Y.find? p with
  | none =>
    rw [Option.map_none]
    unfold firstD
    rw [List.find?_eq_none.2, Option.map_none]
    intro i hi hc
    simp only [decide_eq_true_eq] at hc
    obtain ⟨y, hy, hp, -⟩ := h2 _ hc.1 hc.2.1 hc.2.2
    have := List.find?_eq_none.1 hf y hy
    exact this hp
  | some y =>
    have hy := List.mem_of_find?_eq_some hf
    have hp := List.find?_some hf
    obtain ⟨a1, a2, a3, a4, a5⟩ := h1 y hy hp
    rw [Option.map_some]
    unfold firstD
    cases hg : (List.range 73049).find? (fun i : Nat => decide (a ≤ (i : Int) ∧ (i : Int) ≤ b ∧ cho key i = some 1)) with
    | none =>
      have := List.find?_eq_none.1 hg (day y).toNat (by rw [List.mem_range]; omega)
      have e : (((day y).toNat : Nat) : Int) = day y := by omega
      simp only [e, a1, a2, a5, and_self, decide_true, not_true_eq_false] at this
    | some i =>
      have hi := List.find?_some hg
      simp only [decide_eq_true_eq] at hi
      have hle := find_sorted' (List.pairwise_lt_range (n := 73049)) hg (day y).toNat (by rw [List.mem_range]; omega) (by
        have e : (((day y).toNat : Nat) : Int) = day y := by omega
        simp only [e, a1, a2, a5, and_self, decide_true])
      obtain ⟨z, hz, hpz, hdz⟩ := h2 _ hi.1 hi.2.1 hi.2.2
      rw [Option.map_some]
      congr 1
      have hyz : day y ≤ day z := by
        rcases find_sorted' hs hf z hz hpz with e | e
        · rw [e]; omega
        · exact hR y z hp hpz e
      rw [hdz] at hyz
      omega
def envT (fx : FxL) (ch : ChL) : Env := ⟨getF fx, getC ch⟩
theorem envT_ok {fx : FxL} {ch : ChL} (h : FxOk fx) (h2 : ChOk ch) : EnvOk (envT fx ch) := ⟨fun day => getOk_of h day, fun k d p hp => (h2 _ _ hp).1⟩
end Go.Proofs.YtkjabiabeemfhaaGreatDoor
end
section
namespace Go.Proofs.YtkjabiabeemfhaaGreatDoor
open Go.RowKit
set_option maxRecDepth 100000
structure JobAt (w0 : World) (ts : List Nd) (T : Tm) (tv : Value) (fx : FxL) (ch : ChL) (p m1 m2 : Nat) : Prop where
  good : Good ts T
  ok : ∀ x ∈ ts, x.ok
  sh : Shapes w0
  nodes : IsNodes w0 tv ts
  facts : FactsAt w0 p m1 m2 fx ch
  fo : FxOk fx
  co : ChOk ch
  cn : (ch.map (·.1)).Nodup
  cl : ch.length ≤ 100000
theorem JobAt.len {w0 : World} {ts : List Nd} {T : Tm} {tv : Value} {fx : FxL} {ch : ChL} {p m1 m2 : Nat} (h : JobAt w0 ts T tv fx ch p m1 m2) : ts.length ≤ 100000 := Nat.le_trans h.good.len (by decide)
def NumsAt (ts : List Nd) (l : List (Nat × Tm)) : Prop := ∀ x ∈ l, TmAt ts x.1 x.2 ∧ NumT x.2 ∧ wrongV ts (x.1 : Nat) = 0
theorem vat_place {ts : List Nd} {fx : FxL} {day : Int} {j : Nat} {s : Tm} (hs : TmAt ts j s) (h : wrongV ts (j : Nat) = 0) (h0 : 0 ≤ day) (h1 : day ≤ 73048) : atV ts fx (j : Nat) day = valT (getF fx day) s := by
  unfold atV
  rw [if_neg (by rw [h]; simp), if_neg (by omega), Int.toNat_natCast, subAt_eq hs]
theorem own_set3 {w : World} {b : Nat} {p q r x y z : Value} (h : Own w [(b, #[p, q, r])]) : Own (((w.setCell ⟨b, 0, none⟩ x).setCell ⟨b, 1, none⟩ y).setCell ⟨b, 2, none⟩ z) [(b, #[x, y, z])] :=
  Own.cons (by simpa using h.1.1) (fun i => set_own (k := 2) (set_own (k := 1) (set_own (k := 0) h.1.2.1 x (by simp)) y (by simp)) z (by simp) i) (fun i hi => set_frozen (n := 3) (fun i hi => set_frozen (n := 3) (fun i hi => set_frozen (n := 3) h.1.2.2 x i hi) y i hi) z i hi) trivial
theorem row_lat {α : Type} {sz : Nat} {f : α → Nat → Value} {w w' : World} {v : Value} {xs : List α} {Z : Nat → Prop} (h : IsRow sz f w v xs) (hL : S.LatB Z w w') (hZ : ∀ k, v.ownBlock = some k → ¬ Z k) : IsRow sz f w' v xs := by
  rcases h with h | ⟨b, o, cap, h1, h2, h3, h4, h5⟩
  · exact .inl h
  · refine .inr ⟨b, o, cap, h1, Nat.lt_of_lt_of_le h2 hL.size, h3, h4, fun i hi j hj => ?_⟩
    rw [hL.cell h2 (hZ b (by rw [h1]; rfl))]
    exact h5 i hi j hj
theorem ints_lat {w w' : World} {v : Value} {zs : List Int} {Z : Nat → Prop} (h : IsInts w v zs) (hL : S.LatB Z w w') (hZ : ∀ k, v.ownBlock = some k → ¬ Z k) : IsInts w' v zs := by
  rcases h with h | ⟨b, o, cap, h1, h2, h3, h4, h5⟩
  · exact .inl h
  · refine .inr ⟨b, o, cap, h1, Nat.lt_of_lt_of_le h2 hL.size, h3, h4, fun j hj => ?_⟩
    rw [hL.cell h2 (hZ b (by rw [h1]; rfl))]
    exact h5 j hj
theorem flat_mem {ts : List Nd} {j : Nat} {s : Tm} (h : TmAt ts j s) {x : Nd} (hx : x ∈ s.flat) : x ∈ ts := by
  obtain ⟨r, hr⟩ := h.2
  have : x ∈ ts.drop j := by rw [← hr]; exact List.mem_append_left _ hx
  exact List.mem_of_mem_drop this
theorem flat_keys {ts : List Nd} {T : Tm} (hG : Good ts T) {j : Nat} {s : Tm} (h : TmAt ts j s) : ∀ x ∈ s.flat, x.op = 2 → 0 ≤ x.a ∧ x.a < 64 := fun x hx h2 => key_range (hG.fields x (flat_mem h hx)) h2
def askK (env : Env) (day : Int) (ks : List Int) : List Wt := (ks.filter (fun k => (env.get day k).isNone)).map (fun k => ⟨false, k, day⟩)
theorem askK_take {env : Env} {day : Int} {ks : List Int} {k : Nat} (h : k < ks.length) : askK env day (ks.take (k + 1)) = askK env day (ks.take k) ++ if (env.get day ks[k]).isNone then [⟨false, ks[k], day⟩] else [] := by
  unfold askK
  rw [List.take_succ_eq_append_getElem h, List.filter_append, List.map_append]
  congr 1
  cases hc : (env.get day ks[k]).isNone <;> simp [hc]
theorem askK_le (env : Env) (day : Int) (ks : List Int) : (askK env day ks).length ≤ ks.length := by unfold askK; rw [List.length_map]; exact List.length_filter_le _ _
theorem flat_le (env : Env) (day : Int) (l : List (Nat × Tm)) : (l.flatMap (fun x => asksT env day x.2)).length ≤ 64 * l.length := by
  induction l with
  | nil => simp
  | cons a l ih =>
    have := asks_le env day a.2
    rw [List.flatMap_cons, List.length_append, List.length_cons]
    omega
theorem ints1 {w : World} {ta : TypeId} {k : Nat} (a : Int) (hk : k = w.heap.size) : IsInts (w.alloc (.cells #[.int .i64 a] ta)).drew (.slice (some ⟨k, 0, none⟩) 1 1) [a] := by
  subst hk
  obtain ⟨z, hc, -⟩ := own_get (own_alloc w #[.int .i64 a] ta)
  refine .inr ⟨w.heap.size, 0, 1, rfl, z, Nat.le_refl _, by unfold maxLen; omega, fun j hj => ?_⟩
  have hj3 : j < 1 := hj
  show (w.alloc _).cell? _ = _
  rw [Nat.zero_add, hc j]
  rcases j with _ | j
  · rfl
  · omega
theorem ints2d {w : World} {ta : TypeId} {k : Nat} (a c : Int) (hk : k = w.heap.size) : IsInts (w.alloc (.cells #[.int .i64 a, .int .i64 c] ta)).drew (.slice (some ⟨k, 0, none⟩) 2 2) [a, c] := by
  subst hk
  obtain ⟨z, hc, -⟩ := own_get (own_alloc w #[.int .i64 a, .int .i64 c] ta)
  refine .inr ⟨w.heap.size, 0, 2, rfl, z, Nat.le_refl _, by unfold maxLen; omega, fun j hj => ?_⟩
  have hj3 : j < 2 := hj
  show (w.alloc _).cell? _ = _
  rw [Nat.zero_add, hc j]
  rcases j with _ | _ | j
  · rfl
  · rfl
  · omega
theorem Later.undrew' {a b : World} (h : Later a.drew b) : Later a b := h.undrew
end Go.Proofs.YtkjabiabeemfhaaGreatDoor
end
