/- audit: folds, rows held against each other, Agrees -/
import Derived.Test.YtckeaibamgkegaaGreatDoorQ28
set_option linter.all false
set_option linter.all false
section
/- audit: folds, rows held against each other, Agrees -/
namespace Go.Proofs.YtckeaibamgkegaaGreatDoor
open Go.RowKit
set_option maxRecDepth 100000

set_option maxHeartbeats 2000000 in
theorem folds_any (q : Nat) (es : List En) (hel : es.length ≤ 500) (hew : ∀ y ∈ es, y.ok) (hew2 : ∀ y ∈ es, y.ls.length ≤ 20) (l : List Rw) (hlen : l.length ≤ 10000) (hwd : ∀ r ∈ l, I64 r.amt) (period : Int)
    (heq : ∀ party cur, (l.filter (foldB party cur period)).map (·.amt) = inPL party cur period es) (v : Value) (w : World) (hL : Led w q es) (hN : IsRow 9 rwF w v l) :
    Calls Tryz.prog 45 #[.pointer (some ⟨q, 0, none⟩), v, .int .i64 period] w fun e w' => e = .returned (.bool true) ∧ Later w w' := by
  have HF := Lib.hid (fun (party cur : Int) W (hl : Later w W) => fold_any party cur period l hlen hwd v W (hN.later hl))
  have HP := Lib.hid (fun (party cur : Int) W (hl : Later w W) => inper_any q es hel hew hew2 party cur period W (hL.later hl))
  simp only [heq] at HF
  obtain ⟨p, cp, rfl⟩ := hN.form
  clear hL hN heq hel hew hew2 hlen hwd
  generalize l.length = L at *
  have HX : ∃ f g : Int → Int → Int, Hid (∀ (party cur : Int) (W : World), Later w W → Calls Tryz.prog 8 #[.slice p L cp, .int .i64 party, .int .i64 cur, .int .i64 period] W fun e w' => e = .returned (.tuple #[.int .i64 (f party cur), .int .i64 (g party cur)]) ∧ Later W w') ∧
      Hid (∀ (party cur : Int) (W : World), Later w W → Calls Tryz.prog 67 #[.pointer (some ⟨q, 0, none⟩), .int .i64 party, .int .i64 cur, .int .i64 period] W fun e w' => e = .returned (.tuple #[.int .i64 (f party cur), .int .i64 (g party cur)]) ∧ Later W w') :=
    ⟨fun party cur => fitN (sumI (inPL party cur period es)), fun party cur => fitE (sumI (inPL party cur period es)), HF, HP⟩
  clear HF HP
  obtain ⟨f, g, HF, HP⟩ := HX
  go_enter Tryz.func45, Tryz.ntmps45
  go_wp2
  go_loopw [13] (fun s13 wr => ∃ j : Nat, j ≤ 16 ∧ s13 = .int .i64 j ∧ Later w wr) (fun s13 _ => 16 - (intOf s13).toNat)
  case atStart => exact ⟨0, by omega, rfl, Later.refl _⟩
  case round =>
    obtain ⟨j, hj, rfl, hlat⟩ := hrel
    by_cases hlt : j < 16
    · have hlt' : (j : Int) < 16 := by omega
      go_wp2
      go_loopw [16] (fun s16 wr => ∃ k : Nat, k ≤ 8 ∧ s16 = .int .i64 k ∧ Later w wr) (fun s16 _ => 8 - (intOf s16).toNat)
      case atStart => exact ⟨0, by omega, rfl, hlat⟩
      case round =>
        obtain ⟨k, hk, rfl, hlq⟩ := hrel
        clear hlat
        by_cases hkt : k < 8
        · have hkt' : (k : Int) < 8 := by omega
          have HF2 := Lib.hid (fun W (hl : Later wr W) => HF.out j k W (hlq.trans hl))
          have HP2 := Lib.hid (fun W (hl : Later wr W) => HP.out j k W (hlq.trans hl))
          generalize f j k = x at *
          generalize g j k = y at *
          clear HF HP
          go_wp2_with (first | (go_at_call 8; go_must (refine (HF2.out _ (by repeat (first | with_reducible exact Later.refl _ | with_reducible assumption | with_reducible refine Later.ofdrew ?_ | with_reducible refine Later.ofdrewN ?_ | with_reducible refine Later.setCell ?_ ?_ _ | with_reducible refine Later.alloc ?_ _ | with_reducible refine Later.drewN ?_ _ | with_reducible refine Later.drew ?_ | (with_reducible refine Later.trans ?_ (by assumption)) | (simp only [World.size_setCell, World.size_alloc, World.heap_drewN]; omega) | (simp; done) | (simp; omega)))).mono ?_; rintro e w6 ⟨rfl, hb6⟩)) | (go_at_call 67; go_must (refine (HP2.out _ (by repeat (first | with_reducible exact Later.refl _ | with_reducible assumption | with_reducible refine Later.ofdrew ?_ | with_reducible refine Later.ofdrewN ?_ | with_reducible refine Later.setCell ?_ ?_ _ | with_reducible refine Later.alloc ?_ _ | with_reducible refine Later.drewN ?_ _ | with_reducible refine Later.drew ?_ | (with_reducible refine Later.trans ?_ (by assumption)) | (simp only [World.size_setCell, World.size_alloc, World.heap_drewN]; omega) | (simp; done) | (simp; omega)))).mono ?_; rintro e w7 ⟨rfl, hb7⟩)))
          go_roundw
          case rel => exact ⟨k + 1, by omega, by go_num, by repeat (first | with_reducible exact Later.refl _ | with_reducible assumption | with_reducible refine Later.ofdrew ?_ | with_reducible refine Later.ofdrewN ?_ | with_reducible refine Later.setCell ?_ ?_ _ | with_reducible refine Later.alloc ?_ _ | with_reducible refine Later.drewN ?_ _ | with_reducible refine Later.drew ?_ | (with_reducible refine Later.trans ?_ (by assumption)) | (simp only [World.size_setCell, World.size_alloc, World.heap_drewN]; omega) | (simp; done) | (simp; omega))⟩
          case measure => simp [intOf]; omega
        · have hkt' : ¬ ((k : Int) < 8) := by omega
          go_wp2
          go_roundw
          case rel => exact ⟨j + 1, by omega, by go_num, hlq⟩
          case measure => simp [intOf]; omega
    · have hlt' : ¬ ((j : Int) < 16) := by omega
      go_wp2
      go_ret
      exact ⟨rfl, hlat⟩


set_option maxHeartbeats 4000000 in
theorem rows_equal (xs ys : List Rw) (hlen : xs.length ≤ 100000) (hlen2 : ys.length ≤ 100000) (v u : Value) (w : World) (hN : IsRow 9 rwF w v xs) (hM : IsRow 9 rwF w u ys) :
    Calls Tryz.prog 44 #[v, u] w fun e w' => e = .returned (.bool (decide (xs = ys))) ∧ Later w w' := by
  obtain ⟨p, cp, rfl⟩ := hN.form
  obtain ⟨q, cq, rfl⟩ := hM.form
  by_cases hl : xs.length = ys.length
  · have HN := Lib.hid hN
    have HM := Lib.hid hM
    clear hN hM
    rw [← hl] at HM hlen2 ⊢
    obtain ⟨L, hL⟩ : ∃ L, xs.length = L := ⟨_, rfl⟩
    rw [hL] at HN HM hlen hlen2 hl ⊢
    have HL := Lib.hid hL
    have HL2 := Lib.hid hl
    clear hL hl
    obtain ⟨r, hr⟩ : ∃ r, decide (xs = ys) = r := ⟨_, rfl⟩
    rw [hr]
    have hr := Lib.hid hr
    go_enter Tryz.func44, Tryz.ntmps44
    go_wp2
    go_loopw [13] (fun s13 wr => ∃ j : Nat, j ≤ L ∧ s13 = .int .i64 j ∧ Hid (∀ i (h1 : i < xs.length) (h2 : i < ys.length), i < j → xs[i] = ys[i]) ∧ Later w wr) (fun s13 _ => L - (intOf s13).toNat)
    case atStart => exact ⟨0, Nat.zero_le _, rfl, Lib.hid (fun i _ _ h => by omega), Later.refl _⟩
    case round =>
      obtain ⟨j, hj, rfl, hall, hlat⟩ := hrel
      by_cases hlt : j < L
      · have hj1 : j < xs.length := by rw [HL.out]; exact hlt
        have hj2 : j < ys.length := by rw [← HL2.out]; exact hlt
        obtain ⟨b, o, cp', hv, hb, g⟩ := HN.out.full (i := j) hj1
        rw [HL.out] at hv
        cases hv
        obtain ⟨b', o', cq', hv, hb', k⟩ := HM.out.full (i := j) hj2
        rw [← HL2.out] at hv
        cases hv
        have g0 := ((bcell hlat).1 _ _ hb).trans (g 0 (by omega))
        have g1 := ((bcell hlat).1 _ _ hb).trans (g 1 (by omega))
        have g2 := ((bcell hlat).1 _ _ hb).trans (g 2 (by omega))
        have g3 := ((bcell hlat).1 _ _ hb).trans (g 3 (by omega))
        have g4 := ((bcell hlat).1 _ _ hb).trans (g 4 (by omega))
        have g5 := ((bcell hlat).1 _ _ hb).trans (g 5 (by omega))
        have g6 := ((bcell hlat).1 _ _ hb).trans (g 6 (by omega))
        have g7 := ((bcell hlat).1 _ _ hb).trans (g 7 (by omega))
        have g8 := ((bcell hlat).1 _ _ hb).trans (g 8 (by omega))
        have k0 := ((bcell hlat).1 _ _ hb').trans (k 0 (by omega))
        have k1 := ((bcell hlat).1 _ _ hb').trans (k 1 (by omega))
        have k2 := ((bcell hlat).1 _ _ hb').trans (k 2 (by omega))
        have k3 := ((bcell hlat).1 _ _ hb').trans (k 3 (by omega))
        have k4 := ((bcell hlat).1 _ _ hb').trans (k 4 (by omega))
        have k5 := ((bcell hlat).1 _ _ hb').trans (k 5 (by omega))
        have k6 := ((bcell hlat).1 _ _ hb').trans (k 6 (by omega))
        have k7 := ((bcell hlat).1 _ _ hb').trans (k 7 (by omega))
        have k8 := ((bcell hlat).1 _ _ hb').trans (k 8 (by omega))
        simp only [rwF, Rw.nums, List.getD_cons_zero, List.getD_cons_succ, Nat.add_zero] at g0 g1 g2 g3 g4 g5 g6 g7 g8 k0 k1 k2 k3 k4 k5 k6 k7 k8
        have hb := Nat.lt_of_lt_of_le hb (Later.size hlat)
        have hb' := Nat.lt_of_lt_of_le hb' (Later.size hlat)
        clear g k HN HM
        by_cases he : xs[j] = ys[j]
        · have HA : Hid (∀ i (h1 : i < xs.length) (h2 : i < ys.length), i < j + 1 → xs[i] = ys[i]) := Lib.hid (fun i h1 h2 h3 => by
            by_cases h : i = j
            · subst h; exact he
            · exact hall.out i h1 h2 (by omega))
          clear hall hr HL HL2
          have HE : ∀ W, (binOp .neq 55 (.agg #[.int .i64 xs[j].no, .int .i64 xs[j].seq, .int .i64 xs[j].per, .int .i64 xs[j].con, .int .i64 xs[j].day, .int .i64 xs[j].ref, .int .i64 xs[j].pty, .int .i64 xs[j].cur, .int .i64 xs[j].amt]) (.agg #[.int .i64 ys[j].no, .int .i64 ys[j].seq, .int .i64 ys[j].per, .int .i64 ys[j].con, .int .i64 ys[j].day, .int .i64 ys[j].ref, .int .i64 ys[j].pty, .int .i64 ys[j].cur, .int .i64 ys[j].amt])).run Tryz.prog W = .ok (.bool false) W := fun W => by
            rw [rw_neq]; exact congrArg (fun c => Result.ok (Value.bool (!c)) W) (decide_eq_true he)
          clear he
          generalize xs[j] = X at *
          generalize ys[j] = Y at *
          obtain ⟨x0, x1, x2, x3, x4, x5, x6, x7, x8⟩ := X
          obtain ⟨y0, y1, y2, y3, y4, y5, y6, y7, y8⟩ := Y
          simp only at g0 g1 g2 g3 g4 g5 g6 g7 g8 k0 k1 k2 k3 k4 k5 k6 k7 k8 HE
          go_upto_region 6 with (fail)
          refine wp_region_plan 9 (.done [0, 1, 2, 3, 4, 5, 6, 7, 8]) (by kernel_rfl) (by kernel_rfl) (fun _ _ d _ _ h => by cases d <;> exact h) ?_
          repeat' (first
            | (refine plan_done (fun K hK => ?_); (first | (simp only [pick_cons, pick_nil, toList_some_append, List.getElem?_toArray, List.getElem?_cons_zero, List.getElem?_cons_succ]; repeat (go_big_quiet_step (fail))) | simp only [pick_nil]); refine wpQuiet_nil (hK _ ?_); clear hK K)
            | ((with_reducible refine at_list ?_); go_wp2_with (fail); first | refine behind_store (t := 9) (by decide) ?_ | refine behind (by repeat (first | with_reducible exact Later.refl _ | with_reducible assumption | with_reducible refine Later.ofdrew ?_ | with_reducible refine Later.ofdrewN ?_ | with_reducible refine Later.alloc ?_ _ | with_reducible refine Later.drewN ?_ _ | with_reducible refine Later.drew ?_ | (with_reducible refine Later.trans ?_ (by assumption)))) ?_))
          go_wp2
          go_roundw
          case rel => exact ⟨j + 1, by omega, by go_num, HA, by repeat (first | with_reducible exact Later.refl _ | with_reducible assumption | with_reducible refine Later.ofdrew ?_ | with_reducible refine Later.ofdrewN ?_ | with_reducible refine Later.setCell ?_ ?_ _ | with_reducible refine Later.alloc ?_ _ | with_reducible refine Later.drewN ?_ _ | with_reducible refine Later.drew ?_ | (with_reducible refine Later.trans ?_ (by assumption)) | (simp only [World.size_setCell, World.size_alloc, World.heap_drewN]; omega) | (simp; done) | (simp; omega))⟩
          case measure => simp [intOf]; omega
        · have hr2 : r = false := by
            rw [← hr.out, decide_eq_false_iff_not]
            intro e
            exact he (by simp only [e])
          subst hr2
          clear hall hr HL HL2
          have HE : ∀ W, (binOp .neq 55 (.agg #[.int .i64 xs[j].no, .int .i64 xs[j].seq, .int .i64 xs[j].per, .int .i64 xs[j].con, .int .i64 xs[j].day, .int .i64 xs[j].ref, .int .i64 xs[j].pty, .int .i64 xs[j].cur, .int .i64 xs[j].amt]) (.agg #[.int .i64 ys[j].no, .int .i64 ys[j].seq, .int .i64 ys[j].per, .int .i64 ys[j].con, .int .i64 ys[j].day, .int .i64 ys[j].ref, .int .i64 ys[j].pty, .int .i64 ys[j].cur, .int .i64 ys[j].amt])).run Tryz.prog W = .ok (.bool true) W := fun W => by
            rw [rw_neq]; exact congrArg (fun c => Result.ok (Value.bool (!c)) W) (decide_eq_false he)
          clear he
          generalize xs[j] = X at *
          generalize ys[j] = Y at *
          obtain ⟨x0, x1, x2, x3, x4, x5, x6, x7, x8⟩ := X
          obtain ⟨y0, y1, y2, y3, y4, y5, y6, y7, y8⟩ := Y
          simp only at g0 g1 g2 g3 g4 g5 g6 g7 g8 k0 k1 k2 k3 k4 k5 k6 k7 k8 HE
          go_upto_region 6 with (fail)
          refine wp_region_plan 9 (.done [0, 1, 2, 3, 4, 5, 6, 7, 8]) (by kernel_rfl) (by kernel_rfl) (fun _ _ d _ _ h => by cases d <;> exact h) ?_
          repeat' (first
            | (refine plan_done (fun K hK => ?_); (first | (simp only [pick_cons, pick_nil, toList_some_append, List.getElem?_toArray, List.getElem?_cons_zero, List.getElem?_cons_succ]; repeat (go_big_quiet_step (fail))) | simp only [pick_nil]); refine wpQuiet_nil (hK _ ?_); clear hK K)
            | ((with_reducible refine at_list ?_); go_wp2_with (fail); first | refine behind_store (t := 9) (by decide) ?_ | refine behind (by repeat (first | with_reducible exact Later.refl _ | with_reducible assumption | with_reducible refine Later.ofdrew ?_ | with_reducible refine Later.ofdrewN ?_ | with_reducible refine Later.alloc ?_ _ | with_reducible refine Later.drewN ?_ _ | with_reducible refine Later.drew ?_ | (with_reducible refine Later.trans ?_ (by assumption)))) ?_))
          go_wp2
          go_ret
          exact ⟨rfl, by repeat (first | with_reducible exact Later.refl _ | with_reducible assumption | with_reducible refine Later.ofdrew ?_ | with_reducible refine Later.ofdrewN ?_ | with_reducible refine Later.setCell ?_ ?_ _ | with_reducible refine Later.alloc ?_ _ | with_reducible refine Later.drewN ?_ _ | with_reducible refine Later.drew ?_ | (with_reducible refine Later.trans ?_ (by assumption)) | (simp only [World.size_setCell, World.size_alloc, World.heap_drewN]; omega) | (simp; done) | (simp; omega))⟩
      · have hr2 : r = true := by
          rw [← hr.out, decide_eq_true_eq]
          refine List.ext_getElem (by rw [HL.out]; exact HL2.out) (fun i h1 h2 => hall.out i h1 h2 ?_)
          rw [HL.out] at h1; omega
        subst hr2
        clear hall hr
        go_wp2
        go_ret
        exact ⟨rfl, by repeat (first | with_reducible exact Later.refl _ | with_reducible assumption | with_reducible refine Later.ofdrew ?_ | with_reducible refine Later.ofdrewN ?_ | with_reducible refine Later.setCell ?_ ?_ _ | with_reducible refine Later.alloc ?_ _ | with_reducible refine Later.drewN ?_ _ | with_reducible refine Later.drew ?_ | (with_reducible refine Later.trans ?_ (by assumption)) | (simp only [World.size_setCell, World.size_alloc, World.heap_drewN]; omega) | (simp; done) | (simp; omega))⟩
  · have hne : xs ≠ ys := fun e => hl (by rw [e])
    have h1 : ((xs.length : Int) == (ys.length : Int)) = false := by rw [beq_eq_false_iff_ne]; omega
    have h2 : ((xs.length : Int) != (ys.length : Int)) = true := by rw [bne_iff_ne]; omega
    rw [decide_eq_false hne]
    clear hN hM hne
    generalize xs.length = A at *
    generalize ys.length = B at *
    go_enter Tryz.func44, Tryz.ntmps44
    go_wp2
    go_ret
    exact ⟨rfl, by repeat (first | with_reducible exact Later.refl _ | with_reducible assumption | with_reducible refine Later.ofdrew ?_ | with_reducible refine Later.ofdrewN ?_ | with_reducible refine Later.setCell ?_ ?_ _ | with_reducible refine Later.alloc ?_ _ | with_reducible refine Later.drewN ?_ _ | with_reducible refine Later.drew ?_ | (with_reducible refine Later.trans ?_ (by assumption)) | (simp only [World.size_setCell, World.size_alloc, World.heap_drewN]; omega) | (simp; done) | (simp; omega))⟩

/-! What rows of books come to is what the books have. -/
theorem fold_entry (party cur period : Int) (no : Nat) (x : En) (h : entryE x = 0) : ((rowsE no x).filter (foldB party cur period)).map (·.amt) = inPE party cur period x := by
  unfold rowsE inPE
  rw [List.filter_map, List.map_map]
  have hc := cur_of_ok h
  have : x.ls.filter (foldB party cur period ∘ fun y => (⟨no, x.seq, x.per, x.con, x.day, x.ref, y.p, y.c, y.a⟩ : Rw)) = x.ls.filter (inPB party cur period x) := by
    refine List.filter_congr (fun y hy => ?_)
    have hcy := hc y hy
    simp only [Function.comp, foldB, inPB, inB2, hcy, Bool.decide_and, Bool.and_assoc]
  rw [this]
  rfl
theorem fold_books (party cur period : Int) (es : List En) (h : ∀ x ∈ es, entryE x = 0) : ((rowsL es).filter (foldB party cur period)).map (·.amt) = inPL party cur period es := by
  have gen : ∀ n, n ≤ es.length → ((rowsL (es.take n)).filter (foldB party cur period)).map (·.amt) = inPL party cur period (es.take n) := by
    intro n
    induction n with
    | zero => intro _; simp [rowsL_nil, inPL]
    | succ n ih =>
      intro hn
      rw [rowsL_step es (by omega), List.filter_append, List.map_append, ih (by omega), fold_entry _ _ _ _ _ (h _ (List.getElem_mem _))]
      unfold inPL
      rw [List.take_add_one, List.getElem?_eq_getElem (by omega), Option.toList_some, List.flatMap_append, List.flatMap_singleton]
  have := gen es.length (Nat.le_refl _)
  rwa [List.take_length] at this

theorem rowsL_bound (es : List En) (h : ∀ y ∈ es, y.ls.length ≤ 20) : (rowsL es).length ≤ 20 * es.length := by
  have gen : ∀ n, n ≤ es.length → (rowsL (es.take n)).length ≤ 20 * n := by
    intro n
    induction n with
    | zero => intro _; simp [rowsL_nil]
    | succ n ih =>
      intro hn
      have h1 := ih (by omega)
      have h2 := h _ (List.getElem_mem (l := es) (n := n) (by omega))
      rw [rowsL_step es (by omega), List.length_append, rowsE_len]
      omega
  have := gen es.length (Nat.le_refl _)
  rwa [List.take_length] at this
theorem rows_ok {es : List En} (hI : ∀ x ∈ es, x.ok) (hel : es.length ≤ 100000) : ∀ r ∈ rowsL es, r.ok := by
  intro r hr
  rw [rowsL_flat, List.mem_flatten] at hr
  obtain ⟨b, hb, hrb⟩ := hr
  obtain ⟨i, hi, rfl⟩ := List.getElem_of_mem hb
  rw [blocksE_at] at hrb
  rw [blocksE_len] at hi
  unfold rowsE at hrb
  obtain ⟨y, hy, rfl⟩ := List.mem_map.1 hrb
  obtain ⟨a1, a2, a3, a4, a5, a6, a7, a8⟩ := hI _ (List.getElem_mem hi)
  obtain ⟨c1, c2, c3⟩ := a7 y hy
  exact ⟨by unfold I64; simp only; omega, a4, a5, a1, a2, a6, c1, c2, c3⟩

/-! A map of what was seen. -/
def seenM (w : World) (m : Nat) (l : List (Int × Bool)) : Prop := MapL Tryz.prog 3 (Value.int .i64) (fun (_ : Int) (b : Bool) => Value.bool b) w m l
theorem zero_bool (w : World) : (zeroValue 4).run Tryz.prog w = .ok (.bool false) w := by kernel_rfl
theorem seen_lookup {w : World} {m : Nat} {l : List (Int × Bool)} (h : seenM w m l) {n : Int} (hn : I64 n) :
    (Instr.lookup 103 (.map (some m)) (.int .i64 n) false).run Tryz.prog w = .ok (.bool ((getA l n).getD false)) w := by
  obtain ⟨es, cl, h1, h2, h3, h4⟩ := h
  rcases map_find (ev := fun (_ : Int) (b : Bool) => Value.bool b) intLaw intInj h2 h3 h4 n (intKey hn) w with ⟨h5, -, h7⟩ | ⟨j, v, e0, h5, h6, -⟩
  · rw [h7]
    simp [Instr.lookup, run_underlying Tryz.underlying103, MapKept.run_getObj_map h1, intLaw.check w _ (intKey hn), h5, zero_bool, Result.andThen]
  · rw [h6]
    simp [Instr.lookup, run_underlying Tryz.underlying103, MapKept.run_getObj_map h1, intLaw.check w _ (intKey hn), h5, Result.andThen]

set_option maxHeartbeats 1600000 in
theorem agrees_no (q : Nat) (es : List En) (hel : es.length ≤ 200) (hew : ∀ y ∈ es, y.ok) (hew2 : ∀ y ∈ es, y.ls.length ≤ 20) (l : List Rw) (hlen : l.length ≤ 10000) (hne : l ≠ rowsL es) (v : Value) (w : World) (hL : Led w q es) (hN : IsRow 9 rwF w v l) :
    Calls Tryz.prog 17 #[.pointer (some ⟨q, 0, none⟩), v] w fun e w' => e = .returned (.bool false) ∧ Later w w' := by
  have hrl : (rowsL es).length ≤ 100000 := by
    have h1 := rowsL_bound es hew2
    omega
  have HR := Lib.hid (fun W (hl : Later w W) => rows_any q es hel hew hew2 W (hL.later hl))
  have HE := Lib.hid (fun u W (hl : Later w W) (hu : IsRow 9 rwF W u (rowsL es)) => rows_equal l (rowsL es) (by omega) hrl v u W (hN.later hl) hu)
  simp only [decide_eq_false hne] at HE
  obtain ⟨p, cp, rfl⟩ := hN.form
  clear hL hN hne hel hew hew2 hrl
  generalize l.length = L at *
  go_enter Tryz.func17, Tryz.ntmps17
  go_wp2_with (first | (go_at_call 16; go_must (refine (HR.out _ (by repeat (first | with_reducible exact Later.refl _ | with_reducible assumption | with_reducible refine Later.ofdrew ?_ | with_reducible refine Later.ofdrewN ?_ | with_reducible refine Later.setCell ?_ ?_ _ | with_reducible refine Later.alloc ?_ _ | with_reducible refine Later.drewN ?_ _ | with_reducible refine Later.drew ?_ | (with_reducible refine Later.trans ?_ (by assumption)) | (simp only [World.size_setCell, World.size_alloc, World.heap_drewN]; omega) | (simp; done) | (simp; omega)))).mono ?_; rintro e w1 ⟨v1, rfl, hR1, hb1⟩; have HE1 := Lib.hid (fun W (hl : Later w1 W) => HE.out v1 W (hb1.trans hl) (hR1.1.later hl)); obtain ⟨p1, cp1, rfl⟩ := hR1.1.form; clear hR1)) | (go_at_call 44; go_must (refine (HE1.out _ (by repeat (first | with_reducible exact Later.refl _ | with_reducible assumption | with_reducible refine Later.ofdrew ?_ | with_reducible refine Later.ofdrewN ?_ | with_reducible refine Later.setCell ?_ ?_ _ | with_reducible refine Later.alloc ?_ _ | with_reducible refine Later.drewN ?_ _ | with_reducible refine Later.drew ?_ | (with_reducible refine Later.trans ?_ (by assumption)) | (simp only [World.size_setCell, World.size_alloc, World.heap_drewN]; omega) | (simp; done) | (simp; omega)))).mono ?_; rintro e w2 ⟨rfl, hb2⟩)))
  go_ret
  exact ⟨rfl, by repeat (first | with_reducible exact Later.refl _ | with_reducible assumption | with_reducible refine Later.ofdrew ?_ | with_reducible refine Later.ofdrewN ?_ | with_reducible refine Later.setCell ?_ ?_ _ | with_reducible refine Later.alloc ?_ _ | with_reducible refine Later.drewN ?_ _ | with_reducible refine Later.drew ?_ | (with_reducible refine Later.trans ?_ (by assumption)) | (simp only [World.size_setCell, World.size_alloc, World.heap_drewN]; omega) | (simp; done) | (simp; omega))⟩

set_option maxHeartbeats 4000000 in
theorem agrees_yes (q : Nat) (es : List En) (hI : Inv es) (hel : es.length ≤ 200) (hew2 : ∀ y ∈ es, y.ls.length ≤ 20) (l : List Rw) (hlen : l.length ≤ 10000) (hl : l = rowsL es) (v : Value) (w : World) (hL : Led w q es) (hN : IsRow 9 rwF w v l) :
    Calls Tryz.prog 17 #[.pointer (some ⟨q, 0, none⟩), v] w fun e w' => e = .returned (.bool true) ∧ Later w w' := by
  have hmm := @run_makeMap Tryz.prog
  have hew : ∀ y ∈ es, y.ok := hI.word
  have hro : ∀ r ∈ l, r.ok := by rw [hl]; exact rows_ok hI.word (by omega)
  have HR := Lib.hid (fun W (hl : Later w W) => rows_any q es hel hew hew2 W (hL.later hl))
  have HE := Lib.hid (fun u W (hw : Later w W) (hu : IsRow 9 rwF W u (rowsL es)) => rows_equal l (rowsL es) (by omega) (by rw [← hl]; omega) v u W (hN.later hw) hu)
  simp only [decide_eq_true hl] at HE
  have HC := Lib.hid (fun W (hw : Later w W) => check_rows l hlen hro v W (hN.later hw))
  rw [show checkG (groups l) = 0 by rw [hl]; exact rows_right hI] at HC
  have HF := Lib.hid (fun (period : Int) W (hw : Later w W) => folds_any q es (by omega) hew hew2 l hlen (fun r hr => (hro r hr).2.2.2.2.2.2.2.2) period (fun party cur => by rw [hl]; exact fold_books party cur period es hI.ok) v W (hL.later hw) (hN.later hw))
  have HN := Lib.hid hN
  have HRO := Lib.hid hro
  obtain ⟨p, cp, rfl⟩ := hN.form
  clear hL hN hl hel hew hew2 hI hro
  obtain ⟨L, hLL⟩ : ∃ L, l.length = L := ⟨_, rfl⟩
  rw [hLL] at HN HE HC HF hlen ⊢
  have HL := Lib.hid hLL
  clear hLL
  go_enter Tryz.func17, Tryz.ntmps17
  go_upto_region 3 with (first | (go_at_call 16; go_must (refine (HR.out _ (by repeat (first | with_reducible exact Later.refl _ | with_reducible assumption | with_reducible refine Later.ofdrew ?_ | with_reducible refine Later.ofdrewN ?_ | with_reducible refine Later.setCell ?_ ?_ _ | with_reducible refine Later.alloc ?_ _ | with_reducible refine Later.drewN ?_ _ | with_reducible refine Later.drew ?_ | (with_reducible refine Later.trans ?_ (by assumption)) | (simp only [World.size_setCell, World.size_alloc, World.heap_drewN]; omega) | (simp; done) | (simp; omega)))).mono ?_; rintro e w1 ⟨v1, rfl, hR1, hb1⟩; have HE1 := Lib.hid (fun W (hl : Later w1 W) => HE.out v1 W (hb1.trans hl) (hR1.1.later hl)); obtain ⟨p1, cp1, rfl⟩ := hR1.1.form; clear hR1)) | (go_at_call 44; go_must (refine (HE1.out _ (by repeat (first | with_reducible exact Later.refl _ | with_reducible assumption | with_reducible refine Later.ofdrew ?_ | with_reducible refine Later.ofdrewN ?_ | with_reducible refine Later.setCell ?_ ?_ _ | with_reducible refine Later.alloc ?_ _ | with_reducible refine Later.drewN ?_ _ | with_reducible refine Later.drew ?_ | (with_reducible refine Later.trans ?_ (by assumption)) | (simp only [World.size_setCell, World.size_alloc, World.heap_drewN]; omega) | (simp; done) | (simp; omega)))).mono ?_; rintro e w2 ⟨rfl, hb2⟩)) | (go_at_call 6; go_must (refine (HC.out _ (by repeat (first | with_reducible exact Later.refl _ | with_reducible assumption | with_reducible refine Later.ofdrew ?_ | with_reducible refine Later.ofdrewN ?_ | with_reducible refine Later.setCell ?_ ?_ _ | with_reducible refine Later.alloc ?_ _ | with_reducible refine Later.drewN ?_ _ | with_reducible refine Later.drew ?_ | (with_reducible refine Later.trans ?_ (by assumption)) | (simp only [World.size_setCell, World.size_alloc, World.heap_drewN]; omega) | (simp; done) | (simp; omega)))).mono ?_; rintro e w3 ⟨rfl, hb3⟩)))
  refine wp_opaque (fun W8 hb8 => ?_)
  have hw8 : Later w W8 := Later.trans (by repeat (first | with_reducible exact Later.refl _ | with_reducible assumption | with_reducible refine Later.ofdrew ?_ | with_reducible refine Later.ofdrewN ?_ | with_reducible refine Later.setCell ?_ ?_ _ | with_reducible refine Later.alloc ?_ _ | with_reducible refine Later.drewN ?_ _ | with_reducible refine Later.drew ?_ | (with_reducible refine Later.trans ?_ (by assumption)) | (simp only [World.size_setCell, World.size_alloc, World.heap_drewN]; omega) | (simp; done) | (simp; omega))) hb8
  clear hb8 HE HC HR
  go_wp2
  have hM0 : seenM (W8.alloc (.map #[] 0)) W8.heap.size [] := MapL.made W8
  go_loopw [21] (fun s21 wr => ∃ j : Nat, j ≤ L ∧ s21 = .int .i64 j ∧ Hid (∃ ks, seenM wr W8.heap.size ks) ∧ Later w wr) (fun s21 _ => L - (intOf s21).toNat)
  case atStart => exact ⟨0, Nat.zero_le _, rfl, Lib.hid ⟨_, hM0⟩, hw8.alloc _⟩
  case round =>
    clear hM0
    obtain ⟨j, hj, rfl, hks, hlat⟩ := hrel
    obtain ⟨ks, hks⟩ := hks.out
    have HKS := Lib.hid hks
    clear hks
    by_cases hlt : j < L
    · have hjl : j < l.length := by rw [HL.out]; exact hlt
      obtain ⟨b, o, cp', hv, hb, g⟩ := HN.out.full (i := j) hjl
      rw [HL.out] at hv
      cases hv
      replace g := fun k (hk : k < 9) => ((bcell hlat).1 _ _ hb).trans (g k hk)
      have g0 := g 0 (by omega)
      have g1 := g 1 (by omega)
      have g2 := g 2 (by omega)
      have g3 := g 3 (by omega)
      have g4 := g 4 (by omega)
      have g5 := g 5 (by omega)
      have g6 := g 6 (by omega)
      have g7 := g 7 (by omega)
      have g8 := g 8 (by omega)
      simp only [rwF, Rw.nums, List.getD_cons_zero, List.getD_cons_succ, Nat.add_zero] at g0 g1 g2 g3 g4 g5 g6 g7 g8
      have hbz := Nat.lt_of_lt_of_le hb (Later.size hlat)
      have hper := (HRO.out _ (List.getElem_mem hjl)).2.2.1
      have HFJ := Lib.hid (fun W (hw : Later wr W) => HF.out (l[j]).per W (hlat.trans hw))
      have hsw := Later.size hw8
      clear g HN HRO HL HF
      generalize l[j] = X at *
      obtain ⟨x0, x1, x2, x3, x4, x5, x6, x7, x8⟩ := X
      simp only at g0 g1 g2 g3 g4 g5 g6 g7 g8 hper HFJ
      have HPER := Lib.hid hper
      clear hper
      go_upto_region 7 with (fail)
      refine wp_opaque (fun Wa hba => ?_)
      have HOa := Lib.hid (block_later (heap_alloc_new wr _) hba)
      have hbb := hba.un1
      obtain ⟨⟨za, da, fa⟩, -⟩ := own_of_block HOa.out
      have HKA := Lib.hid (fun W (hl : Later Wa W) => MapL.later HKS.out (hbb.trans hl))
      have hlk := seen_lookup (HKA.out Wa (Later.refl _)) HPER.out
      have hne : some wr.heap.size ≠ some W8.heap.size := fun e => by
        have := MapL.lt HKS.out
        have := Option.some.inj e
        omega
      have hne2 := Lib.hid hne
      clear hba HKS hne
      cases hsn : (getA ks x2).getD false
      all_goals
        rw [hsn] at hlk
        clear hsn
        go_upto_region 9 with (go_at_call 45; go_must (refine (HFJ.out _ (by repeat (first | with_reducible exact Later.refl _ | with_reducible assumption | with_reducible refine Later.ofdrew ?_ | with_reducible refine Later.ofdrewN ?_ | with_reducible refine Later.setCell ?_ ?_ _ | with_reducible refine Later.alloc ?_ _ | with_reducible refine Later.drewN ?_ _ | with_reducible refine Later.drew ?_ | (with_reducible refine Later.trans ?_ (by assumption)) | (simp only [World.size_setCell, World.size_alloc, World.heap_drewN]; omega) | (simp; done) | (simp; omega)))).mono ?_; rintro e w3 ⟨rfl, hb3⟩))
        refine wp_opaque (fun Wb hbw => ?_)
        have hWb : Later Wa Wb := Later.trans (by repeat (first | with_reducible exact Later.refl _ | with_reducible assumption | with_reducible refine Later.ofdrew ?_ | with_reducible refine Later.ofdrewN ?_ | with_reducible refine Later.setCell ?_ ?_ _ | with_reducible refine Later.alloc ?_ _ | with_reducible refine Later.drewN ?_ _ | with_reducible refine Later.drew ?_ | (with_reducible refine Later.trans ?_ (by assumption)) | (simp only [World.size_setCell, World.size_alloc, World.heap_drewN]; omega) | (simp; done) | (simp; omega))) hbw
        obtain ⟨⟨zb, db, fb⟩, -⟩ := own_of_block (block_later HOa.out hWb)
        clear hbw hlk
        go_wp2_with (refine wpList_put intLaw intInj Tryz.underlying103 (HKA.out _ (Later.trans hWb (by repeat (first | with_reducible exact Later.refl _ | with_reducible assumption | with_reducible refine Later.ofdrew ?_ | with_reducible refine Later.ofdrewN ?_ | with_reducible refine Later.setCell ?_ ?_ _ | with_reducible refine Later.alloc ?_ _ | with_reducible refine Later.drewN ?_ _ | with_reducible refine Later.drew ?_ | (with_reducible refine Later.trans ?_ (by assumption)) | (simp only [World.size_setCell, World.size_alloc, World.heap_drewN]; omega) | (simp; done) | (simp; omega))))) rfl _ _ _ rfl rfl x2 true rfl rfl (intKey HPER.out) ?_; intro w10 hm10 hg10; have HM10 := Lib.hid hm10; have hl10 : Later w w10 := Later.grown (hlat.trans (hbb.trans hWb)) hg10 (fun k e => by cases e; exact hsw); clear hm10 hg10)
        go_roundw
        case rel => exact ⟨j + 1, by omega, by go_num, Lib.hid ⟨_, HM10.out⟩, hl10⟩
        case measure => simp [intOf]; omega
    · clear HKS
      go_wp2
      go_ret
      exact ⟨rfl, hlat⟩
end Go.Proofs.YtckeaibamgkegaaGreatDoor
end
