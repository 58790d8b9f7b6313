/- books at a pointer: New, Len, Seq, Reversed, Entry, Copy -/
import Derived.Test.YtckeaibamgkegaaGreatDoorQ8
set_option linter.all false
set_option linter.all false
section
/- books at a pointer: New, Len, Seq, Reversed, Entry, Copy -/
namespace Go.Proofs.YtckeaibamgkegaaGreatDoor
open Go.RowKit
set_option maxRecDepth 100000

/-- The block of a ledger. -/
def LedBk (w : World) (q : Nat) (v : Value) (m : Nat) : Prop := w.heap[q]? = some (.cells #[v, .map (some m)] 84 (0, 0))
def byM (w : World) (m : Nat) (l : List (Int × Int)) : Prop := MapL Tryz.prog 3 (Value.int .i64) (fun (_ : Int) (n : Int) => Value.int .i64 n) w m l
def EnRow (w : World) (v : Value) (es : List En) : Prop := ∃ xs : List (En × Value), xs.map (·.1) = es ∧ RowT 48 7 enF w v xs ∧ ∀ x ∈ xs, RowT 92 3 lnF w x.2 x.1.ls
/-- Books at a pointer. -/
def Led (w : World) (q : Nat) (es : List En) : Prop := ∃ v m, LedBk w q v m ∧ EnRow w v es ∧ byM w m (byL es)
theorem LedBk.later {w w' : World} {q m : Nat} {v : Value} (h : LedBk w q v m) (hb : Later w w') : LedBk w' q v m := (hb.block q (Array.getElem?_eq_some_iff.1 h).1).trans h
theorem LedBk.c0 {w : World} {q m : Nat} {v : Value} (h : LedBk w q v m) : w.cell? ⟨q, 0, none⟩ = some v := by unfold LedBk at h; simp [World.cell?, h]
theorem LedBk.c1 {w : World} {q m : Nat} {v : Value} (h : LedBk w q v m) : w.cell? ⟨q, 1, none⟩ = some (.map (some m)) := by unfold LedBk at h; simp [World.cell?, h]
theorem LedBk.lt {w : World} {q m : Nat} {v : Value} (h : LedBk w q v m) : q < w.heap.size := (Array.getElem?_eq_some_iff.1 h).1
theorem LedBk.own {w : World} {q m : Nat} {v : Value} (h : LedBk w q v m) : Own w [(q, #[v, .map (some m)])] := by
  refine Own.cons h.lt (fun i => ?_) (fun i hi => ?_) trivial
  · have h := h; unfold LedBk at h
    simp [World.cell?, h]
  · exact frozen_of_row w q i #[v, .map (some m)] 84 h
theorem EnRow.later {w w' : World} {v : Value} {es : List En} (h : EnRow w v es) (hb : Later w w') : EnRow w' v es := by
  obtain ⟨xs, h1, h2, h3⟩ := h
  exact ⟨xs, h1, h2.later hb, fun x hx => (h3 x hx).later hb⟩
theorem EnRow.grown {w w' : World} {v : Value} {es : List En} (h : EnRow w v es) {q : Nat} (hg : w.grownBy w' (some q)) (h41 : ∀ cs fr, w.heap[q]? ≠ some (.cells cs 92 fr)) (h34 : ∀ cs fr, w.heap[q]? ≠ some (.cells cs 48 fr)) : EnRow w' v es := by
  obtain ⟨xs, h1, h2, h3⟩ := h
  exact ⟨xs, h1, h2.grown hg h34, fun x hx => (h3 x hx).grown hg h41⟩
theorem Led.later {w w' : World} {q : Nat} {es : List En} (h : Led w q es) (hb : Later w w') : Led w' q es := by
  obtain ⟨v, m, h1, h2, h3⟩ := h
  exact ⟨v, m, h1.later hb, h2.later hb, MapL.later h3 hb⟩
theorem EnRow.entries {w : World} {v : Value} {es : List En} (h : EnRow w v es) : IsEntries w v es := by
  obtain ⟨xs, h1, h2, h3⟩ := h
  exact ⟨xs, h1, h2.1, fun x hx => (h3 x hx).1⟩
theorem ownsRow_low {w : World} {base base' size n : Nat} {e : TypeId} {v : Value} {xs : List Value} (h : w.ownsRow base e size v n xs) (hb : base' ≤ base) : w.ownsRow base' e size v n xs := by
  refine ⟨h.1, ?_⟩
  rcases h.2 with h | ⟨g, c, cur, h1, h2, h3⟩
  · exact .inl h
  · exact .inr ⟨g, c, cur, h1, Nat.le_trans hb h2, h3⟩
theorem EnRow.nil (w : World) : EnRow w (.slice none 0 0) [] := ⟨[], rfl, RowT.nil w, fun _ h => by cases h⟩
theorem intKey {n : Int} (h : I64 n) : keyOf Tryz.prog 3 (.int .i64 n) = some (.int .i64 n) := keyOf_int Tryz.underlying3 (WalkArith.wf_i64 h)
theorem intLaw : KL Tryz.prog 3 := int_law Tryz.underlying3
theorem intInj (x y : Int) (h : Value.int .i64 x = Value.int .i64 y) : x = y := by cases h; rfl
theorem zero_int (w : World) : (zeroValue 3).run Tryz.prog w = .ok (.int .i64 0) w := by kernel_rfl
theorem by_lookup {w : World} {m : Nat} {l : List (Int × Int)} (h : byM w m l) {n : Int} (hn : I64 n) :
    (Instr.lookup 81 (.map (some m)) (.int .i64 n) true).run Tryz.prog w = .ok (.tuple #[.int .i64 ((getA l n).getD 0), .bool (getA l n).isSome]) w := by
  have := map_lookup intLaw intInj Tryz.underlying81 h n (intKey hn) (zero_int w)
  rw [this]
  cases getA l n <;> rfl
theorem byM.clone {w : World} {m : Nat} {l : List (Int × Int)} (h : byM w m l) : ∃ mes clock, w.heap[m]? = some (.map mes clock) ∧ ∀ W : World, byM (W.alloc (.map mes clock)) W.heap.size l := by
  obtain ⟨es, cl, h1, h2, h3, h4⟩ := h
  exact ⟨es, cl, h1, fun W => ⟨es, cl, (MapKept.heap_alloc W _).1, h2, h3, h4⟩⟩
theorem byL_nil : byL [] = [] := rfl
theorem led_build0 (r : Option Nat) (w : World) : (Instr.build 84 #[(1, .map r)]).run Tryz.prog w = .ok (.agg #[.slice none 0 0, .map r]) w := by kernel_rfl
theorem led_build (p : Option Addr) (n c : Nat) (r : Option Nat) (w : World) : (Instr.build 84 #[(0, .slice p n c), (1, .map r)]).run Tryz.prog w = .ok (.agg #[.slice p n c, .map r]) w := by kernel_rfl

set_option maxHeartbeats 800000 in
theorem new_any (w : World) : Calls Tryz.prog 12 #[] w fun e w' => ∃ q, e = .returned (.pointer (some ⟨q, 0, none⟩)) ∧ w.heap.size ≤ q ∧ Led w' q [] ∧ Later w w' := by

  have hmm := @run_makeMap Tryz.prog
  go_enter Tryz.func12, Tryz.ntmps12
  go_wp2_with (refine wpList_built (led_build0 _ _) rfl rfl rfl ?_)
  go_ret
  refine ⟨w.heap.size + 1, rfl, by omega, ⟨_, w.heap.size, ?_, EnRow.nil _, (MapL.made w).later ((Later.refl _).alloc _)⟩, by repeat (first | with_reducible exact Later.refl _ | with_reducible assumption | with_reducible refine Later.ofdrew ?_ | with_reducible refine Later.ofdrewN ?_ | with_reducible refine Later.setCell ?_ ?_ _ | with_reducible refine Later.alloc ?_ _ | with_reducible refine Later.drewN ?_ _ | with_reducible refine Later.drew ?_ | (with_reducible refine Later.trans ?_ (by assumption)) | (simp only [World.size_setCell, World.size_alloc, World.heap_drewN]; omega) | (simp; done) | (simp; omega))⟩
  have := heap_alloc_new (w.alloc (.map #[] 0)) (.cells #[.slice none 0 0, .map (some w.heap.size)] 84)
  rw [World.size_alloc] at this
  exact this


set_option maxHeartbeats 1600000 in
theorem len_any (q : Nat) (es : List En) (hlen : es.length ≤ 100000) (w : World) (hL : Led w q es) : Calls Tryz.prog 42 #[.pointer (some ⟨q, 0, none⟩)] w fun e w' => e = .returned (.int .i64 es.length) ∧ Later w w' := by
  obtain ⟨v, m, hbk, hrow, hby⟩ := hL
  have c0 := hbk.c0
  have c1 := hbk.c1
  have zq := hbk.lt
  obtain ⟨p, cp, rfl⟩ := hrow.entries.form
  clear hbk hrow hby c1
  go_enter Tryz.func42, Tryz.ntmps42
  go_wp2
  go_ret
  exact ⟨rfl, by repeat (first | with_reducible exact Later.refl _ | with_reducible assumption | with_reducible refine Later.ofdrew ?_ | with_reducible refine Later.ofdrewN ?_ | with_reducible refine Later.setCell ?_ ?_ _ | with_reducible refine Later.alloc ?_ _ | with_reducible refine Later.drewN ?_ _ | with_reducible refine Later.drew ?_ | (with_reducible refine Later.trans ?_ (by assumption)) | (simp only [World.size_setCell, World.size_alloc, World.heap_drewN]; omega) | (simp; done) | (simp; omega))⟩

set_option maxHeartbeats 1600000 in
theorem seq_any (q : Nat) (es : List En) (hlen : es.length ≤ 100000) (w : World) (hL : Led w q es) : Calls Tryz.prog 38 #[.pointer (some ⟨q, 0, none⟩)] w fun e w' => e = .returned (.int .i64 (lastSeq es)) ∧ Later w w' := by
  obtain ⟨v, m, hbk, hrow, hby⟩ := hL
  have c0 := hbk.c0
  have c1 := hbk.c1
  have zq := hbk.lt
  have HLn := Lib.hid (fun W (hl : Later w W) => len_any q es hlen W (Led.later ⟨v, m, hbk, hrow, hby⟩ hl))
  have hE := hrow.entries
  obtain ⟨p, cp, rfl⟩ := hE.form
  clear hbk hrow hby c1
  obtain ⟨s, hs⟩ : ∃ s, lastSeq es = s := ⟨_, rfl⟩
  rw [hs]
  obtain ⟨L, hL⟩ : ∃ L, es.length = L := ⟨_, rfl⟩
  rcases Nat.eq_zero_or_pos es.length with h0 | h0
  · have he : es = [] := List.eq_nil_of_length_eq_zero h0
    subst he
    have hs2 : s = 0 := by rw [← hs]; rfl
    subst hs2
    clear hs hE hL
    go_enter Tryz.func38, Tryz.ntmps38
    go_wp2_with (go_at_call 42; go_must (refine (HLn.out _ (by repeat (first | with_reducible exact Later.refl _ | with_reducible assumption | with_reducible refine Later.ofdrew ?_ | with_reducible refine Later.ofdrewN ?_ | with_reducible refine Later.setCell ?_ ?_ _ | with_reducible refine Later.alloc ?_ _ | with_reducible refine Later.drewN ?_ _ | with_reducible refine Later.drew ?_ | (with_reducible refine Later.trans ?_ (by assumption)) | (simp only [World.size_setCell, World.size_alloc, World.heap_drewN]; omega) | (simp; done) | (simp; omega)))).mono ?_; rintro e w2 ⟨rfl, hb2⟩))
    go_ret
    exact ⟨rfl, by repeat (first | with_reducible exact Later.refl _ | with_reducible assumption | with_reducible refine Later.ofdrew ?_ | with_reducible refine Later.ofdrewN ?_ | with_reducible refine Later.setCell ?_ ?_ _ | with_reducible refine Later.alloc ?_ _ | with_reducible refine Later.drewN ?_ _ | with_reducible refine Later.drew ?_ | (with_reducible refine Later.trans ?_ (by assumption)) | (simp only [World.size_setCell, World.size_alloc, World.heap_drewN]; omega) | (simp; done) | (simp; omega))⟩
  · obtain ⟨b, o, cap, u, hv, hb, hu, g⟩ := hE.full (i := es.length - 1) (by omega)
    have g3 := g 3 (by omega)
    have hls : (es[es.length - 1]).seq = s := by
      rw [← hs]
      unfold lastSeq
      have h1 : es ≠ [] := fun e => by subst e; simp at h0
      rw [List.getLast?_eq_some_getLast h1]
      simp only [List.getLast_eq_getElem]
    replace g3 : w.cell? ⟨b, o + (es.length - 1) * 7 + 3, none⟩ = some (.int .i64 s) := by rw [g3]; simp only [enF, hls]
    rw [hL] at hv h0 g3 hlen HLn c0
    have HI : Hid (L = (L - 1) + 1) := Lib.hid (by omega)
    obtain ⟨K, hK⟩ : ∃ K, L - 1 = K := ⟨_, rfl⟩
    have hLK : L = K + 1 := by omega
    subst hLK
    rw [hK] at g3
    cases hv
    clear hu g hs hls hE hL hK HI h0
    have hi : IntKind.i64.wrap ((K : Int) + 1 - 1) = K := by rw [Int.add_sub_cancel]; exact IntWalk.i64_in _ (by omega)
    go_enter Tryz.func38, Tryz.ntmps38
    go_wp2_with (go_at_call 42; go_must (refine (HLn.out _ (by repeat (first | with_reducible exact Later.refl _ | with_reducible assumption | with_reducible refine Later.ofdrew ?_ | with_reducible refine Later.ofdrewN ?_ | with_reducible refine Later.setCell ?_ ?_ _ | with_reducible refine Later.alloc ?_ _ | with_reducible refine Later.drewN ?_ _ | with_reducible refine Later.drew ?_ | (with_reducible refine Later.trans ?_ (by assumption)) | (simp only [World.size_setCell, World.size_alloc, World.heap_drewN]; omega) | (simp; done) | (simp; omega)))).mono ?_; rintro e w2 ⟨rfl, hb2⟩; have c02 := ((bcell hb2).1 _ _ zq).trans c0; replace g3 := ((bcell hb2).1 _ _ hb).trans g3; clear c0))
    go_ret
    exact ⟨rfl, by repeat (first | with_reducible exact Later.refl _ | with_reducible assumption | with_reducible refine Later.ofdrew ?_ | with_reducible refine Later.ofdrewN ?_ | with_reducible refine Later.setCell ?_ ?_ _ | with_reducible refine Later.alloc ?_ _ | with_reducible refine Later.drewN ?_ _ | with_reducible refine Later.drew ?_ | (with_reducible refine Later.trans ?_ (by assumption)) | (simp only [World.size_setCell, World.size_alloc, World.heap_drewN]; omega) | (simp; done) | (simp; omega))⟩

theorem en_zero (w : World) : (Instr.build 48 #[]).run Tryz.prog w = .ok (.agg #[.int .i64 0, .int .i64 0, .int .i64 0, .int .i64 0, .int .i64 0, .int .i64 0, .slice none 0 0]) w := by kernel_rfl

set_option maxHeartbeats 1600000 in
theorem entry_none (n : Int) (q : Nat) (es : List En) (hlen : es.length ≤ 100000) (w : World) (hL : Led w q es) (hn : n < 0 ∨ (es.length : Int) ≤ n) : Calls Tryz.prog 64 #[.pointer (some ⟨q, 0, none⟩), .int .i64 n] w fun e w' => e = .returned (.tuple #[.agg #[.int .i64 0, .int .i64 0, .int .i64 0, .int .i64 0, .int .i64 0, .int .i64 0, .slice none 0 0], .int .i64 16]) ∧ Later w w' := by
  obtain ⟨v, m, hbk, hrow, hby⟩ := hL
  have c0 := hbk.c0
  have c1 := hbk.c1
  have zq := hbk.lt
  obtain ⟨p, cp, rfl⟩ := hrow.entries.form
  clear hrow hby c1
  generalize es.length = L at *
  by_cases h0 : n < 0
  · clear hn
    go_enter Tryz.func64, Tryz.ntmps64
    go_upto_region 1 with (fail)
    refine wp_opaque (fun w0 hb0 => ?_)
    obtain ⟨⟨z1, d1, f1⟩, -⟩ := Own.one hb0
    have hb1 := hb0.un1
    clear hb0
    go_wp2_with (refine wpList_built (en_zero _) rfl rfl rfl ?_)
    exact bodyPost_ret (v := .tuple #[.agg #[.int .i64 0, .int .i64 0, .int .i64 0, .int .i64 0, .int .i64 0, .int .i64 0, .slice none 0 0], .int .i64 16]) (by simp [results, Tryz.results64, go_sem, d1, z1]) rfl ⟨rfl, by repeat (first | with_reducible exact Later.refl _ | with_reducible assumption | with_reducible refine Later.ofdrew ?_ | with_reducible refine Later.ofdrewN ?_ | with_reducible refine Later.setCell ?_ ?_ _ | with_reducible refine Later.alloc ?_ _ | with_reducible refine Later.drewN ?_ _ | with_reducible refine Later.drew ?_ | (with_reducible refine Later.trans ?_ (by assumption)) | (simp only [World.size_setCell, World.size_alloc, World.heap_drewN]; omega) | (simp; done) | (simp; omega))⟩
  · have h1 : (L : Int) ≤ n := by omega
    clear hn
    have HK := Lib.hid (fun W (hl : Later w W) => (hbk.later hl).c0)
    clear hbk c0
    go_enter Tryz.func64, Tryz.ntmps64
    go_upto_region 1 with (fail)
    refine wp_opaque (fun w0 hb0 => ?_)
    obtain ⟨⟨z1, d1, f1⟩, -⟩ := Own.one hb0
    have hb1 := hb0.un1
    have c0 := HK.out _ hb1
    clear hb0
    go_wp2_with (refine wpList_built (en_zero _) rfl rfl rfl ?_)
    exact bodyPost_ret (v := .tuple #[.agg #[.int .i64 0, .int .i64 0, .int .i64 0, .int .i64 0, .int .i64 0, .int .i64 0, .slice none 0 0], .int .i64 16]) (by simp [results, Tryz.results64, go_sem, d1, z1]) rfl ⟨rfl, by repeat (first | with_reducible exact Later.refl _ | with_reducible assumption | with_reducible refine Later.ofdrew ?_ | with_reducible refine Later.ofdrewN ?_ | with_reducible refine Later.setCell ?_ ?_ _ | with_reducible refine Later.alloc ?_ _ | with_reducible refine Later.drewN ?_ _ | with_reducible refine Later.drew ?_ | (with_reducible refine Later.trans ?_ (by assumption)) | (simp only [World.size_setCell, World.size_alloc, World.heap_drewN]; omega) | (simp; done) | (simp; omega))⟩

set_option maxHeartbeats 1600000 in
theorem entry_any (n : Nat) (x : En) (q : Nat) (es : List En) (hlen : es.length ≤ 100000) (w : World) (hL : Led w q es) (hx : es[n]? = some x) (hxl : x.ls.length ≤ 100000) : Calls Tryz.prog 64 #[.pointer (some ⟨q, 0, none⟩), .int .i64 n] w fun e w' => ∃ v', e = .returned (.tuple #[.agg #[.int .i64 x.con, .int .i64 x.day, .int .i64 x.cur, .int .i64 x.seq, .int .i64 x.per, .int .i64 x.ref, v'], .int .i64 0]) ∧ RowT 92 3 lnF w' v' x.ls ∧ Mine w 92 3 w' v' x.ls.length (x.ls.flatMap lnCs) ∧ Later w w' := by
  obtain ⟨v, m, hbk, hrow, hby⟩ := hL
  have c0 := hbk.c0
  have c1 := hbk.c1
  have zq := hbk.lt
  obtain ⟨hnl, hx⟩ := List.getElem?_eq_some_iff.1 hx
  obtain ⟨b, o, cap, u, hv, hb, hu, g⟩ := hrow.entries.full (i := n) hnl
  rw [hx] at hu g
  clear hx
  have HCL := Lib.hid (fun W (hl : Later w W) => IsLines.clone hxl (IsRow.later hu hl))
  have hzz := hu
  obtain ⟨up, uc, rfl⟩ := hu.form
  obtain ⟨con, day, cur, seq, per, ref, ls⟩ := x
  have HG := Lib.hid (fun W (hl : Later w W) j (hj : j < 7) => ((bcell hl).1 _ _ hb).trans (g j hj))
  have HK := Lib.hid (fun W (hl : Later w W) => (hbk.later hl).c0)
  subst hv
  clear hbk c0 c1 g hrow hby hzz
  simp only at HCL hxl ⊢
  generalize es.length = L at *
  go_enter Tryz.func64, Tryz.ntmps64
  go_upto_region 1 with (fail)
  refine wp_opaque (fun w0 hb0 => ?_)
  have hO := Own.one hb0
  have hO0 := hO
  obtain ⟨⟨z1, d1, f1⟩, -⟩ := hO0
  have hb1 := hb0.un1
  clear hb0
  have c0 := HK.out _ hb1
  have g0 := HG.out _ hb1 0 (by omega)
  have g1 := HG.out _ hb1 1 (by omega)
  have g2 := HG.out _ hb1 2 (by omega)
  have g3 := HG.out _ hb1 3 (by omega)
  have g4 := HG.out _ hb1 4 (by omega)
  have g5 := HG.out _ hb1 5 (by omega)
  have g6 := HG.out _ hb1 6 (by omega)
  simp only [enF, Nat.add_zero] at g0 g1 g2 g3 g4 g5 g6
  have hbz := Nat.lt_of_lt_of_le hb (Later.size hb1)
  go_wp2_with (go_at_call 41; go_must (refine (HCL.out _ (by repeat (first | with_reducible exact Later.refl _ | with_reducible assumption | with_reducible refine Later.ofdrew ?_ | with_reducible refine Later.ofdrewN ?_ | with_reducible refine Later.setCell ?_ ?_ _ | with_reducible refine Later.alloc ?_ _ | with_reducible refine Later.drewN ?_ _ | with_reducible refine Later.drew ?_ | (with_reducible refine Later.trans ?_ (by assumption)) | (simp only [World.size_setCell, World.size_alloc, World.heap_drewN]; omega) | (simp; done) | (simp; omega)))).mono ?_; rintro e w2 ⟨v2, rfl, hR2, hM2, hb2⟩; obtain ⟨p2, cp2, rfl⟩ := hR2.1.form; have z0 := z1; clear z1 d1 f1; obtain ⟨⟨z1, d1, f1⟩, -⟩ := hO.later hb2.un1; obtain ⟨⟨z2, d2, f2⟩, -⟩ := Own.one hb2))
  have hM3 := hM2.1
  rw [World.size_alloc] at hM3
  clear HCL HG HK hO hR2 f1 f2
  refine bodyPost_ret (v := .tuple #[.agg #[.int .i64 con, .int .i64 day, .int .i64 cur, .int .i64 seq, .int .i64 per, .int .i64 ref, .slice p2 ls.length cp2], .int .i64 0]) (by simp [results, Tryz.results64, go_sem, d1, d2, z1]) rfl ?_
  have hMF : ∀ {W : World}, World.ownsRow W (w0.heap.size + 1) 92 3 (.slice p2 ls.length cp2) ls.length (ls.flatMap lnCs) → Later w W → RowT 92 3 lnF W (.slice p2 ls.length cp2) ls ∧ Mine w 92 3 W (.slice p2 ls.length cp2) ls.length (ls.flatMap lnCs) ∧ Later w W := fun h1 h2 => by
    have h3 : Mine w 92 3 _ (.slice p2 ls.length cp2) ls.length (ls.flatMap lnCs) := ⟨ownsRow_low h1 (by omega), h2⟩
    exact ⟨(h3.rowT lnCs lnCs_len lnCs_cell (by decide)).1, h3, h2⟩
  refine ⟨_, rfl, hMF ?_ (by repeat (first | with_reducible exact Later.refl _ | with_reducible assumption | with_reducible refine Later.ofdrew ?_ | with_reducible refine Later.ofdrewN ?_ | with_reducible refine Later.setCell ?_ ?_ _ | with_reducible refine Later.alloc ?_ _ | with_reducible refine Later.drewN ?_ _ | with_reducible refine Later.drew ?_ | (with_reducible refine Later.trans ?_ (by assumption)) | (simp only [World.size_setCell, World.size_alloc, World.heap_drewN]; omega) | (simp; done) | (simp; omega)))⟩
  repeat (refine ownsRow_setCell_below ?_ (by simp only; omega) _)
  exact hM3

/-- A copy that a call made. -/
def CopyAt (w0 w : World) (q : Nat) (es : List En) : Prop := ∃ v m, ∃ xs : List (En × Value), LedBk w q v m ∧ w0.heap.size ≤ q ∧ w0.heap.size ≤ m ∧ xs.map (·.1) = es ∧ Mine w0 48 7 w v xs.length (xs.flatMap enCs) ∧ (∀ x ∈ xs, RowT 92 3 lnF w x.2 x.1.ls) ∧ byM w m (byL es)
theorem CopyAt.led {w0 w : World} {q : Nat} {es : List En} (h : CopyAt w0 w q es) : Led w q es := by
  obtain ⟨v, m, xs, h1, _, _, h2, h3, h4, h5⟩ := h
  exact ⟨v, m, h1, ⟨xs, h2, (h3.rowT enCs enCs_len enCs_cell (by decide)).1, h4⟩, h5⟩
theorem CopyAt.later {w0 w w' : World} {q : Nat} {es : List En} (h : CopyAt w0 w q es) (hb : Later w w') : CopyAt w0 w' q es := by
  obtain ⟨v, m, xs, h1, a, b, h2, h3, h4, h5⟩ := h
  exact ⟨v, m, xs, h1.later hb, a, b, h2, h3.later hb, fun x hx => (h4 x hx).later hb, MapL.later h5 hb⟩

set_option maxHeartbeats 1600000 in
theorem copy_any (q : Nat) (es : List En) (hlen : es.length ≤ 100000) (w : World) (hL : Led w q es) : Calls Tryz.prog 39 #[.pointer (some ⟨q, 0, none⟩)] w fun e w' => ∃ q', e = .returned (.pointer (some ⟨q', 0, none⟩)) ∧ CopyAt w w' q' es ∧ Later w w' := by
  obtain ⟨v, m, hbk, hrow, hby⟩ := hL
  have c0 := hbk.c0
  have c1 := hbk.c1
  have zq := hbk.lt
  obtain ⟨xs, hxs, hT, hLs⟩ := hrow
  have hxl : xs.length ≤ 100000 := by rw [← hxs, List.length_map] at hlen; exact hlen
  have HCE := Lib.hid (fun W (hl : Later w W) => entries_clone xs hxl (fun x hx => enF_one x (let ⟨p, c, h⟩ := (hLs x hx).1.form; ⟨p, _, c, h⟩)) v W (hT.1.later hl))
  obtain ⟨mes, clock, hm1, hm2⟩ := byM.clone hby
  have HMC := Lib.hid (fun W (hl : Later w W) => map_clone m mes clock W ((hl.block m (Array.getElem?_eq_some_iff.1 hm1).1).trans hm1))
  have HM2 := Lib.hid hm2
  have HLS := Lib.hid hLs
  have HK := Lib.hid (fun W (hl : Later w W) => hbk.later hl)
  obtain ⟨p, cp, rfl⟩ := hT.1.form
  clear hm1 hm2 hby hT hLs hbk
  go_enter Tryz.func39, Tryz.ntmps39
  go_upto_region 3 with (fail)
  refine wp_region_plan 13 (.two [0, 5] 1 (.two [2, 3] 4 (.one [] 6 (.one [7, 8] 9 (.one [10] 11 (.done [12])))) 6 (.one [7, 8] 4 (.one [] 9 (.one [10] 11 (.done [12]))))) 6 (.one [7, 8] 1 (.one [2, 3] 4 (.one [] 9 (.one [10] 11 (.done [12])))))) (by kernel_rfl) (by kernel_rfl) (fun _ _ d _ _ h => by cases d <;> exact h) ?_
  repeat' (first
    | (refine plan_done (fun K hK => ?_); (first | (simp only [pick_cons, pick_nil, toList_some_append, List.getElem?_toArray, List.getElem?_cons_zero, List.getElem?_cons_succ]; repeat (go_big_quiet_step (fail))) | simp only [pick_nil]); refine wpQuiet_nil (hK _ ?_); clear hK K)
    | (refine plan_one (by rfl) (fun K hK => ?_); (first | (simp only [pick_cons, pick_nil, toList_some_append, List.getElem?_toArray, List.getElem?_cons_zero, List.getElem?_cons_succ]; repeat (go_big_quiet_step (fail))) | simp only [pick_nil]); refine wpQuiet_nil (hK _ ?_); clear hK K)
    | (refine plan_two (by rfl) (by rfl) (fun K hK => ?_); (first | (simp only [pick_cons, pick_nil, toList_some_append, List.getElem?_toArray, List.getElem?_cons_zero, List.getElem?_cons_succ]; repeat (go_big_quiet_step (fail))) | simp only [pick_nil]); refine wpQuiet_nil (hK _ ?_); clear hK K; refine ⟨?_, ?_⟩)
    | ((with_reducible refine at_list ?_); go_wp2_with (first | (go_at_call 61; go_must (refine (HCE.out _ (by repeat (first | with_reducible exact Later.refl _ | with_reducible assumption | with_reducible refine Later.ofdrew ?_ | with_reducible refine Later.ofdrewN ?_ | with_reducible refine Later.setCell ?_ ?_ _ | with_reducible refine Later.alloc ?_ _ | with_reducible refine Later.drewN ?_ _ | with_reducible refine Later.drew ?_ | (with_reducible refine Later.trans ?_ (by assumption)) | (simp only [World.size_setCell, World.size_alloc, World.heap_drewN]; omega) | (simp; done) | (simp; omega)))).mono ?_; rintro e w2 ⟨v2, rfl, hM2⟩; have hb2 := hM2.lat; obtain ⟨p2, cp2, rfl⟩ := hM2.form; have c1 := (HK.out w2 (by repeat (first | with_reducible exact Later.refl _ | with_reducible assumption | with_reducible refine Later.ofdrew ?_ | with_reducible refine Later.ofdrewN ?_ | with_reducible refine Later.setCell ?_ ?_ _ | with_reducible refine Later.alloc ?_ _ | with_reducible refine Later.drewN ?_ _ | with_reducible refine Later.drew ?_ | (with_reducible refine Later.trans ?_ (by assumption)) | (simp only [World.size_setCell, World.size_alloc, World.heap_drewN]; omega) | (simp; done) | (simp; omega)))).c1)) | (go_at_call 62; go_must (refine (HMC.out _ (by repeat (first | with_reducible exact Later.refl _ | with_reducible assumption | with_reducible refine Later.ofdrew ?_ | with_reducible refine Later.ofdrewN ?_ | with_reducible refine Later.setCell ?_ ?_ _ | with_reducible refine Later.alloc ?_ _ | with_reducible refine Later.drewN ?_ _ | with_reducible refine Later.drew ?_ | (with_reducible refine Later.trans ?_ (by assumption)) | (simp only [World.size_setCell, World.size_alloc, World.heap_drewN]; omega) | (simp; done) | (simp; omega)))).mono ?_; rintro e w3 ⟨rfl, rfl⟩)) | refine wpList_built (led_build _ _ _ _ _) rfl rfl rfl ?_); first | refine behind_store (t := 13) (by decide) ?_ | refine behind (by repeat (first | with_reducible exact Later.refl _ | with_reducible assumption | with_reducible refine Later.ofdrew ?_ | with_reducible refine Later.ofdrewN ?_ | with_reducible refine Later.alloc ?_ _ | with_reducible refine Later.drewN ?_ _ | with_reducible refine Later.drew ?_ | (with_reducible refine Later.trans ?_ (by assumption)))) ?_))
  all_goals
    go_wp2
    go_ret
    have hl0 : Later w w2 := by repeat (first | with_reducible exact Later.refl _ | with_reducible assumption | with_reducible refine Later.ofdrew ?_ | with_reducible refine Later.ofdrewN ?_ | with_reducible refine Later.setCell ?_ ?_ _ | with_reducible refine Later.alloc ?_ _ | with_reducible refine Later.drewN ?_ _ | with_reducible refine Later.drew ?_ | (with_reducible refine Later.trans ?_ (by assumption)) | (simp only [World.size_setCell, World.size_alloc, World.heap_drewN]; omega) | (simp; done) | (simp; omega))
    have hM3 : Mine w 48 7 w2 (.slice p2 xs.length cp2) xs.length (xs.flatMap enCs) := ⟨hM2.1, hl0⟩
    have hl1 : Later w2 ((w2.alloc (.map mes clock)).alloc (.cells #[.slice p2 xs.length cp2, .map (some w2.heap.size)] 84)) := by repeat (first | with_reducible exact Later.refl _ | with_reducible assumption | with_reducible refine Later.ofdrew ?_ | with_reducible refine Later.ofdrewN ?_ | with_reducible refine Later.setCell ?_ ?_ _ | with_reducible refine Later.alloc ?_ _ | with_reducible refine Later.drewN ?_ _ | with_reducible refine Later.drew ?_ | (with_reducible refine Later.trans ?_ (by assumption)) | (simp only [World.size_setCell, World.size_alloc, World.heap_drewN]; omega) | (simp; done) | (simp; omega))
    refine ⟨_, rfl, ⟨_, w2.heap.size, xs, ?_, ?_, Later.size hl0, hxs, hM3.later hl1, fun x hx => (HLS.out x hx).later (hl0.trans hl1), MapL.later (HM2.out w2) (by repeat (first | with_reducible exact Later.refl _ | with_reducible assumption | with_reducible refine Later.ofdrew ?_ | with_reducible refine Later.ofdrewN ?_ | with_reducible refine Later.setCell ?_ ?_ _ | with_reducible refine Later.alloc ?_ _ | with_reducible refine Later.drewN ?_ _ | with_reducible refine Later.drew ?_ | (with_reducible refine Later.trans ?_ (by assumption)) | (simp only [World.size_setCell, World.size_alloc, World.heap_drewN]; omega) | (simp; done) | (simp; omega)))⟩, hl0.trans hl1⟩
    · have := heap_alloc_new (w2.alloc (.map mes clock)) (.cells #[.slice p2 xs.length cp2, .map (some w2.heap.size)] 84)
      rw [World.size_alloc] at this
      exact this
    · have := Later.size hl0
      omega
end Go.Proofs.YtckeaibamgkegaaGreatDoor
end
