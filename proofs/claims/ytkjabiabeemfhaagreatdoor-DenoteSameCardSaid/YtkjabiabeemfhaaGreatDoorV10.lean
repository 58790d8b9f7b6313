/- walks: chattelref01: Of -/
import Derived.Test.YtkjabiabeemfhaaGreatDoorV9
import Derived.Test.YtkjabiabeemfhaaGreatDoorV3
set_option linter.all false
set_option linter.all false
section
namespace Go.Proofs.YtkjabiabeemfhaaGreatDoor
open Go.RowKit
set_option maxRecDepth 100000
attribute [local go_sem] Oper.semAt_some
def dm (l : List Tm) (pre : List (Fin l.length)) : Nat := pre.foldl (fun d i => max d (l[i]).depth) 0
theorem dm_snoc (l : List Tm) (pre : List (Fin l.length)) (i : Fin l.length) : dm l (pre ++ [i]) = max (dm l pre) (l[i]).depth := by simp [dm]
theorem dm_all (x : Nd) (l : List Tm) : dm l (List.finRange l.length) + 1 = (Tm.node x l).depth := by
  have h1 : ∀ (l : List Tm), Tm.depth.depths l = l.foldr (fun t d => max t.depth d) 0 := by
    intro l
    induction l with
    | nil => rfl
    | cons t r ih => simp [Tm.depth.depths, ih]
  have h2 : dm l (List.finRange l.length) = ((List.finRange l.length).map (fun i => (l[i]).depth)).foldl max 0 := by rw [List.foldl_map]; rfl
  have h3 : (List.finRange l.length).map (fun i => (l[i]).depth) = l.map Tm.depth := by
    apply List.ext_getElem <;> simp
  have h4 : ∀ (r : List Nat) (a : Nat), r.foldl max a = max a (r.foldr max 0) := by
    intro r
    induction r with
    | nil => intro a; simp
    | cons b r ih => intro a; rw [List.foldl_cons, ih, List.foldr_cons]; omega
  have h5 : (Tm.node x l).depth = Tm.depth.depths l + 1 := rfl
  rw [h2, h3, h4, h5, h1, List.foldr_map]; omega
set_option maxHeartbeats 2000000 in
theorem deep_any (ts : List Nd) (hlen : ts.length ≤ 100000) : ∀ (T : Tm) (k : Nat) (v : Value) (w : World), TmAt ts k T → Shapes w → IsNodes w v ts →
    Calls Tryz.prog 123 #[v, .int .i64 k] w fun e w' => e = .returned (.int .i64 (T.depth : Int)) ∧ Later w w' := by
  intro T
  induction T using Tm.ind with
  | h x l ih =>
    intro k v w hT hS hN
    obtain ⟨p, cp, rfl⟩ := hN.form
    have HK := Lib.hid (fun W => kids_make p ts.length cp (k : Int) W)
    have hST := Lib.hid hS
    have hNT := Lib.hid hN
    have HT := Lib.hid hT
    have HIH := Lib.hid (fun (i : Fin l.length) (W : World) (hl : Later w W) => ih l[i] (List.getElem_mem _) (placeN k l i.1) (.slice p ts.length cp) W (placeN_at hT i.2) (hS.later hl) (hN.later hl))
    clear ih hS hN hT
    refine callsIn_wide.1 (callsIn_of_wp_marks (n := 9) Tryz.func123 rfl trivial ?_ rfl)
    simp only [Tryz.ntmps123, List.size_toArray, List.length_cons, List.length_nil, Nat.reduceAdd, Nat.reduceSub, Array.replicate_succ, Array.replicate_zero, List.push_toArray, List.append_toArray, List.nil_append, List.cons_append]
    gi_wp2_with ((first | (refine ⟨trivial, ?_⟩; gi_at_call 120) | (refine ⟨trivial, fun hh => (by cases hh), ?_⟩; gi_at_call 120)); go_must (refine (callsIn_wide.2 (HK.out _)).mono ?_; rintro e w1 ⟨rfl, rfl⟩))
    have hO := Lib.hid (Own.four (Later.refl ((((w.alloc (.cells #[.slice p ts.length cp] 22)).alloc (.cells #[.int .i64 0] 3)).alloc (.cells #[.slice p ts.length cp] 22)).alloc (.cells #[.int .i64 k] 3))))
    have hL := Lib.hid (((((Later.refl w).alloc (.cells #[.slice p ts.length cp] 22)).alloc (.cells #[.int .i64 0] 3)).alloc (.cells #[.slice p ts.length cp] 22)).alloc (.cells #[.int .i64 k] 3))
    obtain ⟨W0, hW0⟩ : ∃ W0, ((((w.alloc (.cells #[.slice p ts.length cp] 22)).alloc (.cells #[.int .i64 0] 3)).alloc (.cells #[.slice p ts.length cp] 22)).alloc (.cells #[.int .i64 k] 3)) = W0 := ⟨_, rfl⟩
    rw [hW0] at hO hL ⊢
    clear hW0
    obtain ⟨⟨z0, c0, -⟩, ⟨z1, c1, f1⟩, ⟨z2, c2, -⟩, ⟨z3, c3, -⟩, -⟩ := hO.out
    clear hO
    refine wpIn_rangeFunc_ownF rfl (by omega) (gf := 166) (lb := #[.pointer (some ⟨w.heap.size + 1 + 1 + 1, 0, none⟩), .pointer (some ⟨w.heap.size + 1 + 1, 0, none⟩)]) rfl trivial (enters_of Tryz.func166 (by kernel_rfl) rfl)
      (kids_stops ts hlen k x l HT.out 8 (w.heap.size + 1 + 1) (w.heap.size + 1 + 1 + 1) (.slice p ts.length cp) w W0 hST.out hNT.out hL.out (c2 0) (c3 0)) kb_t (kb_b (Below.size hL.out) (by simp; omega)) (Below.refl _ _) (fun _ => rfl)
      (fun pre W => (W.cell? ⟨w.heap.size + 1, 0, none⟩ = some (.int .i64 (dm l pre : Int)) ∧ W.frozen? ⟨w.heap.size + 1, 0, none⟩ = false ∧ W.cell? ⟨w.heap.size, 0, none⟩ = some (.slice p ts.length cp) ∧ W.cell? ⟨w.heap.size + 1 + 1, 0, none⟩ = some (.slice p ts.length cp)) ∧ Below w.heap.size w W)
      (fun _ _ _ => False)
      (OwnFrom.and (Own.from (fun s A B row hs hg hr => ⟨cell_kept hs.1 hg hr, (frozen_kept hs.1 hg hr).trans hs.2.1, cell_kept hs.2.2.1 hg hr, cell_kept hs.2.2.2 hg hr⟩) _) (ownFrom_below (Nat.le_refl _) (Below.size hL.out)))
      (fun _ _ _ _ _ hs _ _ => hs)
      ⟨⟨c1 0, f1 0 (by simp), c0 0, c2 0⟩, hL.out⟩
      (fun i => { tmps := #[.slice p ts.length cp, .int .i64 k, .pointer (some ⟨w.heap.size, 0, none⟩), undef, .int .i64 0, .pointer (some ⟨w.heap.size + 1, 0, none⟩), undef, .int .i64 (placeN k l i.1 : Int), .slice p ts.length cp, .int .i64 k, .func (.func 166) #[] #[.pointer (some ⟨w.heap.size + 1 + 1 + 1, 0, none⟩), .pointer (some ⟨w.heap.size + 1 + 1, 0, none⟩)], .int .i64 (i.1 : Int), .int .i64 (placeN k l i.1 : Int), undef, undef, undef, undef, undef, undef, undef], defers := [] }) ?assign ?body ?done ?stop
    case assign =>
      intro ll i W K hK
      gi_wp2
      exact hK
    case body =>
      rintro ll pre i W ⟨⟨hc, hf, ht, hu⟩, hB⟩ _
      have HI := Lib.hid (HIH.out i)
      clear HIH
      have hBl : Later w W := hB
      have hz1 := World.block_lt_of_cell? _ _ hc
      have hz0 := World.block_lt_of_cell? _ _ ht
      have hz2 := World.block_lt_of_cell? _ _ hu
      have hsz := Below.size hB
      have HS := Lib.hid (dm_snoc l pre i)
      clear hB c0 c1 c2 c3 f1 z0 z1 z2 z3 HT HK hST hNT
      gi_wp2
      refine wpIn_region_plan 5 (.one [0, 1, 2] 3 (.one [] 4 (.one [] 5 (.done [])))) (by kernel_rfl) (by kernel_rfl) (by rintro ⟨_, _, h⟩; exact h) (fun _ _ d _ _ h => by cases d <;> exact h) ?_
      repeat' (first
        | (refine plan_done (fun K hK => ?_); (first | (simp only [pick_cons, pick_nil, toList_some_append, List.getElem?_toArray, List.getElem?_cons_zero, List.getElem?_cons_succ]; repeat (go_big_quiet_step (fail))) | simp only [pick_nil]); refine wpQuiet_nil (hK _ ?_); clear hK K)
        | (refine plan_one (by rfl) (fun K hK => ?_); (first | (simp only [pick_cons, pick_nil, toList_some_append, List.getElem?_toArray, List.getElem?_cons_zero, List.getElem?_cons_succ]; repeat (go_big_quiet_step (fail))) | simp only [pick_nil]); refine wpQuiet_nil (hK _ ?_); clear hK K)
        | ((with_reducible refine at_list ?_); go_wp2_with ((go_at_call 123; go_must (refine (HI.out _ (by repeat (first | with_reducible exact Later.refl _ | with_reducible assumption | with_reducible refine Later.ofdrew ?_ | with_reducible refine Later.ofdrewN ?_ | with_reducible refine Later.setCell ?_ ?_ _ | with_reducible refine Later.alloc ?_ _ | with_reducible refine Later.drewN ?_ _ | with_reducible refine Later.drew ?_ | (with_reducible refine Later.trans ?_ (by assumption)) | (simp only [World.size_setCell, World.size_alloc, World.heap_drewN]; omega) | (simp; done) | (simp; omega)))).mono ?_; rintro e w2 ⟨rfl, hb2⟩; replace hb2 := Later.undrew hb2; have g2 := ((bcell hb2).1 _ _ hz1).trans hc; have f2 := ((bcell hb2).2 _ _ hz1).trans hf; have t2 := ((bcell hb2).1 _ _ hz0).trans ht; have u2 := ((bcell hb2).1 _ _ hz2).trans hu))); first | refine behind_store (t := 5) (by decide) ?_ | refine behind (by repeat (first | with_reducible exact Later.refl _ | with_reducible assumption | with_reducible refine Later.ofdrew ?_ | with_reducible refine Later.ofdrewN ?_ | with_reducible refine Later.alloc ?_ _ | with_reducible refine Later.drewN ?_ _ | with_reducible refine Later.drew ?_ | (with_reducible refine Later.trans ?_ (by assumption)))) ?_))
      have hm : (max (dm l pre : Int) (l[i].depth : Int)) = ((dm l (pre ++ [i]) : Nat) : Int) := by rw [HS.out]; omega
      refine ⟨(keepsOthers_later hb2).trans (KeepsOthers.setCell _ _ _), ⟨(Below.mono hb2 hsz).setCell (p := ⟨w.heap.size + 1, 0, none⟩) (by show w.heap.size ≤ w.heap.size + 1; omega) _, ?_⟩, ⟨?_, ?_, ?_, ?_⟩, (below_later hBl hsz hb2).setCell (p := ⟨w.heap.size + 1, 0, none⟩) (by show w.heap.size ≤ w.heap.size + 1; omega) _⟩
      · intro b hb j
        obtain rfl : b = w.heap.size + 1 + 1 := by simpa using hb
        exact (cell_other (by omega) _).trans ((bcell hb2).1 _ _ hz2)
      · rw [← hm]; exact World.cell?_setCell_same' _ _ _ (by rw [g2]; rfl)
      · rw [World.frozen?_setCell]; exact f2
      · exact (cell_other (by omega) _).trans t2
      · exact (cell_other (by omega) _).trans u2
    case done =>
      rintro D ys W hD rfl ⟨⟨hc, hf, ht, hu⟩, hB⟩ hK
      have hdl := dm_all x l
      have hdz := (Tm.node x l).depth_size
      have hle := HT.out.le
      obtain ⟨d, hd⟩ : ∃ d, dm l (List.finRange l.length) = d := ⟨_, rfl⟩
      rw [hd] at hc hdl
      have hdb : d ≤ 100000 := by omega
      have HD := Lib.hid hdl
      clear hdl hdz hle hd HT HIH HK hST hNT c0 c1 c2 c3 f1 z0 z1 z2 z3
      gi_wp2
      refine ⟨by simp, .inl ⟨_, _, rfl, run_takeDeferred hK, ?_⟩⟩
      exact ⟨_, results_tmp rfl _ _ _, by rw [← HD.out]; rfl, Below.trans hB (belowK_b (w := W0) (Below.size hL.out) W D _ _ hD hK rfl rfl)⟩
    case stop =>
      rintro D c pre W _ _ h _
      exact h.elim
end Go.Proofs.YtkjabiabeemfhaaGreatDoor
end
section
namespace Go.Proofs.YtkjabiabeemfhaaGreatDoor
open Go.RowKit
set_option maxRecDepth 100000
set_option maxHeartbeats 400000 in
theorem at_any (v : Value) (n L i : Nat) (w : World) (h : Row w v n L) (hL : L ≤ 100000) (hi : i ≤ 100000) :
    Calls Tryz.prog 104 #[v, .int .i64 i] w fun e w' => e = .returned (.int .i64 (bit n i)) ∧ w = w' := by
  by_cases hiL : i < L
  · obtain ⟨hn, ⟨rfl, rfl⟩ | ⟨b, cap, rfl, hb, hcap, hc⟩⟩ := h
    · omega
    · have hci := hc i hiL
      clear hc hn
      go_enter Tryz.func104, Tryz.ntmps104
      go_wp2
      go_ret
      exact ⟨rfl, rfl⟩
  · have h0 : bit n i = 0 := bit_high h.1 (by omega)
    obtain ⟨hn, ⟨rfl, rfl⟩ | ⟨b, cap, rfl, hb, hcap, hc⟩⟩ := h
    · clear hn
      go_enter Tryz.func104, Tryz.ntmps104
      go_wp2
      go_ret
      exact ⟨ret_int h0.symm, rfl⟩
    · clear hc hn
      go_enter Tryz.func104, Tryz.ntmps104
      go_wp2
      go_ret
      exact ⟨ret_int h0.symm, rfl⟩
set_option maxHeartbeats 800000 in
theorem order_any (v u : Value) (n m : Nat) (w : World) (h : Num w v n) (g : Num w u m) (hL : nlen n ≤ 100000) (hM : nlen m ≤ 100000) :
    Calls Tryz.prog 102 #[v, u] w fun e w' => e = .returned (.int .i64 (cmpN n m)) ∧ Later w w' := by
  by_cases hlt : nlen n < nlen m
  · obtain ⟨p, cp, rfl⟩ := h.form
    obtain ⟨q, cq, rfl⟩ := g.form
    have hr := cmpN_len hlt
    generalize nlen n = L at *
    generalize nlen m = M at *
    clear h g
    go_enter Tryz.func102, Tryz.ntmps102
    go_wp2
    go_ret
    exact ⟨ret_int hr.symm, by repeat (first | with_reducible exact Later.refl _ | with_reducible assumption | with_reducible refine Later.ofdrew ?_ | with_reducible refine Later.ofdrewN ?_ | with_reducible refine Later.setCell ?_ ?_ _ | with_reducible refine Later.alloc ?_ _ | with_reducible refine Later.drewN ?_ _ | with_reducible refine Later.drew ?_ | (with_reducible refine Later.trans ?_ (by assumption)) | (simp only [World.size_setCell, World.size_alloc, World.heap_drewN]; omega) | (simp; done) | (simp; omega))⟩
  by_cases hgt : nlen m < nlen n
  · obtain ⟨p, cp, rfl⟩ := h.form
    obtain ⟨q, cq, rfl⟩ := g.form
    have hr := cmpN_len' hgt
    generalize nlen n = L at *
    generalize nlen m = M at *
    clear h g
    go_enter Tryz.func102, Tryz.ntmps102
    go_wp2
    go_ret
    exact ⟨ret_int hr.symm, by repeat (first | with_reducible exact Later.refl _ | with_reducible assumption | with_reducible refine Later.ofdrew ?_ | with_reducible refine Later.ofdrewN ?_ | with_reducible refine Later.setCell ?_ ?_ _ | with_reducible refine Later.alloc ?_ _ | with_reducible refine Later.drewN ?_ _ | with_reducible refine Later.drew ?_ | (with_reducible refine Later.trans ?_ (by assumption)) | (simp only [World.size_setCell, World.size_alloc, World.heap_drewN]; omega) | (simp; done) | (simp; omega))⟩
  have he : nlen m = nlen n := by omega
  unfold Num at h g
  rw [he] at g hM
  clear hlt hgt he
  generalize nlen n = L at *
  by_cases h0 : L = 0
  · subst h0
    have hr : cmpN n m = 0 := by have := h.1; have := g.1; simp only [cmpN]; rw [if_neg (by omega), if_pos (by omega)]
    obtain ⟨p, cp, rfl⟩ := h.form
    obtain ⟨q, cq, rfl⟩ := g.form
    clear h g
    go_enter Tryz.func102, Tryz.ntmps102
    go_wp2
    refine wp_loop_rounds 1 ?_; rw [rounds_succ]; go_wp2
    go_ret
    exact ⟨ret_int hr.symm, by repeat (first | with_reducible exact Later.refl _ | with_reducible assumption | with_reducible refine Later.ofdrew ?_ | with_reducible refine Later.ofdrewN ?_ | with_reducible refine Later.setCell ?_ ?_ _ | with_reducible refine Later.alloc ?_ _ | with_reducible refine Later.drewN ?_ _ | with_reducible refine Later.drew ?_ | (with_reducible refine Later.trans ?_ (by assumption)) | (simp only [World.size_setCell, World.size_alloc, World.heap_drewN]; omega) | (simp; done) | (simp; omega))⟩
  · obtain ⟨b, cp, rfl, hb, hcp, hc⟩ := h.full (by omega)
    obtain ⟨b2, cq, rfl, hb2, hcq, hc2⟩ := g.full (by omega)
    have hn := h.1
    have hm := g.1
    clear h g
    go_enter Tryz.func102, Tryz.ntmps102
    go_wp2
    go_loopw [5] (fun i wr => ((∃ k : Nat, k < L ∧ i = .int .i64 k ∧ n / 2 ^ (k + 1) = m / 2 ^ (k + 1)) ∨ (i = .int .i64 (-1) ∧ n = m)) ∧ ∃ z, wr = w.drewN z) (fun i _ => (intOf i + 1).toNat)
    case atStart =>
      refine ⟨.inl ⟨L - 1, by omega, by go_num, ?_⟩, 0, rfl⟩
      rw [show L - 1 + 1 = L by omega, Nat.div_eq_of_lt hn, Nat.div_eq_of_lt hm]
    case round =>
      obtain ⟨⟨k, hk, rfl, hd⟩ | ⟨rfl, hd⟩, z, rfl⟩ := hrel
      · have hck := hc k hk
        have hck2 := hc2 k hk
        have HD : Hid (n / 2 ^ (k + 1) = m / 2 ^ (k + 1)) := Lib.hid hd
        clear hd hc hc2
        have hx1 := bit_cases n k
        have hy1 := bit_cases m k
        by_cases hbit : bit n k = bit m k
        · have hnx := div_bit HD.out hbit
          have hnx' : Hid (n / 2 ^ k = m / 2 ^ k) := Lib.hid hnx
          clear hnx HD hx1 hy1 hn hm
          generalize bit n k = x at *
          generalize bit m k = y at *
          subst hbit
          go_wp2
          go_quiet (fail)
          go_wp2
          go_roundw
          case rel =>
            refine ⟨?_, _, by first | rfl | (simp; rfl)⟩
            rcases Nat.eq_zero_or_pos k with rfl | hk0
            · exact .inr ⟨rfl, by simpa using hnx'.out⟩
            · refine .inl ⟨k - 1, by omega, by go_num, ?_⟩
              rw [show k - 1 + 1 = k by omega]; exact hnx'.out
          case measure => simp [intOf]
        · have hr := cmpN_bit HD.out hbit
          clear HD hn hm
          generalize bit n k = x at *
          generalize bit m k = y at *
          go_wp2
          go_quiet (fail)
          go_wp2
          go_quiet (fail)
          go_wp2
          go_ret
          exact ⟨ret_int (by omega), by repeat (first | with_reducible exact Later.refl _ | with_reducible assumption | with_reducible refine Later.ofdrew ?_ | with_reducible refine Later.ofdrewN ?_ | with_reducible refine Later.setCell ?_ ?_ _ | with_reducible refine Later.alloc ?_ _ | with_reducible refine Later.drewN ?_ _ | with_reducible refine Later.drew ?_ | (with_reducible refine Later.trans ?_ (by assumption)) | (simp only [World.size_setCell, World.size_alloc, World.heap_drewN]; omega) | (simp; done) | (simp; omega))⟩
      · have hr : cmpN n m = 0 := by simp [cmpN, hd]
        clear hd hc hc2 hn hm
        go_wp2
        go_ret
        exact ⟨ret_int hr.symm, by repeat (first | with_reducible exact Later.refl _ | with_reducible assumption | with_reducible refine Later.ofdrew ?_ | with_reducible refine Later.ofdrewN ?_ | with_reducible refine Later.setCell ?_ ?_ _ | with_reducible refine Later.alloc ?_ _ | with_reducible refine Later.drewN ?_ _ | with_reducible refine Later.drew ?_ | (with_reducible refine Later.trans ?_ (by assumption)) | (simp only [World.size_setCell, World.size_alloc, World.heap_drewN]; omega) | (simp; done) | (simp; omega))⟩
set_option maxHeartbeats 800000 in
theorem trim_own (v : Value) (n L : Nat) (w : World) (h : Row w v n L) (hL : L ≤ 100000) :
    Calls Tryz.prog 157 #[v] w fun e w' => ∃ u, e = .returned u ∧ Num w' u n ∧ w = w' ∧ u.ownBlock = v.ownBlock := by
  by_cases h0 : L = 0
  · subst h0
    have hn : n = 0 := by have := h.1; omega
    subst hn
    rcases h.2 with ⟨rfl, _⟩ | ⟨b, cap, rfl, hb, hcp, hc⟩
    · clear h
      go_enter Tryz.func157, Tryz.ntmps157
      go_wp2
      refine wp_loop_rounds 1 ?_; rw [rounds_succ]; go_wp2
      go_ret
      exact ⟨_, rfl, Num.nil _, rfl, rfl⟩
    · clear h hc
      go_enter Tryz.func157, Tryz.ntmps157
      go_wp2
      refine wp_loop_rounds 1 ?_; rw [rounds_succ]; go_wp2
      go_ret
      exact ⟨_, rfl, Num.nought hb, rfl, rfl⟩
  · obtain ⟨b, cp, rfl, hb, hcp, hc⟩ := h.full (by omega)
    have hn := h.1
    have hln := nlen_le hn
    have hll := lt_nlen n
    clear h
    go_enter Tryz.func157, Tryz.ntmps157
    go_wp2
    go_loopw [3] (fun i wr => ∃ k : Nat, k ≤ L ∧ i = .int .i64 k ∧ n < 2 ^ k ∧ wr = w) (fun i _ => (intOf i).toNat)
    case atStart => exact ⟨L, by omega, rfl, hn, rfl⟩
    case round =>
      obtain ⟨k, hk, rfl, hd, rfl⟩ := hrel
      rcases k with _ | k
      · have : n = 0 := by omega
        subst this
        clear hd hc hn hln hll
        go_wp2
        go_ret
        exact ⟨_, rfl, Num.nought hb, rfl, rfl⟩
      · have hck := hc k (by omega)
        by_cases hbit : bit n k = 0
        · rw [hbit] at hck
          have hnx : n < 2 ^ k := bit_top0 hd hbit
          have HN : Hid (n < 2 ^ k) := Lib.hid hnx
          clear hc hd hn hln hll hbit hnx
          go_wp2
          go_roundw
          case rel => exact ⟨k, by omega, by go_num, HN.out, by first | rfl | trivial⟩
          case measure => simp [intOf]
        · have hone : bit n k = 1 := (bit_cases n k).resolve_left hbit
          rw [hone] at hck
          have hlen : nlen n = k + 1 := bit_top1 hd hone
          have hcc : ∀ i, i < nlen n → wr.cell? ⟨b, i, none⟩ = some (.int .i64 (bit n i)) := fun i hi => hc i (by omega)
          have HC := Lib.hid hcc
          have HL : Hid (nlen n = k + 1) := Lib.hid hlen
          have HLL := Lib.hid hll
          clear hc hd hn hln hll hbit hone hcc hlen
          go_wp2
          go_ret
          refine ⟨_, rfl, ⟨HLL.out, .inr ⟨b, cp, ?_, hb, ?_, HC.out⟩⟩, rfl, rfl⟩
          · rw [HL.out]; rfl
          · rw [HL.out]; omega
theorem trim_any (v : Value) (n L : Nat) (w : World) (h : Row w v n L) (hL : L ≤ 100000) :
    Calls Tryz.prog 157 #[v] w fun e w' => ∃ u, e = .returned u ∧ Num w' u n ∧ w = w' :=
  (trim_own v n L w h hL).mono fun _ _ ⟨u, h1, h2, h3, _⟩ => ⟨u, h1, h2, h3⟩
end Go.Proofs.YtkjabiabeemfhaaGreatDoor
end
section
namespace Go.Proofs.YtkjabiabeemfhaaGreatDoor
open Go.RowKit
set_option maxRecDepth 100000
theorem own_next {w w1 : World} {base e n k : Nat} {v : Value} {x : Int} (h : w.ownsRow base e 1 v (k + 1) (bitsV n k ++ [.int .i64 x])) (hx : x = bit n k) (hg : w1 = w) :
    w1.ownsRow base e 1 v (k + 1) (bitsV n (k + 1)) := by
  subst hx; subst hg; rw [bitsV_succ]; exact h
end Go.Proofs.YtkjabiabeemfhaaGreatDoor
end
section
namespace Go.Proofs.YtkjabiabeemfhaaGreatDoor
open Go.RowKit
set_option maxRecDepth 100000
set_option maxHeartbeats 1600000 in
theorem minus_own (v u : Value) (a b L M : Nat) (w : World) (h : Row w v a L) (g : Row w u b M) (hL : L ≤ 90000) (hM : M ≤ 90000) (hab : b ≤ a) :
    Calls Tryz.prog 158 #[v, u] w fun e w' => ∃ r, e = .returned r ∧ Num w' r (a - b) ∧ Later w w' ∧ ∀ k, r.ownBlock = some k → w.heap.size ≤ k := by
  obtain ⟨i0, hi, hz0, hz1, hz2⟩ := info_parts intInfo
  obtain ⟨p, cp, rfl⟩ := h.form
  obtain ⟨q, cq, rfl⟩ := g.form
  go_enter Tryz.func158, Tryz.ntmps158
  go_wp2
  go_loopw [5, 6, 7] (fun s5 s6 s7 wr => ∃ k : Nat, k ≤ L ∧ s7 = .int .i64 k ∧ s6 = .int .i64 (bow a b k) ∧ wr.ownsRow w.heap.size 3 1 s5 k (bitsV (a - b) k) ∧ Later w wr)
    (fun _ _ s7 _ => L - (intOf s7).toNat)
  case atStart => exact ⟨0, by omega, rfl, by rw [bow_zero], World.ownsRow_nil _ _ _ _, Later.refl _⟩
  case round =>
    obtain ⟨k, hk, rfl, rfl, hown, hlat⟩ := hrel
    have H1 := h.later hlat
    have H2 := g.later hlat
    have hsz := Later.size hlat
    have hcs := bow_cases a b k
    by_cases hkL : k < L
    · obtain ⟨bb, cc, hv, hb, hcap, hcells⟩ := H1.full (by omega)
      cases hv
      have hcell := hcells k hkL
      have hcn := bow_next hab k
      have hcs' := bow_cases a b (k + 1)
      have hb1 := bit_cases a k
      have hb2 := bit_cases b k
      have hbs := bit_cases (a - b) k
      obtain ⟨x, hx⟩ : ∃ x, bit a k = x := ⟨_, rfl⟩
      obtain ⟨y, hy⟩ : ∃ y, bit b k = y := ⟨_, rfl⟩
      obtain ⟨c, hc⟩ : ∃ c, bow a b k = c := ⟨_, rfl⟩
      rw [hx] at hcn hb1 hcell; rw [hy] at hcn hb2
      rw [hc] at hcn hcs ⊢
      have HY := Lib.hid hy
      clear hx hy hc hcells H1 h g hab
      have x0 : 0 ≤ x := by omega
      have x1 : x ≤ 1 := by omega
      have y0 : 0 ≤ y := by omega
      have y1 : y ≤ 1 := by omega
      have c0 : 0 ≤ c := by omega
      have c1 : c ≤ 1 := by omega
      clear hcs hb1 hb2
      by_cases hneg : x - y - c < 0
      · have HT : Hid (x - y - c + 2 = bit (a - b) k ∧ (1 : Int) = bow a b (k + 1)) := Lib.hid (by generalize bit (a - b) k = d at *; generalize bow a b (k + 1) = c' at *; omega)
        clear hcn hcs' hbs
        go_wp2
        refine wp_region_plan 11 (.one [0, 1, 2, 3, 4, 5, 8] 6 (.done [7, 9, 10])) (by kernel_rfl) (by kernel_rfl) (fun _ _ d _ _ h => by cases d <;> exact h) ?_
        repeat' (first
          | (refine plan_done (fun K hK => ?_); (first | (simp only [pick_cons, pick_nil, toList_some_append, List.getElem?_toArray, List.getElem?_cons_zero, List.getElem?_cons_succ]; repeat (go_big_quiet_step (fail))) | simp only [pick_nil]); refine wpQuiet_nil (hK _ ?_); clear hK K)
          | (refine plan_one (by rfl) (fun K hK => ?_); (first | (simp only [pick_cons, pick_nil, toList_some_append, List.getElem?_toArray, List.getElem?_cons_zero, List.getElem?_cons_succ]; repeat (go_big_quiet_step (fail))) | simp only [pick_nil]); refine wpQuiet_nil (hK _ ?_); clear hK K)
          | ((with_reducible refine at_list ?_); go_wp2_with (go_at_call 104; refine (at_any _ _ _ _ _ (H2.later ((Later.refl _).drew)) (by omega) (by omega)).mono ?_; rw [HY.out]; rintro e w' ⟨rfl, rfl⟩); first | refine behind_store (t := 11) (by decide) ?_ | refine behind (by repeat (first | with_reducible exact Later.refl _ | with_reducible assumption | with_reducible refine Later.ofdrew ?_ | with_reducible refine Later.ofdrewN ?_ | with_reducible refine Later.alloc ?_ _ | with_reducible refine Later.drewN ?_ _ | with_reducible refine Later.drew ?_ | (with_reducible refine Later.trans ?_ (by assumption)))) ?_))
        go_wp2_with (at_builtin; refine wpList_append_own _ rfl _ _ 94 rfl w.heap.size 3 i0 (.int .i64 0) 1 8 Tryz.underlying94 hi hz0 hz1 hz2 rfl (by decide) _ _ _ rfl (hown.drew.alloc _) ⟨wr.heap.size, 0, none⟩ 1 1 [.int .i64 (x - y - c + 2)] rfl rfl ?a1 ?b1 ?c1 ?d1 ?e1 ?_)
        case a1 =>
          intro j u hj
          match j, hj with
          | 0, hj => simp at hj; subst hj; simp [Addr.add]
        case b1 => intro u hu; simp at hu; subst hu; rfl
        case c1 => unfold maxLen; omega
        case d1 => omega
        case e1 => simp; omega
        intro v' w1 hown' hgrow _
        have hlat' : Later w w1 := Later.grown ((hlat.alloc _).drew) hgrow (fun k hk => (hown.lt k hk).1)
        have R := own_next hown' HT.out.1 rfl
        have R1 := Lib.hid R
        have R2 := Lib.hid hlat'
        clear hown' hgrow hown hlat hlat' R H2 hsz
        go_wp2
        go_roundw
        case rel => exact ⟨k + 1, by omega, by go_num, by rw [← HT.out.2], R1.out, R2.out⟩
        case measure => simp [intOf]; omega
      · have HT : Hid (x - y - c = bit (a - b) k ∧ (0 : Int) = bow a b (k + 1)) := Lib.hid (by generalize bit (a - b) k = d at *; generalize bow a b (k + 1) = c' at *; omega)
        clear hcn hcs' hbs
        go_wp2
        refine wp_region_plan 11 (.one [0, 1, 2, 3, 4, 5, 8] 6 (.done [7, 9, 10])) (by kernel_rfl) (by kernel_rfl) (fun _ _ d _ _ h => by cases d <;> exact h) ?_
        repeat' (first
          | (refine plan_done (fun K hK => ?_); (first | (simp only [pick_cons, pick_nil, toList_some_append, List.getElem?_toArray, List.getElem?_cons_zero, List.getElem?_cons_succ]; repeat (go_big_quiet_step (fail))) | simp only [pick_nil]); refine wpQuiet_nil (hK _ ?_); clear hK K)
          | (refine plan_one (by rfl) (fun K hK => ?_); (first | (simp only [pick_cons, pick_nil, toList_some_append, List.getElem?_toArray, List.getElem?_cons_zero, List.getElem?_cons_succ]; repeat (go_big_quiet_step (fail))) | simp only [pick_nil]); refine wpQuiet_nil (hK _ ?_); clear hK K)
          | ((with_reducible refine at_list ?_); go_wp2_with (go_at_call 104; refine (at_any _ _ _ _ _ (H2.later ((Later.refl _).drew)) (by omega) (by omega)).mono ?_; rw [HY.out]; rintro e w' ⟨rfl, rfl⟩); first | refine behind_store (t := 11) (by decide) ?_ | refine behind (by repeat (first | with_reducible exact Later.refl _ | with_reducible assumption | with_reducible refine Later.ofdrew ?_ | with_reducible refine Later.ofdrewN ?_ | with_reducible refine Later.alloc ?_ _ | with_reducible refine Later.drewN ?_ _ | with_reducible refine Later.drew ?_ | (with_reducible refine Later.trans ?_ (by assumption)))) ?_))
        go_wp2_with (at_builtin; refine wpList_append_own _ rfl _ _ 94 rfl w.heap.size 3 i0 (.int .i64 0) 1 8 Tryz.underlying94 hi hz0 hz1 hz2 rfl (by decide) _ _ _ rfl (hown.drew.alloc _) ⟨wr.heap.size, 0, none⟩ 1 1 [.int .i64 (x - y - c)] rfl rfl ?a2 ?b2 ?c2 ?d2 ?e2 ?_)
        case a2 =>
          intro j u hj
          match j, hj with
          | 0, hj => simp at hj; subst hj; simp [Addr.add]
        case b2 => intro u hu; simp at hu; subst hu; rfl
        case c2 => unfold maxLen; omega
        case d2 => omega
        case e2 => simp; omega
        intro v' w1 hown' hgrow _
        have hlat' : Later w w1 := Later.grown ((hlat.alloc _).drew) hgrow (fun k hk => (hown.lt k hk).1)
        have R := own_next hown' HT.out.1 rfl
        have R1 := Lib.hid R
        have R2 := Lib.hid hlat'
        clear hown' hgrow hown hlat hlat' R H2 hsz
        go_wp2
        go_roundw
        case rel => exact ⟨k + 1, by omega, by go_num, by rw [← HT.out.2], R1.out, R2.out⟩
        case measure => simp [intOf]; omega
    · have hkk : k = L := by omega
      subst hkk
      have hlt : a - b < 2 ^ k := by have := h.1; omega
      have R := Row.of_own hown hlt
      have hlt := hown.lt
      clear h g H1 H2 hown hcs hab hk
      generalize bow a b k = c at *
      go_wp2_with (go_at_call 157; refine (trim_own _ _ _ _ R (by omega)).mono ?_; rintro e w' ⟨u, rfl, hnum, rfl, hob⟩)
      go_ret
      exact ⟨_, rfl, hnum, hlat, fun k hk => (hlt k (by rw [← hob]; exact hk)).1⟩
end Go.Proofs.YtkjabiabeemfhaaGreatDoor
end
section
namespace Go.Proofs.YtkjabiabeemfhaaGreatDoor
open Go.RowKit
set_option maxRecDepth 100000
def IsBig (w : World) (x : Value) (neg : Bool) (n : Nat) : Prop := ∃ v, x = .agg #[.bool neg, v] ∧ Num w v n
def IsZ (w : World) (x : Value) (z : Int) : Prop := IsBig w x (decide (z < 0)) z.natAbs
theorem IsBig.open {w : World} {x : Value} {neg : Bool} {n : Nat} (h : IsBig w x neg n) : ∃ p c, x = .agg #[.bool neg, .slice p (nlen n) c] ∧ Num w (.slice p (nlen n) c) n := by
  obtain ⟨v, rfl, hv⟩ := h
  obtain ⟨p, c, rfl⟩ := Row.form hv
  exact ⟨p, c, rfl, hv⟩
theorem IsZ.open {w : World} {x : Value} {z : Int} (h : IsZ w x z) : ∃ p c, x = .agg #[.bool (decide (z < 0)), .slice p (nlen z.natAbs) c] ∧ Num w (.slice p (nlen z.natAbs) c) z.natAbs := IsBig.open h
theorem IsBig.later {w w' : World} {x : Value} {s : Bool} {n : Nat} (h : IsBig w x s n) (hb : Later w w') : IsBig w' x s n := by
  obtain ⟨v, h1, h2⟩ := h; exact ⟨v, h1, h2.later hb⟩
theorem grown_cells {w1 w2 : World} {row : Option Nat} {k : Nat} {A : Array Value} (hg : w1.grownBy w2 row) (hk : k < w1.heap.size) (hr : row ≠ some k)
    (hc : ∀ i, w1.cell? ⟨k, i, none⟩ = A[i]?) (hf : ∀ i, i < A.size → w1.frozen? ⟨k, i, none⟩ = false) :
    (∀ i, w2.cell? ⟨k, i, none⟩ = A[i]?) ∧ (∀ i, i < A.size → w2.frozen? ⟨k, i, none⟩ = false) := by
  have hb := hg.block k hk (fun e => hr e.symm)
  exact ⟨fun i => (World.cell?_of_block (a := ⟨k, i, none⟩) hb).trans (hc i), fun i hi => (World.frozen?_of_block (a := ⟨k, i, none⟩) hb).trans (hf i hi)⟩
def OfRel (w wr : World) (m j : Nat) (neg : Bool) (v : Value) : Prop :=
  ((∀ i, wr.cell? ⟨w.heap.size, i, none⟩ = #[.bool false, .slice none 0 0][i]?) ∧ (∀ i, i < 2 → wr.frozen? ⟨w.heap.size, i, none⟩ = false)) ∧
  ((∀ i, wr.cell? ⟨w.heap.size + 1, i, none⟩ = #[.bool neg, v][i]?) ∧ (∀ i, i < 2 → wr.frozen? ⟨w.heap.size + 1, i, none⟩ = false)) ∧
  w.heap.size + 2 ≤ wr.heap.size ∧ wr.ownsRow (w.heap.size + 2) 3 1 v j (bitsV m j) ∧ Later w wr
theorem OfRel.next {w wr w1 w2 : World} {m j : Nat} {neg : Bool} {v v' : Value} {x : Int} (h : OfRel w wr m j neg v) (hx : x = bit m j) {o : Obj}
    (hown : w1.ownsRow (w.heap.size + 2) 3 1 v' (j + 1) (bitsV m j ++ [.int .i64 x])) (hg : (wr.alloc o).grownBy w1 v.ownBlock)
    (h2 : w2 = w1.setCell ⟨w.heap.size + 1, 1, none⟩ v') : OfRel w w2 m (j + 1) neg v' := by
  obtain ⟨⟨a1, a2⟩, ⟨a3, a4⟩, a5, a6, a7⟩ := h
  have hr : ∀ k, v.ownBlock = some k → w.heap.size + 2 ≤ k := fun k hk => (a6.lt k hk).1
  have hl1 : Later wr (wr.alloc o) := (Later.refl _).alloc _
  have hs1 := Later.size hl1
  obtain ⟨b1, b2⟩ := grown_cells (k := w.heap.size) hg (by omega) (fun e => by have := hr _ e; omega)
    (fun i => ((bcell hl1).1 _ i (by omega)).trans (a1 i)) (fun i hi => ((bcell hl1).2 _ i (by omega)).trans (a2 i hi))
  obtain ⟨b3, b4⟩ := grown_cells (k := w.heap.size + 1) hg (by omega) (fun e => by have := hr _ e; omega)
    (fun i => ((bcell hl1).1 _ i (by omega)).trans (a3 i)) (fun i hi => ((bcell hl1).2 _ i (by omega)).trans (a4 i hi))
  have hl2 : Later w w1 := Later.grown (a7.alloc _) hg (fun k hk => by have := hr k hk; omega)
  have hs2 := hg.size
  subst h2
  refine ⟨⟨fun i => set_far b1 v' (by omega) i, fun i hi => set_frozen (n := 2) (fun i hi => b2 i hi) v' i hi⟩, ⟨fun i => ?_, fun i hi => set_frozen (n := 2) (fun i hi => b4 i hi) v' i hi⟩, ?_, ?_, ?_⟩
  · rw [set_own b3 v' (by simp) i]; rfl
  · simp; omega
  · have := own_next hown hx rfl
    exact ownsRow_setCell_below this (by show w.heap.size + 1 < w.heap.size + 2; omega) _
  · exact hl2.setCell (by show w.heap.size ≤ w.heap.size + 1; omega) _
theorem own_form {w : World} {base t n : Nat} {v : Value} {xs : List Value} (h : w.ownsRow base t 1 v n xs) : ∃ p cap, v = .slice p n cap := by
  rcases h.2 with ⟨h1, h2⟩ | ⟨g, cap, cur, h1, _⟩
  · subst h2; exact ⟨_, _, h1⟩
  · exact ⟨_, _, h1⟩
set_option maxHeartbeats 1600000 in
theorem rof_pos (m : Nat) (w : World) (hm : m ≤ 9223372036854775807) :
    Calls Tryz.prog 61 #[.int .i64 m] w fun e w' => ∃ r, e = .returned r ∧ IsBig w' r false m ∧ Later w w' := by
  obtain ⟨i0, hi, hz0, hz1, hz2⟩ := info_parts intInfo
  have hneg : decide ((m : Int) < 0) = false := by simp
  have hmb : nlen m ≤ 63 := nlen_le (by omega)
  have h0 := fun B => own2 (w := w) (A := #[.bool false, .slice none 0 0]) (B := B) (ta := 123) (tb := 123) (Later.refl _)
  have H0 := Lib.hid h0
  clear h0
  go_enter Tryz.func61, Tryz.ntmps61
  go_wp2
  try rw [hneg]
  go_loopw [0] (fun s0 wr => ∃ j v, j ≤ nlen m ∧ s0 = .int .i64 ((m / 2 ^ j : Nat) : Int) ∧ OfRel w wr m j false v) (fun s0 _ => (intOf s0).toNat)
  case atStart =>
    obtain ⟨a1, a2, a3, a4, a5⟩ := H0.out #[.bool false, .slice none 0 0]
    exact ⟨0, _, by omega, by simp, ⟨a1, a2⟩, ⟨a3, a4⟩, by simp, World.ownsRow_nil _ _ _ _, ((Later.refl _).alloc _).alloc _⟩
  case round =>
    obtain ⟨j, v, hj, rfl, H⟩ := hrel
    obtain ⟨p, cp, rfl⟩ := own_form H.2.2.2.1
    have hc10 := H.2.1.1 0
    have hc11 := H.2.1.1 1
    have hsz := H.2.2.1
    have hown := H.2.2.2.1
    have hbit := bit_cases m j
    have HB : Hid (bit m j = ((m / 2 ^ j : Nat) : Int) % 2 ∧ m / 2 ^ (j + 1) = m / 2 ^ j / 2) := Lib.hid (by
      refine ⟨by unfold bit; omega, by rw [Nat.pow_succ, Nat.div_div_eq_div_mul]⟩)
    have HJ : Hid (m / 2 ^ j = 0 → j = nlen m) := Lib.hid (by
      intro hq
      have : m < 2 ^ j := by
        rcases Nat.div_eq_zero_iff.1 hq with h | h
        · have := Nat.pow_pos (show 0 < 2 by omega) (n := j); omega
        · exact h
      have := nlen_le this; omega)
    have HJ2 : Hid (m / 2 ^ j ≠ 0 → j + 1 ≤ nlen m) := Lib.hid (by
      intro hq
      refine le_nlen ?_
      apply Classical.byContradiction; intro hlt
      exact hq (Nat.div_eq_of_lt (by omega)))
    have hqb : m / 2 ^ j ≤ m := Nat.div_le_self _ _
    have hmx := Lib.hid hmb
    have H' := Lib.hid H
    clear hbit H hmb
    simp only [List.getElem?_toArray, List.getElem?_cons_zero, List.getElem?_cons_succ] at hc10 hc11
    obtain ⟨q, hq⟩ : ∃ q, m / 2 ^ j = q := ⟨_, rfl⟩
    rw [hq] at HB HJ HJ2 hqb ⊢
    clear hq
    by_cases hq0 : q = 0
    · subst hq0
      have HJ' := Lib.hid (HJ.out rfl)
      have hfz := H'.out.1.2 0 (by omega)
      have hfz1 := H'.out.1.2 1 (by omega)
      have hr0 := H'.out.1.1 0
      have hr1 := H'.out.1.1 1
      simp only [List.getElem?_toArray, List.getElem?_cons_zero, List.getElem?_cons_succ] at hr0 hr1
      have hE := set_own (k := 1) (set_own (k := 0) H'.out.1.1 (.bool false) (by simp)) (.slice p j cp) (by simp)
      have e0 := hE 0
      have e1 := hE 1
      simp at e0 e1
      have R := Lib.hid (Row.of_own (n := m) (ownsRow_setCell_below (ownsRow_setCell_below hown (a := ⟨w.heap.size, 0, none⟩) (by show w.heap.size < w.heap.size + 2; omega) (.bool false)) (a := ⟨w.heap.size, 1, none⟩) (by show w.heap.size < w.heap.size + 2; omega) (.slice p j cp)) (by rw [HJ'.out]; exact lt_nlen m))
      have hE0 := Lib.hid e0
      have hE1 := Lib.hid e1
      have hl := Lib.hid H'.out.2.2.2.2
      clear hown HJ HJ2 HB hE e0 e1
      go_wp2
      have e0 := hE0.out
      have e1 := hE1.out
      refine bodyPost_ret (v := .agg #[.bool false, .slice p j cp]) (by simp [results, Tryz.results61, go_sem, e0, e1]) rfl ⟨_, rfl, ⟨_, rfl, ?_⟩, ?_⟩
      · have := R.out
        rw [HJ'.out] at this ⊢
        exact this
      · exact (hl.out.setCell (by show w.heap.size ≤ w.heap.size; omega) _).setCell (by show w.heap.size ≤ w.heap.size; omega) _
    · have HJ' := Lib.hid (HJ2.out hq0)
      have hfz := H'.out.2.1.2 1 (by omega)
      have hq1 : 1 ≤ q := by omega
      clear HJ HJ2
      go_wp2_with (at_builtin; refine wpList_append_own _ rfl _ _ 94 rfl (w.heap.size + 2) 3 i0 (.int .i64 0) 1 8 Tryz.underlying94 hi hz0 hz1 hz2 rfl (by decide) _ _ _ rfl (hown.alloc _) ⟨wr.heap.size, 0, none⟩ 1 1 [.int .i64 ((q : Int) % 2)] rfl rfl ?a1 ?b1 ?c1 ?d1 ?e1 ?_)
      case a1 =>
        intro j u hj
        match j, hj with
        | 0, hj => simp at hj; subst hj; simp [Addr.add]
      case b1 => intro u hu; simp at hu; subst hu; rfl
      case c1 => unfold maxLen; have := hmx.out; have := HJ'.out; omega
      case d1 => have := hmx.out; have := HJ'.out; omega
      case e1 => simp; omega
      intro v' w1 hown' hgrow _
      obtain ⟨p', cp', rfl⟩ := own_form hown'
      have HN := fun w2 => OfRel.next (w2 := w2) H'.out HB.out.1.symm hown' hgrow
      have HN' := Lib.hid HN
      have hr : ∀ k, (Value.slice p j cp).ownBlock = some k → w.heap.size + 2 ≤ k := fun k hk => (hown.lt k hk).1
      have hl1 : Later wr (wr.alloc (.cells #[.int .i64 ((q : Int) % 2)] 3)) := (Later.refl _).alloc _
      obtain ⟨b3, b4⟩ := grown_cells (k := w.heap.size + 1) hgrow (by have := Later.size hl1; omega) (fun e => by have := hr _ e; omega)
        (fun i => ((bcell hl1).1 _ i (by omega)).trans (H'.out.2.1.1 i)) (fun i hi => ((bcell hl1).2 _ i (by omega)).trans (H'.out.2.1.2 i hi))
      have hs1 := hgrow.size
      have k1 := b3 1
      have k2 := b4 1 (by simp)
      simp only [List.getElem?_toArray, List.getElem?_cons_zero, List.getElem?_cons_succ] at k1
      clear HN hown' hgrow hown hr hl1 b3 b4 hc10 hc11 hfz hs1
      go_wp2
      go_roundw
      case rel => exact ⟨j + 1, _, HJ'.out, by rw [HB.out.2]; go_num, HN'.out _ rfl⟩
      case measure => simp [intOf]; omega
end Go.Proofs.YtkjabiabeemfhaaGreatDoor
end
