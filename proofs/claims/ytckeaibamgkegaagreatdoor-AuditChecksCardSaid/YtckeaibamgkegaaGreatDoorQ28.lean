/- audit: Fold, the ledger's sums, folds, Agrees -/
import Derived.Test.YtckeaibamgkegaaGreatDoorQ26
import Derived.Test.YtckeaibamgkegaaGreatDoorQ22
set_option linter.all false
set_option linter.all false
section
/- audit: Fold, the ledger's sums, folds, Agrees -/
namespace Go.Proofs.YtckeaibamgkegaaGreatDoor
open Go.RowKit
set_option maxRecDepth 100000

set_option maxHeartbeats 1600000 in
theorem fold_any (party cur period : Int) (l : List Rw) (hlen : l.length ≤ 10000) (hwd : ∀ r ∈ l, I64 r.amt) (v : Value) (w : World) (hN : IsRow 9 rwF w v l) :
    Calls Tryz.prog 8 #[v, .int .i64 party, .int .i64 cur, .int .i64 period] w fun e w' => e = .returned (.tuple #[.int .i64 (fitN (sumI ((l.filter (foldB party cur period)).map (·.amt)))), .int .i64 (fitE (sumI ((l.filter (foldB party cur period)).map (·.amt))))]) ∧ Later w w' := by
  have hmf : ∀ (fn : Fn) (first cap : Array Value) (w : World), (Instr.makeFunc fn first cap).run Tryz.prog w = .ok (.func fn first cap) w := fun _ _ _ _ => rfl
  have HS := Lib.hid (fun (B1 B2 B3 : Nat) W (hl : Later w W) h1 h2 h3 => sum_fold B1 B2 B3 party cur period l hlen hwd v W (hN.later hl) h1 h2 h3)
  obtain ⟨p, cp, rfl⟩ := hN.form
  clear hN
  generalize fitN (sumI ((l.filter (foldB party cur period)).map (·.amt))) = n at *
  generalize fitE (sumI ((l.filter (foldB party cur period)).map (·.amt))) = e at *
  generalize l.length = L at *
  go_enter Tryz.func8, Tryz.ntmps8
  go_upto_region 1 with (fail)
  refine wp_opaque (fun W8 hb8 => ?_)
  have hO := Own.three hb8
  have hb9 := hb8.un1.un1.un1
  obtain ⟨⟨z1, d1, f1⟩, ⟨z2, d2, f2⟩, ⟨z3, d3, f3⟩, -⟩ := hO
  have HS8 := Lib.hid (HS.out _ _ _ W8 hb9 (d1 0) (d2 0) (d3 0))
  clear HS hb8
  go_wp2_with (go_at_call 24; go_must (refine HS8.out.mono ?_; rintro e w6 ⟨rfl, hb6⟩))
  go_ret2
  exact ⟨rfl, by repeat (first | with_reducible exact Later.refl _ | with_reducible assumption | with_reducible refine Later.ofdrew ?_ | with_reducible refine Later.ofdrewN ?_ | with_reducible refine Later.setCell ?_ ?_ _ | with_reducible refine Later.alloc ?_ _ | with_reducible refine Later.drewN ?_ _ | with_reducible refine Later.drew ?_ | (with_reducible refine Later.trans ?_ (by assumption)) | (simp only [World.size_setCell, World.size_alloc, World.heap_drewN]; omega) | (simp; done) | (simp; omega))⟩





/-! What books have of a period. -/
def inB2 (cur period : Int) (x : En) : Bool := decide (x.cur = cur ∧ x.per = period)
def inPB (party cur period : Int) (x : En) (y : Ln) : Bool := decide (y.p = party) && inB2 cur period x
def inPE (party cur period : Int) (x : En) : List Int := (x.ls.filter (inPB party cur period x)).map (·.a)
def inPL (party cur period : Int) (es : List En) : List Int := es.flatMap (inPE party cur period)

set_option maxHeartbeats 1600000 in
theorem inper1_any (con day cur sq pr ref : Int) (u : Value) (B1 B2 : Nat) (c p : Int) (w : World) (h1 : w.cell? ⟨B1, 0, none⟩ = some (.int .i64 c)) (h2 : w.cell? ⟨B2, 0, none⟩ = some (.int .i64 p)) :
    Calls Tryz.prog 84 #[.agg #[.int .i64 con, .int .i64 day, .int .i64 cur, .int .i64 sq, .int .i64 pr, .int .i64 ref, u], .pointer (some ⟨B1, 0, none⟩), .pointer (some ⟨B2, 0, none⟩)] w fun e w' => e = .returned (.bool (decide (cur = c ∧ pr = p))) ∧ Later w w' := by
  have H1 := Lib.hid (fun W (hl : Later w W) => ((bcell hl).1 _ _ (World.block_lt_of_cell? _ _ h1)).trans h1)
  have H2 := Lib.hid (fun W (hl : Later w W) => ((bcell hl).1 _ _ (World.block_lt_of_cell? _ _ h2)).trans h2)
  clear h1 h2
  by_cases e1 : cur = c
  · by_cases e2 : pr = p
    · skip
      have hr : decide (cur = c ∧ pr = p) = true := by simp [*]
      rw [hr]
      clear hr
      go_enter Tryz.func84, Tryz.ntmps84
      go_upto_region 1 with (fail)
      refine wp_opaque (fun W8 hb8 => ?_)
      obtain ⟨⟨z8, d8, f8⟩, -⟩ := Own.one hb8
      have hb9 := hb8.un1
      have c1 := H1.out W8 hb9
      have c2 := H2.out W8 hb9
      clear hb8
      go_wp2
      go_ret
      exact ⟨rfl, by repeat (first | with_reducible exact Later.refl _ | with_reducible assumption | with_reducible refine Later.ofdrew ?_ | with_reducible refine Later.ofdrewN ?_ | with_reducible refine Later.setCell ?_ ?_ _ | with_reducible refine Later.alloc ?_ _ | with_reducible refine Later.drewN ?_ _ | with_reducible refine Later.drew ?_ | (with_reducible refine Later.trans ?_ (by assumption)) | (simp only [World.size_setCell, World.size_alloc, World.heap_drewN]; omega) | (simp; done) | (simp; omega))⟩
    · have e2b : (pr == p) = false := by simpa using e2
      have hr : decide (cur = c ∧ pr = p) = false := by simp [*]
      rw [hr]
      clear hr
      go_enter Tryz.func84, Tryz.ntmps84
      go_upto_region 1 with (fail)
      refine wp_opaque (fun W8 hb8 => ?_)
      obtain ⟨⟨z8, d8, f8⟩, -⟩ := Own.one hb8
      have hb9 := hb8.un1
      have c1 := H1.out W8 hb9
      have c2 := H2.out W8 hb9
      clear hb8
      go_wp2
      go_ret
      exact ⟨rfl, by repeat (first | with_reducible exact Later.refl _ | with_reducible assumption | with_reducible refine Later.ofdrew ?_ | with_reducible refine Later.ofdrewN ?_ | with_reducible refine Later.setCell ?_ ?_ _ | with_reducible refine Later.alloc ?_ _ | with_reducible refine Later.drewN ?_ _ | with_reducible refine Later.drew ?_ | (with_reducible refine Later.trans ?_ (by assumption)) | (simp only [World.size_setCell, World.size_alloc, World.heap_drewN]; omega) | (simp; done) | (simp; omega))⟩
  · have e1b : (cur == c) = false := by simpa using e1
    have hr : decide (cur = c ∧ pr = p) = false := by simp [*]
    rw [hr]
    clear hr
    go_enter Tryz.func84, Tryz.ntmps84
    go_upto_region 1 with (fail)
    refine wp_opaque (fun W8 hb8 => ?_)
    obtain ⟨⟨z8, d8, f8⟩, -⟩ := Own.one hb8
    have hb9 := hb8.un1
    have c1 := H1.out W8 hb9
    have c2 := H2.out W8 hb9
    clear hb8
    go_wp2
    go_ret
    exact ⟨rfl, by repeat (first | with_reducible exact Later.refl _ | with_reducible assumption | with_reducible refine Later.ofdrew ?_ | with_reducible refine Later.ofdrewN ?_ | with_reducible refine Later.setCell ?_ ?_ _ | with_reducible refine Later.alloc ?_ _ | with_reducible refine Later.drewN ?_ _ | with_reducible refine Later.drew ?_ | (with_reducible refine Later.trans ?_ (by assumption)) | (simp only [World.size_setCell, World.size_alloc, World.heap_drewN]; omega) | (simp; done) | (simp; omega))⟩

set_option maxHeartbeats 4000000 in
theorem sumled_any (q : Nat) (es : List En) (hel : es.length ≤ 500) (hew : ∀ y ∈ es, y.ok) (hew2 : ∀ y ∈ es, y.ls.length ≤ 20) (B1 B2 : Nat) (party cur period : Int) (w : World) (hL : Led w q es) (h1 : w.cell? ⟨B1, 0, none⟩ = some (.int .i64 cur)) (h2 : w.cell? ⟨B2, 0, none⟩ = some (.int .i64 period)) :
    Calls Tryz.prog 83 #[.pointer (some ⟨q, 0, none⟩), .int .i64 party, .func (.func 84) #[] #[.pointer (some ⟨B1, 0, none⟩), .pointer (some ⟨B2, 0, none⟩)]] w fun e w' => e = .returned (.tuple #[.int .i64 (fitN (sumI (inPL party cur period es))), .int .i64 (fitE (sumI (inPL party cur period es)))]) ∧ Later w w' := by
  have HCL := Lib.hid (fun (x : En) (u : Value) W (hl : Later w W) => inper1_any x.con x.day x.cur x.seq x.per x.ref u B1 B2 cur period W (((bcell hl).1 _ _ (World.block_lt_of_cell? _ _ h1)).trans h1) (((bcell hl).1 _ _ (World.block_lt_of_cell? _ _ h2)).trans h2))
  obtain ⟨v, m, hbk, hrow, hby⟩ := hL
  have c0 := hbk.c0
  have zq := hbk.lt
  have HE := Lib.hid hrow.entries
  obtain ⟨p, cp, rfl⟩ := hrow.entries.form
  clear hbk hrow hby h1 h2
  have hbd : ∀ k, k ≤ es.length → (inPL party cur period (es.take k)).length ≤ 20 * k := by
    intro k
    induction k with
    | zero => intro _; simp [inPL]
    | succ k ih =>
      intro hk
      have e : es.take (k + 1) = es.take k ++ [es[k]] := by rw [List.take_add_one, List.getElem?_eq_getElem (by omega), Option.toList_some]
      have h1 := ih (by omega)
      have h2 : (inPE party cur period es[k]).length ≤ 20 := by
        unfold inPE; rw [List.length_map]
        exact Nat.le_trans (List.length_filter_le _ _) (hew2 _ (List.getElem_mem _))
      unfold inPL at h1 ⊢
      rw [e, List.flatMap_append, List.flatMap_singleton, List.length_append]
      omega
  have hS : ∀ (zs : List Int), zs = inPL party cur period es → ∀ (u : Value) (W : World), IsInts W u zs → Calls Tryz.prog 54 #[u] W fun e w' => e = .returned (.tuple #[.int .i64 (fitN (sumI zs)), .int .i64 (fitE (sumI zs))]) ∧ Later W w' := by
    rintro zs rfl u W hu
    refine sum_any _ ?_ ?_ u W hu
    · intro x hx
      obtain ⟨y, hy, hx⟩ := List.mem_flatMap.1 hx
      obtain ⟨z, hz, rfl⟩ := List.mem_map.1 hx
      exact ((hew y hy).2.2.2.2.2.2.1 z ((List.mem_filter.1 hz).1)).2.2
    · have := hbd es.length (Nat.le_refl _)
      rw [List.take_length] at this
      omega
  have HS := Lib.hid hS
  have HBD := Lib.hid hbd
  have HEW := Lib.hid hew2
  clear hS hew hbd hew2
  obtain ⟨L, hLL⟩ : ∃ L, es.length = L := ⟨_, rfl⟩
  rw [hLL] at c0 hel HE HBD
  have HL := Lib.hid hLL
  clear hLL
  obtain ⟨s1, hs1⟩ : ∃ s, fitN (sumI (inPL party cur period es)) = s := ⟨_, rfl⟩
  obtain ⟨s2, hs2⟩ : ∃ s, fitE (sumI (inPL party cur period es)) = s := ⟨_, rfl⟩
  rw [hs1, hs2]
  have hs1' := Lib.hid hs1
  have hs2' := Lib.hid hs2
  clear hs1 hs2
  go_enter Tryz.func83, Tryz.ntmps83
  go_wp2
  go_loopw [8, 20] (fun s8 s20 wr => ∃ j : Nat, j ≤ L ∧ s20 = .int .i64 j ∧ ∃ k, k ≤ 20 * j ∧ Mine w 3 1 wr s8 k ((inPL party cur period (es.take j)).map (Value.int .i64))) (fun _ s20 _ => L - (intOf s20).toNat)
  case atStart => exact ⟨0, Nat.zero_le _, rfl, 0, Nat.zero_le _, by simpa [inPL] using Mine.nil (Later.refl _)⟩
  case round =>
    obtain ⟨j, hj, rfl, k, hk, hM⟩ := hrel
    have hlat := hM.lat
    by_cases hlt : j < L
    · have hjl : j < es.length := by rw [HL.out]; exact hlt
      obtain ⟨b, o, cp', u, hv, hb, hu, g⟩ := HE.out.full (i := j) hjl
      rw [HL.out] at hv
      cases hv
      replace g := fun k (hk : k < 7) => ((bcell hlat).1 _ _ hb).trans (g k hk)
      have g0 := g 0 (by omega)
      have g1 := g 1 (by omega)
      have g2 := g 2 (by omega)
      have g3 := g 3 (by omega)
      have g4 := g 4 (by omega)
      have g5 := g 5 (by omega)
      have g6 := g 6 (by omega)
      simp only [enF, Nat.add_zero] at g0 g1 g2 g3 g4 g5 g6
      have hbz := Nat.lt_of_lt_of_le hb (Later.size hlat)
      have HU := Lib.hid hu
      have HCW := Lib.hid (fun W (hl : Later w W) => HCL.out es[j] u W hl)
      have HT : Hid (inPL party cur period (es.take (j + 1)) = inPL party cur period (es.take j) ++ inPE party cur period es[j]) := Lib.hid (by
        unfold inPL
        rw [List.take_add_one, List.getElem?_eq_getElem hjl, Option.toList_some, List.flatMap_append, List.flatMap_singleton])
      have hn20 := HEW.out _ (List.getElem_mem hjl)
      obtain ⟨pu, cu, rfl⟩ := IsRow.form hu
      have HM := Lib.hid hM
      obtain ⟨p8, cp8, rfl⟩ := hM.form
      clear g hu hM HS
      generalize es[j] = x at *
      obtain ⟨con, day, xc, sq, pr, ref, ls⟩ := x
      try simp only at g0 g1 g2 g3 g4 g5 g6 HU HCW hn20
      obtain ⟨cb, hcb⟩ : ∃ c, decide (xc = cur ∧ pr = period) = c := ⟨_, rfl⟩
      rw [hcb] at HCW
      have hPB : Hid (∀ y, inPB party cur period ⟨con, day, xc, sq, pr, ref, ls⟩ y = (decide (y.p = party) && cb)) := Lib.hid (fun y => by unfold inPB inB2; rw [hcb])
      clear hcb
      obtain ⟨n, hn⟩ : ∃ n, ls.length = n := ⟨_, rfl⟩
      rw [hn] at g6 hn20 HCW
      have HN := Lib.hid hn
      clear hn
      go_upto_region 7 with (fail)
      refine wp_opaque (fun W8 hb8 => ?_)
      obtain ⟨BB, hBB⟩ : ∃ B, wr.heap.size = B := ⟨_, rfl⟩
      have HO8 := Lib.hid (block_later (heap_alloc_new wr _) hb8)
      rw [hBB] at HO8 ⊢
      clear hBB
      have hb9 := hb8.un1
      obtain ⟨⟨z8, d8, f8⟩, -⟩ := own_of_block HO8.out
      clear hb8
      go_wp2
      have hM8 := HM.out.later hb9
      go_loopw [8, 27] (fun s8 s27 wr => ∃ i : Nat, i ≤ n ∧ s27 = .int .i64 i ∧ ∃ k2, k2 ≤ k + i ∧ Mine w 3 1 wr s8 k2 ((inPL party cur period (es.take j) ++ ((ls.take i).filter (inPB party cur period ⟨con, day, xc, sq, pr, ref, ls⟩)).map (·.a)).map (Value.int .i64)) ∧ Hid (wr.heap[BB]? = some (.cells #[.int .i64 con, .int .i64 day, .int .i64 xc, .int .i64 sq, .int .i64 pr, .int .i64 ref, .slice pu n cu] 48 (0, 0)))) (fun _ s27 _ => n - (intOf s27).toNat)
      case atStart => exact ⟨0, Nat.zero_le _, rfl, k, by omega, by simpa using hM8, HO8⟩
      case round =>
        obtain ⟨i, hi, rfl, k2, hk2, hM2, HBK⟩ := hrel
        clear hM8
        have hlw := hM2.lat
        have HM2 := Lib.hid hM2
        obtain ⟨p2, cp2, rfl⟩ := hM2.form
        clear hM2
        by_cases hin : i < n
        · have hil : i < ls.length := by rw [HN.out]; exact hin
          obtain ⟨b3, o3, cp3, hv3, hb3, g'⟩ := IsRow.full HU.out (i := i) hil
          rw [HN.out] at hv3
          cases hv3
          have k0 := ((bcell hlw).1 _ _ hb3).trans (g' 0 (by omega))
          have k1 := ((bcell hlw).1 _ _ hb3).trans (g' 1 (by omega))
          have k2' := ((bcell hlw).1 _ _ hb3).trans (g' 2 (by omega))
          simp only [lnF, Nat.add_zero] at k0 k1 k2'
          have hb3z := Nat.lt_of_lt_of_le hb3 (Later.size hlw)
          have HO := Lib.hid (fun W (hl : Later wr W) => block_later HBK.out hl)
          have HT2 : Hid ((ls.take (i + 1)).filter (inPB party cur period ⟨con, day, xc, sq, pr, ref, ls⟩) = (ls.take i).filter (inPB party cur period ⟨con, day, xc, sq, pr, ref, ls⟩) ++ (if (decide ((ls[i]).p = party) && cb) = true then [ls[i]] else [])) := Lib.hid (by
            rw [List.take_add_one, List.getElem?_eq_getElem hil, Option.toList_some, List.filter_append]
            congr 1
            rw [← hPB.out]
            try simp only [List.filter_cons, List.filter_nil])
          have HC2 := Lib.hid (fun W (hl : Later wr W) => HCW.out W (hlw.trans hl))
          clear g' HU HE
          generalize ls[i] = y at *
          obtain ⟨yp, yc, ya⟩ := y
          try simp only at k0 k1 k2' HT2
          have HMW := Lib.hid (fun W (h : Later wr W) => HM2.out.later h)
          clear z8 d8 f8
          by_cases hp : yp = party
          · rw [decide_eq_true hp, Bool.true_and] at HT2
            cases cb
            · rw [if_neg (by simp), List.append_nil] at HT2
              go_upto_region 10 with (fail)
              refine wp_opaque (fun Wa hba => ?_)
              obtain ⟨⟨za, da, fa⟩, -⟩ := Own.one hba
              have hbb := hba.un1
              obtain ⟨⟨z8, d8, f8⟩, -⟩ := own_of_block (HO.out _ hbb)
              clear hba
              go_wp2_with (go_at_call 84; go_must (refine (HC2.out _ (by repeat (first | with_reducible exact Later.refl _ | with_reducible assumption | with_reducible refine Later.ofdrew ?_ | with_reducible refine Later.ofdrewN ?_ | with_reducible refine Later.setCell ?_ ?_ _ | with_reducible refine Later.alloc ?_ _ | with_reducible refine Later.drewN ?_ _ | with_reducible refine Later.drew ?_ | (with_reducible refine Later.trans ?_ (by assumption)) | (simp only [World.size_setCell, World.size_alloc, World.heap_drewN]; omega) | (simp; done) | (simp; omega)))).mono ?_; rintro e w3 ⟨rfl, hb3'⟩))
              go_roundw
              case rel => exact ⟨i + 1, by omega, by go_num, k2, by omega, by rw [HT2.out]; exact HMW.out _ (by repeat (first | with_reducible exact Later.refl _ | with_reducible assumption | with_reducible refine Later.ofdrew ?_ | with_reducible refine Later.ofdrewN ?_ | with_reducible refine Later.setCell ?_ ?_ _ | with_reducible refine Later.alloc ?_ _ | with_reducible refine Later.drewN ?_ _ | with_reducible refine Later.drew ?_ | (with_reducible refine Later.trans ?_ (by assumption)) | (simp only [World.size_setCell, World.size_alloc, World.heap_drewN]; omega) | (simp; done) | (simp; omega))), Lib.hid (HO.out _ (by repeat (first | with_reducible exact Later.refl _ | with_reducible assumption | with_reducible refine Later.ofdrew ?_ | with_reducible refine Later.ofdrewN ?_ | with_reducible refine Later.setCell ?_ ?_ _ | with_reducible refine Later.alloc ?_ _ | with_reducible refine Later.drewN ?_ _ | with_reducible refine Later.drew ?_ | (with_reducible refine Later.trans ?_ (by assumption)) | (simp only [World.size_setCell, World.size_alloc, World.heap_drewN]; omega) | (simp; done) | (simp; omega))))⟩
              case measure => simp [intOf]; omega
            · rw [if_pos rfl] at HT2
              go_upto_region 10 with (fail)
              refine wp_opaque (fun Wa hba => ?_)
              have HOa := Lib.hid (Own.one hba)
              obtain ⟨⟨za, da, fa⟩, -⟩ := HOa.out
              have hbb := hba.un1
              obtain ⟨⟨z8, d8, f8⟩, -⟩ := own_of_block (HO.out _ hbb)
              clear hba
              go_wp2_with (first | (go_at_call 84; go_must (refine (HC2.out _ (by repeat (first | with_reducible exact Later.refl _ | with_reducible assumption | with_reducible refine Later.ofdrew ?_ | with_reducible refine Later.ofdrewN ?_ | with_reducible refine Later.setCell ?_ ?_ _ | with_reducible refine Later.alloc ?_ _ | with_reducible refine Later.drewN ?_ _ | with_reducible refine Later.drew ?_ | (with_reducible refine Later.trans ?_ (by assumption)) | (simp only [World.size_setCell, World.size_alloc, World.heap_drewN]; omega) | (simp; done) | (simp; omega)))).mono ?_; rintro e w3 ⟨rfl, hb3'⟩; obtain ⟨⟨zc, dc, fc⟩, -⟩ := HOa.out.later hb3')) | (at_builtin; go_must (refine wpList_pushAt sliceInt (HMW.out _ (by repeat (first | with_reducible exact Later.refl _ | with_reducible assumption | with_reducible refine Later.ofdrew ?_ | with_reducible refine Later.ofdrewN ?_ | with_reducible refine Later.setCell ?_ ?_ _ | with_reducible refine Later.alloc ?_ _ | with_reducible refine Later.drewN ?_ _ | with_reducible refine Later.drew ?_ | (with_reducible refine Later.trans ?_ (by assumption)) | (simp only [World.size_setCell, World.size_alloc, World.heap_drewN]; omega) | (simp; done) | (simp; omega)))) rfl _ _ rfl rfl 1 _ rfl (by simp) rfl (by simp [Value.oneCell']) (by omega) (by unfold maxLen; omega) ?_; intro v5 w5 hM5 hg5; have hB5 := Lib.hid (block_kept ((HMW.out _ (by repeat (first | with_reducible exact Later.refl _ | with_reducible assumption | with_reducible refine Later.ofdrew ?_ | with_reducible refine Later.ofdrewN ?_ | with_reducible refine Later.setCell ?_ ?_ _ | with_reducible refine Later.alloc ?_ _ | with_reducible refine Later.drewN ?_ _ | with_reducible refine Later.drew ?_ | (with_reducible refine Later.trans ?_ (by assumption)) | (simp only [World.size_setCell, World.size_alloc, World.heap_drewN]; omega) | (simp; done) | (simp; omega)))).later ((Later.refl _).alloc _)) hg5 (HO.out _ (by repeat (first | with_reducible exact Later.refl _ | with_reducible assumption | with_reducible refine Later.ofdrew ?_ | with_reducible refine Later.ofdrewN ?_ | with_reducible refine Later.setCell ?_ ?_ _ | with_reducible refine Later.alloc ?_ _ | with_reducible refine Later.drewN ?_ _ | with_reducible refine Later.drew ?_ | (with_reducible refine Later.trans ?_ (by assumption)) | (simp only [World.size_setCell, World.size_alloc, World.heap_drewN]; omega) | (simp; done) | (simp; omega)))) (by decide)); have hb5 := hM5.lat; obtain ⟨p5, cp5, rfl⟩ := hM5.form)))
              go_roundw
              case rel => exact ⟨i + 1, by omega, by go_num, k2 + 1, by omega, by rw [HT2.out]; simp only [List.map_append, List.map_cons, List.map_nil, ← List.append_assoc] at hM5 ⊢; exact hM5, hB5⟩
              case measure => simp [intOf]; omega
          · have hpb : (yp == party) = false := by simpa using hp
            rw [decide_eq_false hp, Bool.false_and, if_neg (by simp), List.append_nil] at HT2
            go_wp2
            go_roundw
            case rel => exact ⟨i + 1, by omega, by go_num, k2, by omega, by rw [HT2.out]; exact HMW.out _ (by repeat (first | with_reducible exact Later.refl _ | with_reducible assumption | with_reducible refine Later.ofdrew ?_ | with_reducible refine Later.ofdrewN ?_ | with_reducible refine Later.setCell ?_ ?_ _ | with_reducible refine Later.alloc ?_ _ | with_reducible refine Later.drewN ?_ _ | with_reducible refine Later.drew ?_ | (with_reducible refine Later.trans ?_ (by assumption)) | (simp only [World.size_setCell, World.size_alloc, World.heap_drewN]; omega) | (simp; done) | (simp; omega))), Lib.hid (HO.out _ (by repeat (first | with_reducible exact Later.refl _ | with_reducible assumption | with_reducible refine Later.ofdrew ?_ | with_reducible refine Later.ofdrewN ?_ | with_reducible refine Later.setCell ?_ ?_ _ | with_reducible refine Later.alloc ?_ _ | with_reducible refine Later.drewN ?_ _ | with_reducible refine Later.drew ?_ | (with_reducible refine Later.trans ?_ (by assumption)) | (simp only [World.size_setCell, World.size_alloc, World.heap_drewN]; omega) | (simp; done) | (simp; omega))))⟩
            case measure => simp [intOf]; omega
        · have hfin : Hid (Mine w 3 1 wr (.slice p2 k2 cp2) k2 ((inPL party cur period (es.take (j + 1))).map (Value.int .i64))) := Lib.hid (by
            have h := HM2.out
            rw [List.take_of_length_le (l := ls) (by rw [HN.out]; omega)] at h
            rw [HT.out]; exact h)
          clear HM2
          go_wp2
          go_roundw
          case rel => exact ⟨j + 1, by omega, by go_num, k2, by omega, hfin.out⟩
          case measure => simp [intOf]; omega
    · have hI := hM.ints.1
      rw [List.take_of_length_le (by rw [HL.out]; omega)] at hI
      obtain ⟨p8, c8, rfl⟩ := hM.form
      clear hM
      have HS2 := Lib.hid (fun W (h : Later wr W) => HS.out _ rfl _ W (hI.later h))
      rw [hs1'.out, hs2'.out] at HS2
      clear HS HE HCL hI
      go_wp2_with (go_at_call 54; go_must (refine (HS2.out _ (by repeat (first | with_reducible exact Later.refl _ | with_reducible assumption | with_reducible refine Later.ofdrew ?_ | with_reducible refine Later.ofdrewN ?_ | with_reducible refine Later.setCell ?_ ?_ _ | with_reducible refine Later.alloc ?_ _ | with_reducible refine Later.drewN ?_ _ | with_reducible refine Later.drew ?_ | (with_reducible refine Later.trans ?_ (by assumption)) | (simp only [World.size_setCell, World.size_alloc, World.heap_drewN]; omega) | (simp; done) | (simp; omega)))).mono ?_; rintro e w4 ⟨rfl, hb4⟩))
      go_ret2
      exact ⟨rfl, by repeat (first | with_reducible exact Later.refl _ | with_reducible assumption | with_reducible refine Later.ofdrew ?_ | with_reducible refine Later.ofdrewN ?_ | with_reducible refine Later.setCell ?_ ?_ _ | with_reducible refine Later.alloc ?_ _ | with_reducible refine Later.drewN ?_ _ | with_reducible refine Later.drew ?_ | (with_reducible refine Later.trans ?_ (by assumption)) | (simp only [World.size_setCell, World.size_alloc, World.heap_drewN]; omega) | (simp; done) | (simp; omega))⟩

set_option maxHeartbeats 1600000 in
theorem inper_any (q : Nat) (es : List En) (hel : es.length ≤ 500) (hew : ∀ y ∈ es, y.ok) (hew2 : ∀ y ∈ es, y.ls.length ≤ 20) (party cur period : Int) (w : World) (hL : Led w q es) :
    Calls Tryz.prog 67 #[.pointer (some ⟨q, 0, none⟩), .int .i64 party, .int .i64 cur, .int .i64 period] w fun e w' => e = .returned (.tuple #[.int .i64 (fitN (sumI (inPL party cur period es))), .int .i64 (fitE (sumI (inPL party cur period es)))]) ∧ Later w w' := by
  have hmf : ∀ (fn : Fn) (first cap : Array Value) (w : World), (Instr.makeFunc fn first cap).run Tryz.prog w = .ok (.func fn first cap) w := fun _ _ _ _ => rfl
  have HS := Lib.hid (fun (B1 B2 : Nat) W (hl : Later w W) h1 h2 => sumled_any q es hel hew hew2 B1 B2 party cur period W (hL.later hl) h1 h2)
  clear hL
  generalize fitN (sumI (inPL party cur period es)) = n at *
  generalize fitE (sumI (inPL party cur period es)) = e at *
  go_enter Tryz.func67, Tryz.ntmps67
  go_upto_region 1 with (fail)
  refine wp_opaque (fun W8 hb8 => ?_)
  have hO := Own.two hb8
  have hb9 := hb8.un1.un1
  obtain ⟨⟨z1, d1, f1⟩, ⟨z2, d2, f2⟩, -⟩ := hO
  have HS8 := Lib.hid (HS.out _ _ W8 hb9 (d1 0) (d2 0))
  clear HS hb8
  go_wp2_with (go_at_call 83; go_must (refine HS8.out.mono ?_; rintro e w6 ⟨rfl, hb6⟩))
  go_ret2
  exact ⟨rfl, by repeat (first | with_reducible exact Later.refl _ | with_reducible assumption | with_reducible refine Later.ofdrew ?_ | with_reducible refine Later.ofdrewN ?_ | with_reducible refine Later.setCell ?_ ?_ _ | with_reducible refine Later.alloc ?_ _ | with_reducible refine Later.drewN ?_ _ | with_reducible refine Later.drew ?_ | (with_reducible refine Later.trans ?_ (by assumption)) | (simp only [World.size_setCell, World.size_alloc, World.heap_drewN]; omega) | (simp; done) | (simp; omega))⟩
end Go.Proofs.YtckeaibamgkegaaGreatDoor
end
