/- walks: chattelref01: minus -/
import Derived.Test.YtckeaibamgkegaaGreatDoorQ17
import Derived.Test.YtckeaibamgkegaaGreatDoorQ3
set_option linter.all false
set_option linter.all false
section
/- audit's reference: Span, Starts -/
namespace Go.Proofs.YtckeaibamgkegaaGreatDoor
open Go.RowKit
set_option maxRecDepth 100000

theorem offG_lt (l : List Rw) {n : Nat} (h : n < (groups l).length) : offG (groups l) n < l.length ∧ offG (groups l) n < offG (groups l) (n + 1) ∧ offG (groups l) (n + 1) ≤ l.length := by
  have := seg_groups l h
  have h1 := this.lt
  have h2 := this.le
  omega
set_option maxHeartbeats 1600000 in
theorem rspan_any (l : List Rw) (hlen : l.length ≤ 100000) (a b : Nat) (hS : Seg l a b) (v : Value) (w : World) (hN : IsRow 9 rwF w v l) :
    Calls Tryz.prog 53 #[v, .int .i64 a] w fun e w' => e = .returned (.int .i64 b) ∧ Later w w' := by
  have ha : a < l.length := Nat.lt_of_lt_of_le hS.lt hS.le
  obtain ⟨g, o, cap, rfl, hg, ga⟩ := hN.full ha
  have ga0 := ga 0 (by omega)
  simp only [rwF, Rw.nums, List.getD_cons_zero, Nat.add_zero] at ga0
  have HN := Lib.hid hN
  clear hN ga
  obtain ⟨L, hLL⟩ : ∃ L, l.length = L := ⟨_, rfl⟩
  have HS := Lib.hid hS
  have hab := hS.lt
  have hbl := hS.le
  obtain ⟨A, hA⟩ : ∃ A, (l[a]).no = A := ⟨_, rfl⟩
  have HSM := Lib.hid (fun i (h : i < l.length) h1 h2 => (hS.same i h h1 h2).trans hA)
  have HST : Hid (∀ (h : b < l.length), (l[b]).no ≠ A) := Lib.hid (fun h => by rw [← hA]; exact hS.stop h)
  rw [hA] at ga0
  rw [hLL] at HN hlen ha hbl ⊢
  have HL := Lib.hid hLL
  clear hLL hA hS HS
  have GA := Lib.hid (fun W (hl : Later w W) => ((bcell hl).1 _ _ hg).trans ga0)
  clear ga0
  go_enter Tryz.func53, Tryz.ntmps53
  go_wp2
  go_loopw [5] (fun s5 wr => ∃ t : Nat, a ≤ t ∧ t ≤ b ∧ s5 = .int .i64 t ∧ Later w wr) (fun s5 _ => b - (intOf s5).toNat)
  case atStart => exact ⟨a, Nat.le_refl _, by omega, rfl, Later.refl _⟩
  case round =>
    obtain ⟨t, hat, htb, rfl, hlat⟩ := hrel
    have ga0 := GA.out wr hlat
    have hgz := Nat.lt_of_lt_of_le hg (Later.size hlat)
    by_cases htL : t < L
    · have htl : t < l.length := by rw [HL.out]; exact htL
      obtain ⟨g', o', cp', hv, hg', gt⟩ := HN.out.full htl
      rw [HL.out] at hv
      cases hv
      have gt0 := ((bcell hlat).1 _ _ hg).trans (gt 0 (by omega))
      simp only [rwF, Rw.nums, List.getD_cons_zero, Nat.add_zero] at gt0
      clear gt
      by_cases hlt : t < b
      · rw [HSM.out t htl hat hlt] at gt0
        clear HN HSM HST
        go_upto_region 2 with (fail)
        refine wp_region_plan 17 (.one [0, 1] 2 (.done [3, 4, 5, 6, 7, 8, 9, 10, 11, 12, 13, 14, 15, 16])) (by kernel_rfl) (by kernel_rfl) (fun _ _ d _ _ h => by cases d <;> exact h) ?_
        repeat' (first
          | (refine plan_done (fun K hK => ?_); (first | (simp only [pick_cons, pick_nil, toList_some_append, List.getElem?_toArray, List.getElem?_cons_zero, List.getElem?_cons_succ]; repeat (go_big_quiet_step (fail))) | simp only [pick_nil]); refine wpQuiet_nil (hK _ ?_); clear hK K)
          | (refine plan_one (by rfl) (fun K hK => ?_); (first | (simp only [pick_cons, pick_nil, toList_some_append, List.getElem?_toArray, List.getElem?_cons_zero, List.getElem?_cons_succ]; repeat (go_big_quiet_step (fail))) | simp only [pick_nil]); refine wpQuiet_nil (hK _ ?_); clear hK K)
          | ((with_reducible refine at_list ?_); go_wp2_with (fail); first | refine behind_store (t := 17) (by decide) ?_ | refine behind (by repeat (first | with_reducible exact Later.refl _ | with_reducible assumption | with_reducible refine Later.ofdrew ?_ | with_reducible refine Later.ofdrewN ?_ | with_reducible refine Later.alloc ?_ _ | with_reducible refine Later.drewN ?_ _ | with_reducible refine Later.drew ?_ | (with_reducible refine Later.trans ?_ (by assumption)))) ?_))
        go_wp2
        go_roundw
        case rel => exact ⟨t + 1, by omega, by omega, by go_num, by repeat (first | with_reducible exact Later.refl _ | with_reducible assumption | with_reducible refine Later.ofdrew ?_ | with_reducible refine Later.ofdrewN ?_ | with_reducible refine Later.setCell ?_ ?_ _ | with_reducible refine Later.alloc ?_ _ | with_reducible refine Later.drewN ?_ _ | with_reducible refine Later.drew ?_ | (with_reducible refine Later.trans ?_ (by assumption)) | (simp only [World.size_setCell, World.size_alloc, World.heap_drewN]; omega) | (simp; done) | (simp; omega))⟩
        case measure => simp [intOf]; omega
      · have htb' : t = b := by omega
        subst htb'
        have hne := HST.out htl
        have hnb : ((l[t]).no == A) = false := by simpa using hne
        clear HN HSM HST hne
        generalize (l[t]).no = B at *
        go_upto_region 2 with (fail)
        refine wp_region_plan 17 (.one [0, 1] 2 (.done [3, 4, 5, 6, 7, 8, 9, 10, 11, 12, 13, 14, 15, 16])) (by kernel_rfl) (by kernel_rfl) (fun _ _ d _ _ h => by cases d <;> exact h) ?_
        repeat' (first
          | (refine plan_done (fun K hK => ?_); (first | (simp only [pick_cons, pick_nil, toList_some_append, List.getElem?_toArray, List.getElem?_cons_zero, List.getElem?_cons_succ]; repeat (go_big_quiet_step (fail))) | simp only [pick_nil]); refine wpQuiet_nil (hK _ ?_); clear hK K)
          | (refine plan_one (by rfl) (fun K hK => ?_); (first | (simp only [pick_cons, pick_nil, toList_some_append, List.getElem?_toArray, List.getElem?_cons_zero, List.getElem?_cons_succ]; repeat (go_big_quiet_step (fail))) | simp only [pick_nil]); refine wpQuiet_nil (hK _ ?_); clear hK K)
          | ((with_reducible refine at_list ?_); go_wp2_with (fail); first | refine behind_store (t := 17) (by decide) ?_ | refine behind (by repeat (first | with_reducible exact Later.refl _ | with_reducible assumption | with_reducible refine Later.ofdrew ?_ | with_reducible refine Later.ofdrewN ?_ | with_reducible refine Later.alloc ?_ _ | with_reducible refine Later.drewN ?_ _ | with_reducible refine Later.drew ?_ | (with_reducible refine Later.trans ?_ (by assumption)))) ?_))
        go_wp2
        go_ret
        exact ⟨rfl, by repeat (first | with_reducible exact Later.refl _ | with_reducible assumption | with_reducible refine Later.ofdrew ?_ | with_reducible refine Later.ofdrewN ?_ | with_reducible refine Later.setCell ?_ ?_ _ | with_reducible refine Later.alloc ?_ _ | with_reducible refine Later.drewN ?_ _ | with_reducible refine Later.drew ?_ | (with_reducible refine Later.trans ?_ (by assumption)) | (simp only [World.size_setCell, World.size_alloc, World.heap_drewN]; omega) | (simp; done) | (simp; omega))⟩
    · have htb' : t = b := by omega
      subst htb'
      have hd : decide ((t : Int) < (L : Int)) = false := by simp; omega
      have hd2 : decide (t < L) = false := by simp; omega
      clear HN HSM HST
      go_upto_region 2 with (fail)
      refine wp_region_plan 17 (.one [0, 1] 2 (.done [3, 4, 5, 6, 7, 8, 9, 10, 11, 12, 13, 14, 15, 16])) (by kernel_rfl) (by kernel_rfl) (fun _ _ d _ _ h => by cases d <;> exact h) ?_
      repeat' (first
        | (refine plan_done (fun K hK => ?_); (first | (simp only [pick_cons, pick_nil, toList_some_append, List.getElem?_toArray, List.getElem?_cons_zero, List.getElem?_cons_succ]; repeat (go_big_quiet_step (fail))) | simp only [pick_nil]); refine wpQuiet_nil (hK _ ?_); clear hK K)
        | (refine plan_one (by rfl) (fun K hK => ?_); (first | (simp only [pick_cons, pick_nil, toList_some_append, List.getElem?_toArray, List.getElem?_cons_zero, List.getElem?_cons_succ]; repeat (go_big_quiet_step (fail))) | simp only [pick_nil]); refine wpQuiet_nil (hK _ ?_); clear hK K)
        | ((with_reducible refine at_list ?_); go_wp2_with (fail); first | refine behind_store (t := 17) (by decide) ?_ | refine behind (by repeat (first | with_reducible exact Later.refl _ | with_reducible assumption | with_reducible refine Later.ofdrew ?_ | with_reducible refine Later.ofdrewN ?_ | with_reducible refine Later.alloc ?_ _ | with_reducible refine Later.drewN ?_ _ | with_reducible refine Later.drew ?_ | (with_reducible refine Later.trans ?_ (by assumption)))) ?_))
      go_wp2
      go_ret
      exact ⟨rfl, by repeat (first | with_reducible exact Later.refl _ | with_reducible assumption | with_reducible refine Later.ofdrew ?_ | with_reducible refine Later.ofdrewN ?_ | with_reducible refine Later.setCell ?_ ?_ _ | with_reducible refine Later.alloc ?_ _ | with_reducible refine Later.drewN ?_ _ | with_reducible refine Later.drew ?_ | (with_reducible refine Later.trans ?_ (by assumption)) | (simp only [World.size_setCell, World.size_alloc, World.heap_drewN]; omega) | (simp; done) | (simp; omega))⟩

/-- Where entries begin. -/
def startsG (l : List Rw) : List Int := (List.range (groups l).length).map (fun n => ((offG (groups l) n : Nat) : Int))
theorem startsG_len (l : List Rw) : (startsG l).length = (groups l).length := by unfold startsG; simp
theorem startsG_at (l : List Rw) {n : Nat} (h : n < (startsG l).length) : (startsG l)[n] = ((offG (groups l) n : Nat) : Int) := by simp [startsG]
set_option maxHeartbeats 1600000 in
theorem starts_any (l : List Rw) (hlen : l.length ≤ 100000) (v : Value) (w : World) (hN : IsRow 9 rwF w v l) :
    Calls Tryz.prog 21 #[v] w fun e w' => ∃ u, e = .returned u ∧ IsInts w' u (startsG l) ∧ Later w w' := by
  have HSP := Lib.hid (fun n (h : n < (groups l).length) W (hl : Later w W) => rspan_any l hlen _ _ (seg_groups l h) v W (hN.later hl))
  have HLT := Lib.hid (fun n (h : n < (groups l).length) => offG_lt l h)
  have HEN := Lib.hid (groups_end l)
  have hgl : (groups l).length ≤ l.length := by
    have := groups_bd l []
    simpa [groups] using this
  obtain ⟨p, cp, rfl⟩ := hN.form
  clear hN
  have HR : ∃ (G : Nat) (off : Nat → Nat), Hid ((groups l).length = G) ∧ Hid (offG (groups l) = off) := ⟨_, _, Lib.hid rfl, Lib.hid rfl⟩
  obtain ⟨G, off, HG, HO⟩ := HR
  have HF : Hid (startsG l = (List.range G).map (fun n => ((off n : Nat) : Int))) := Lib.hid (by unfold startsG; rw [HG.out, HO.out])
  have h0 : off 0 = 0 := by rw [← HO.out]; exact offG_zero _
  simp only [HG.out, HO.out] at HSP HLT HEN hgl
  have H0 := Lib.hid h0
  clear h0
  obtain ⟨L, hLL⟩ : ∃ L, l.length = L := ⟨_, rfl⟩
  simp only [hLL] at HSP HLT HEN hgl hlen ⊢
  clear hLL HG HO
  rw [HF.out]
  clear HF
  go_enter Tryz.func21, Tryz.ntmps21
  go_wp2
  go_loopw [3, 4] (fun s3 s4 wr => ∃ n : Nat, n ≤ G ∧ s4 = .int .i64 (off n) ∧ Mine w 3 1 wr s3 n ((List.range n).map (fun i => Value.int .i64 ((off i : Nat) : Int)))) (fun _ s4 _ => L - (intOf s4).toNat)
  case atStart => exact ⟨0, Nat.zero_le _, by rw [H0.out]; rfl, Mine.nil (Later.refl _)⟩
  case round =>
    obtain ⟨n, hn, rfl, hM⟩ := hrel
    have hlat := hM.lat
    obtain ⟨p3, c3, rfl⟩ := hM.form
    have HM := Lib.hid hM
    clear hM
    by_cases hlt : n < G
    · have hofl := HLT.out n hlt
      have HS2 := Lib.hid (fun W (hl : Later w W) => HSP.out n hlt W hl)
      have HMW := Lib.hid (fun W (h : Later wr W) => HM.out.later h)
      have hstp : Hid ((List.range (n + 1)).map (fun i => Value.int .i64 ((off i : Nat) : Int)) = (List.range n).map (fun i => Value.int .i64 ((off i : Nat) : Int)) ++ [Value.int .i64 ((off n : Nat) : Int)]) := Lib.hid (by rw [List.range_succ, List.map_append]; rfl)
      obtain ⟨hofl, hgt⟩ := HLT.out n hlt
      clear HSP HLT HM
      obtain ⟨y, hy⟩ : ∃ y, off (n + 1) = y := ⟨_, rfl⟩
      simp only [hy] at HS2 hgt
      have HY := Lib.hid hy
      clear hy
      generalize off n = x at *
      go_wp2_with (first | (go_at_call 53; go_must (refine (HS2.out _ (by repeat (first | with_reducible exact Later.refl _ | with_reducible assumption | with_reducible refine Later.ofdrew ?_ | with_reducible refine Later.ofdrewN ?_ | with_reducible refine Later.setCell ?_ ?_ _ | with_reducible refine Later.alloc ?_ _ | with_reducible refine Later.drewN ?_ _ | with_reducible refine Later.drew ?_ | (with_reducible refine Later.trans ?_ (by assumption)) | (simp only [World.size_setCell, World.size_alloc, World.heap_drewN]; omega) | (simp; done) | (simp; omega)))).mono ?_; rintro e w4 ⟨rfl, hb4⟩)) | (at_builtin; go_must (refine wpList_pushAt sliceInt (HMW.out _ (by repeat (first | with_reducible exact Later.refl _ | with_reducible assumption | with_reducible refine Later.ofdrew ?_ | with_reducible refine Later.ofdrewN ?_ | with_reducible refine Later.setCell ?_ ?_ _ | with_reducible refine Later.alloc ?_ _ | with_reducible refine Later.drewN ?_ _ | with_reducible refine Later.drew ?_ | (with_reducible refine Later.trans ?_ (by assumption)) | (simp only [World.size_setCell, World.size_alloc, World.heap_drewN]; omega) | (simp; done) | (simp; omega)))) rfl _ _ rfl rfl 1 _ rfl (by simp) rfl (by simp [Value.oneCell']) (by omega) (by unfold maxLen; omega) ?_; intro v5 w5 hM5 hg5; have hb5 := hM5.lat; obtain ⟨p5, cp5, rfl⟩ := hM5.form)))
      go_roundw
      case rel => exact ⟨n + 1, by omega, by rw [HY.out], by rw [hstp.out]; exact hM5.later hb4⟩
      case measure => simp [intOf]; omega
    · have hnG : n = G := by omega
      subst hnG
      have hmm := HM.out
      rw [show (List.range n).map (fun i => Value.int .i64 ((off i : Nat) : Int)) = ((List.range n).map (fun n => ((off n : Nat) : Int))).map (Value.int .i64) by rw [List.map_map]; rfl] at hmm
      have HI := Lib.hid hmm.ints.1
      have hE := HEN.out
      clear HM hmm HSP HLT HEN
      have hge : ¬ (off n < L) := by omega
      generalize off n = x at *
      go_wp2
      go_ret
      exact ⟨_, rfl, HI.out, hlat⟩
end Go.Proofs.YtckeaibamgkegaaGreatDoor
end
section
/- walks: chattelref01: bits, at, order, trim -/
namespace Go.Proofs.YtckeaibamgkegaaGreatDoor
open Go.RowKit
set_option maxRecDepth 100000

set_option maxHeartbeats 400000 in
theorem at_any (v : Value) (n L i : Nat) (w : World) (h : Row w v n L) (hL : L ≤ 100000) (hi : i ≤ 100000) :
    Calls Tryz.prog 85 #[v, .int .i64 i] w fun e w' => e = .returned (.int .i64 (bit n i)) ∧ w = w' := by
  by_cases hiL : i < L
  · obtain ⟨hn, ⟨rfl, rfl⟩ | ⟨b, cap, rfl, hb, hcap, hc⟩⟩ := h
    · omega
    · have hci := hc i hiL
      clear hc hn
      go_enter Tryz.func85, Tryz.ntmps85
      go_wp2
      go_ret
      exact ⟨rfl, rfl⟩
  · have h0 : bit n i = 0 := bit_high h.1 (by omega)
    obtain ⟨hn, ⟨rfl, rfl⟩ | ⟨b, cap, rfl, hb, hcap, hc⟩⟩ := h
    · clear hn
      go_enter Tryz.func85, Tryz.ntmps85
      go_wp2
      go_ret
      exact ⟨ret_int h0.symm, rfl⟩
    · clear hc hn
      go_enter Tryz.func85, Tryz.ntmps85
      go_wp2
      go_ret
      exact ⟨ret_int h0.symm, rfl⟩

set_option maxHeartbeats 800000 in
theorem order_any (v u : Value) (n m : Nat) (w : World) (h : Num w v n) (g : Num w u m) (hL : nlen n ≤ 100000) (hM : nlen m ≤ 100000) :
    Calls Tryz.prog 74 #[v, u] w fun e w' => e = .returned (.int .i64 (cmpN n m)) ∧ Later w w' := by
  by_cases hlt : nlen n < nlen m
  · obtain ⟨p, cp, rfl⟩ := h.form
    obtain ⟨q, cq, rfl⟩ := g.form
    have hr := cmpN_len hlt
    generalize nlen n = L at *
    generalize nlen m = M at *
    clear h g
    go_enter Tryz.func74, Tryz.ntmps74
    go_wp2
    go_ret
    exact ⟨ret_int hr.symm, by repeat (first | with_reducible exact Later.refl _ | with_reducible assumption | with_reducible refine Later.ofdrew ?_ | with_reducible refine Later.ofdrewN ?_ | with_reducible refine Later.setCell ?_ ?_ _ | with_reducible refine Later.alloc ?_ _ | with_reducible refine Later.drewN ?_ _ | with_reducible refine Later.drew ?_ | (with_reducible refine Later.trans ?_ (by assumption)) | (simp only [World.size_setCell, World.size_alloc, World.heap_drewN]; omega) | (simp; done) | (simp; omega))⟩
  by_cases hgt : nlen m < nlen n
  · obtain ⟨p, cp, rfl⟩ := h.form
    obtain ⟨q, cq, rfl⟩ := g.form
    have hr := cmpN_len' hgt
    generalize nlen n = L at *
    generalize nlen m = M at *
    clear h g
    go_enter Tryz.func74, Tryz.ntmps74
    go_wp2
    go_ret
    exact ⟨ret_int hr.symm, by repeat (first | with_reducible exact Later.refl _ | with_reducible assumption | with_reducible refine Later.ofdrew ?_ | with_reducible refine Later.ofdrewN ?_ | with_reducible refine Later.setCell ?_ ?_ _ | with_reducible refine Later.alloc ?_ _ | with_reducible refine Later.drewN ?_ _ | with_reducible refine Later.drew ?_ | (with_reducible refine Later.trans ?_ (by assumption)) | (simp only [World.size_setCell, World.size_alloc, World.heap_drewN]; omega) | (simp; done) | (simp; omega))⟩
  have he : nlen m = nlen n := by omega
  unfold Num at h g
  rw [he] at g hM
  clear hlt hgt he
  generalize nlen n = L at *
  by_cases h0 : L = 0
  · subst h0
    have hr : cmpN n m = 0 := by have := h.1; have := g.1; simp only [cmpN]; rw [if_neg (by omega), if_pos (by omega)]
    obtain ⟨p, cp, rfl⟩ := h.form
    obtain ⟨q, cq, rfl⟩ := g.form
    clear h g
    go_enter Tryz.func74, Tryz.ntmps74
    go_wp2
    refine wp_loop_rounds 1 ?_; rw [rounds_succ]; go_wp2
    go_ret
    exact ⟨ret_int hr.symm, by repeat (first | with_reducible exact Later.refl _ | with_reducible assumption | with_reducible refine Later.ofdrew ?_ | with_reducible refine Later.ofdrewN ?_ | with_reducible refine Later.setCell ?_ ?_ _ | with_reducible refine Later.alloc ?_ _ | with_reducible refine Later.drewN ?_ _ | with_reducible refine Later.drew ?_ | (with_reducible refine Later.trans ?_ (by assumption)) | (simp only [World.size_setCell, World.size_alloc, World.heap_drewN]; omega) | (simp; done) | (simp; omega))⟩
  · obtain ⟨b, cp, rfl, hb, hcp, hc⟩ := h.full (by omega)
    obtain ⟨b2, cq, rfl, hb2, hcq, hc2⟩ := g.full (by omega)
    have hn := h.1
    have hm := g.1
    clear h g
    go_enter Tryz.func74, Tryz.ntmps74
    go_wp2
    go_loopw [5] (fun i wr => ((∃ k : Nat, k < L ∧ i = .int .i64 k ∧ n / 2 ^ (k + 1) = m / 2 ^ (k + 1)) ∨ (i = .int .i64 (-1) ∧ n = m)) ∧ ∃ z, wr = w.drewN z) (fun i _ => (intOf i + 1).toNat)
    case atStart =>
      refine ⟨.inl ⟨L - 1, by omega, by go_num, ?_⟩, 0, rfl⟩
      rw [show L - 1 + 1 = L by omega, Nat.div_eq_of_lt hn, Nat.div_eq_of_lt hm]
    case round =>
      obtain ⟨⟨k, hk, rfl, hd⟩ | ⟨rfl, hd⟩, z, rfl⟩ := hrel
      · have hck := hc k hk
        have hck2 := hc2 k hk
        have HD : Hid (n / 2 ^ (k + 1) = m / 2 ^ (k + 1)) := Lib.hid hd
        clear hd hc hc2
        have hx1 := bit_cases n k
        have hy1 := bit_cases m k
        by_cases hbit : bit n k = bit m k
        · have hnx := div_bit HD.out hbit
          have hnx' : Hid (n / 2 ^ k = m / 2 ^ k) := Lib.hid hnx
          clear hnx HD hx1 hy1 hn hm
          generalize bit n k = x at *
          generalize bit m k = y at *
          subst hbit
          go_wp2
          go_quiet (fail)
          go_wp2
          go_roundw
          case rel =>
            refine ⟨?_, _, by first | rfl | (simp; rfl)⟩
            rcases Nat.eq_zero_or_pos k with rfl | hk0
            · exact .inr ⟨rfl, by simpa using hnx'.out⟩
            · refine .inl ⟨k - 1, by omega, by go_num, ?_⟩
              rw [show k - 1 + 1 = k by omega]; exact hnx'.out
          case measure => simp [intOf]
        · have hr := cmpN_bit HD.out hbit
          clear HD hn hm
          generalize bit n k = x at *
          generalize bit m k = y at *
          go_wp2
          go_quiet (fail)
          go_wp2
          go_quiet (fail)
          go_wp2
          go_ret
          exact ⟨ret_int (by omega), by repeat (first | with_reducible exact Later.refl _ | with_reducible assumption | with_reducible refine Later.ofdrew ?_ | with_reducible refine Later.ofdrewN ?_ | with_reducible refine Later.setCell ?_ ?_ _ | with_reducible refine Later.alloc ?_ _ | with_reducible refine Later.drewN ?_ _ | with_reducible refine Later.drew ?_ | (with_reducible refine Later.trans ?_ (by assumption)) | (simp only [World.size_setCell, World.size_alloc, World.heap_drewN]; omega) | (simp; done) | (simp; omega))⟩
      · have hr : cmpN n m = 0 := by simp [cmpN, hd]
        clear hd hc hc2 hn hm
        go_wp2
        go_ret
        exact ⟨ret_int hr.symm, by repeat (first | with_reducible exact Later.refl _ | with_reducible assumption | with_reducible refine Later.ofdrew ?_ | with_reducible refine Later.ofdrewN ?_ | with_reducible refine Later.setCell ?_ ?_ _ | with_reducible refine Later.alloc ?_ _ | with_reducible refine Later.drewN ?_ _ | with_reducible refine Later.drew ?_ | (with_reducible refine Later.trans ?_ (by assumption)) | (simp only [World.size_setCell, World.size_alloc, World.heap_drewN]; omega) | (simp; done) | (simp; omega))⟩

set_option maxHeartbeats 800000 in
theorem trim_own (v : Value) (n L : Nat) (w : World) (h : Row w v n L) (hL : L ≤ 100000) :
    Calls Tryz.prog 86 #[v] w fun e w' => ∃ u, e = .returned u ∧ Num w' u n ∧ w = w' ∧ u.ownBlock = v.ownBlock := by
  by_cases h0 : L = 0
  · subst h0
    have hn : n = 0 := by have := h.1; omega
    subst hn
    rcases h.2 with ⟨rfl, _⟩ | ⟨b, cap, rfl, hb, hcp, hc⟩
    · clear h
      go_enter Tryz.func86, Tryz.ntmps86
      go_wp2
      refine wp_loop_rounds 1 ?_; rw [rounds_succ]; go_wp2
      go_ret
      exact ⟨_, rfl, Num.nil _, rfl, rfl⟩
    · clear h hc
      go_enter Tryz.func86, Tryz.ntmps86
      go_wp2
      refine wp_loop_rounds 1 ?_; rw [rounds_succ]; go_wp2
      go_ret
      exact ⟨_, rfl, Num.nought hb, rfl, rfl⟩
  · obtain ⟨b, cp, rfl, hb, hcp, hc⟩ := h.full (by omega)
    have hn := h.1
    have hln := nlen_le hn
    have hll := lt_nlen n
    clear h
    go_enter Tryz.func86, Tryz.ntmps86
    go_wp2
    go_loopw [3] (fun i wr => ∃ k : Nat, k ≤ L ∧ i = .int .i64 k ∧ n < 2 ^ k ∧ wr = w) (fun i _ => (intOf i).toNat)
    case atStart => exact ⟨L, by omega, rfl, hn, rfl⟩
    case round =>
      obtain ⟨k, hk, rfl, hd, rfl⟩ := hrel
      rcases k with _ | k
      · have : n = 0 := by omega
        subst this
        clear hd hc hn hln hll
        go_wp2
        go_ret
        exact ⟨_, rfl, Num.nought hb, rfl, rfl⟩
      · have hck := hc k (by omega)
        by_cases hbit : bit n k = 0
        · rw [hbit] at hck
          have hnx : n < 2 ^ k := bit_top0 hd hbit
          have HN : Hid (n < 2 ^ k) := Lib.hid hnx
          clear hc hd hn hln hll hbit hnx
          go_wp2
          go_roundw
          case rel => exact ⟨k, by omega, by go_num, HN.out, by first | rfl | trivial⟩
          case measure => simp [intOf]
        · have hone : bit n k = 1 := (bit_cases n k).resolve_left hbit
          rw [hone] at hck
          have hlen : nlen n = k + 1 := bit_top1 hd hone
          have hcc : ∀ i, i < nlen n → wr.cell? ⟨b, i, none⟩ = some (.int .i64 (bit n i)) := fun i hi => hc i (by omega)
          have HC := Lib.hid hcc
          have HL : Hid (nlen n = k + 1) := Lib.hid hlen
          have HLL := Lib.hid hll
          clear hc hd hn hln hll hbit hone hcc hlen
          go_wp2
          go_ret
          refine ⟨_, rfl, ⟨HLL.out, .inr ⟨b, cp, ?_, hb, ?_, HC.out⟩⟩, rfl, rfl⟩
          · rw [HL.out]; rfl
          · rw [HL.out]; omega
theorem trim_any (v : Value) (n L : Nat) (w : World) (h : Row w v n L) (hL : L ≤ 100000) :
    Calls Tryz.prog 86 #[v] w fun e w' => ∃ u, e = .returned u ∧ Num w' u n ∧ w = w' :=
  (trim_own v n L w h hL).mono fun _ _ ⟨u, h1, h2, h3, _⟩ => ⟨u, h1, h2, h3⟩
end Go.Proofs.YtckeaibamgkegaaGreatDoor
end
section
/- walks: chattelref01: plus, minus -/
namespace Go.Proofs.YtckeaibamgkegaaGreatDoor
open Go.RowKit
set_option maxRecDepth 100000


theorem own_next {w w1 : World} {base e n k : Nat} {v : Value} {x : Int} (h : w.ownsRow base e 1 v (k + 1) (bitsV n k ++ [.int .i64 x])) (hx : x = bit n k) (hg : w1 = w) :
    w1.ownsRow base e 1 v (k + 1) (bitsV n (k + 1)) := by
  subst hx; subst hg; rw [bitsV_succ]; exact h

set_option maxHeartbeats 1600000 in
theorem rplus_any (v u : Value) (a b L M : Nat) (w : World) (h : Row w v a L) (g : Row w u b M) (hL : L ≤ 90000) (hM : M ≤ 90000) :
    Calls Tryz.prog 73 #[v, u] w fun e w' => ∃ r K, e = .returned r ∧ Row w' r (a + b) K ∧ K ≤ max L M + 1 ∧ (K = max L M ∨ 2 ^ (K - 1) ≤ a + b) ∧ Later w w' := by
  obtain ⟨i0, hi, hz0, hz1, hz2⟩ := info_parts intInfo
  obtain ⟨p, cp, rfl⟩ := h.form
  obtain ⟨q, cq, rfl⟩ := g.form
  go_enter Tryz.func73, Tryz.ntmps73
  go_wp2
  go_loopw [5, 6, 7] (fun s5 s6 s7 wr => ∃ k : Nat, k ≤ max L M + 1 ∧ s7 = .int .i64 k ∧ s6 = .int .i64 (car a b k) ∧ wr.ownsRow w.heap.size 3 1 s5 k (bitsV (a + b) k) ∧ Later w wr ∧ (k ≤ max L M ∨ 2 ^ (k - 1) ≤ a + b))
    (fun _ _ s7 _ => max L M + 1 - (intOf s7).toNat)
  case atStart => exact ⟨0, by omega, rfl, by rw [car_zero], World.ownsRow_nil _ _ _ _, Later.refl _, .inl (by omega)⟩
  case round =>
    obtain ⟨k, hk, rfl, rfl, hown, hlat, hend⟩ := hrel
    have H1 := h.later hlat
    have H2 := g.later hlat
    have hsz := Later.size hlat
    have hcs := car_cases a b k
    have hcn := car_next a b k
    have hcs' := car_cases a b (k + 1)
    have hb1 := bit_cases a k
    have hb2 := bit_cases b k
    have hbs := bit_cases (a + b) k
    have hce := fun x y => car_end (a := a) (b := b) (i := k) x y
    by_cases hgo : k < L ∨ k < M ∨ car a b k = 1
    · have hnext : k + 1 ≤ max L M + 1 ∧ (k + 1 ≤ max L M ∨ 2 ^ (k + 1 - 1) ≤ a + b) := by
        by_cases hkm : k < max L M
        · omega
        · have hLk : a < 2 ^ k := Nat.lt_of_lt_of_le h.1 (Nat.pow_le_pow_right (by omega) (by omega))
          have hMk : b < 2 ^ k := Nat.lt_of_lt_of_le g.1 (Nat.pow_le_pow_right (by omega) (by omega))
          have hc1 : car a b k = 1 := by omega
          have := (hce hLk hMk).2 (by omega)
          refine ⟨?_, .inr this⟩
          by_cases hk2 : k = max L M + 1
          · exfalso
            have hL1 : a < 2 ^ (k - 1) := Nat.lt_of_lt_of_le h.1 (Nat.pow_le_pow_right (by omega) (by omega))
            have hM1 : b < 2 ^ (k - 1) := Nat.lt_of_lt_of_le g.1 (Nat.pow_le_pow_right (by omega) (by omega))
            have hp : 2 ^ k = 2 * 2 ^ (k - 1) := by rw [← Nat.pow_succ']; congr 1; omega
            omega
          · omega
      have hG : (k < L) ∨ (¬ k < L ∧ k < M) ∨ (¬ k < L ∧ ¬ k < M ∧ car a b k = 1) := by omega
      have HN := Lib.hid hnext
      have hkb : k ≤ 90001 := by omega
      clear hnext hgo hce hend hk
      obtain ⟨c, hc⟩ : ∃ c, car a b k = c := ⟨_, rfl⟩
      rw [hc] at hcn hcs hG ⊢; clear hc
      obtain ⟨x, hx⟩ : ∃ x, bit a k = x := ⟨_, rfl⟩
      obtain ⟨y, hy⟩ : ∃ y, bit b k = y := ⟨_, rfl⟩
      rw [hx] at hcn hb1; rw [hy] at hcn hb2
      have HX := Lib.hid hx
      have HY := Lib.hid hy
      clear hx hy
      have HA := Lib.hid (And.intro hcn (And.intro hcs' hbs))
      have x0 : 0 ≤ x := by omega
      have x1 : x ≤ 1 := by omega
      have y0 : 0 ≤ y := by omega
      have y1 : y ≤ 1 := by omega
      have c0 : 0 ≤ c := by omega
      have c1 : c ≤ 1 := by omega
      clear hcn hcs' hcs hbs hb1 hb2
      rcases hG with hG | ⟨hG1, hG2⟩ | ⟨hG1, hG2, rfl⟩
      all_goals clear h g
      · go_wp2_with (first
          | (go_at_call 85; refine (at_any _ _ _ _ _ (by first | exact H1 | exact H2) (by omega) (by omega)).mono ?_; (first | rw [HX.out] | rw [HY.out]); rintro e w' ⟨rfl, rfl⟩)
          | (at_builtin; refine wpList_append_own _ rfl _ _ 59 rfl w.heap.size 3 i0 (.int .i64 0) 1 8 Tryz.underlying59 hi hz0 hz1 hz2 rfl (by decide) _ _ _ rfl (hown.alloc _) ⟨wr.heap.size, 0, none⟩ 1 1 [.int .i64 ((x + y + c) % 2)] rfl rfl ?a1 ?b1 ?c1 ?d1 ?e1 ?_))
        case a1 =>
          intro j u hj
          match j, hj with
          | 0, hj => simp at hj; subst hj; simp [Addr.add]
        case b1 => intro u hu; simp at hu; subst hu; rfl
        case c1 => unfold maxLen; omega
        case d1 => omega
        case e1 => simp; omega
        intro v' w1 hown' hgrow _
        have hlat' := Later.grown (hlat.alloc _) hgrow (fun k hk => (hown.lt k hk).1)
        have R := own_next hown' (by have := HA.out; generalize bit (a + b) k = d at *; generalize car a b (k + 1) = c' at *; omega) rfl
        have R1 := Lib.hid R
        have R2 := Lib.hid hlat'
        clear hown' hgrow hown hlat hlat' R H1 H2 hsz
        go_wp2
        go_roundw
        case rel => exact ⟨k + 1, HN.out.1, by go_num, by have := HA.out; generalize bit (a + b) k = d at *; generalize car a b (k + 1) = c' at *; go_num, R1.out, R2.out, HN.out.2⟩
        case measure => have := HN.out; simp [intOf]; omega
      · go_wp2_with (first
          | (go_at_call 85; refine (at_any _ _ _ _ _ (by first | exact H1 | exact H2) (by omega) (by omega)).mono ?_; (first | rw [HX.out] | rw [HY.out]); rintro e w' ⟨rfl, rfl⟩)
          | (at_builtin; refine wpList_append_own _ rfl _ _ 59 rfl w.heap.size 3 i0 (.int .i64 0) 1 8 Tryz.underlying59 hi hz0 hz1 hz2 rfl (by decide) _ _ _ rfl (hown.alloc _) ⟨wr.heap.size, 0, none⟩ 1 1 [.int .i64 ((x + y + c) % 2)] rfl rfl ?a2 ?b2 ?c2 ?d2 ?e2 ?_))
        case a2 =>
          intro j u hj
          match j, hj with
          | 0, hj => simp at hj; subst hj; simp [Addr.add]
        case b2 => intro u hu; simp at hu; subst hu; rfl
        case c2 => unfold maxLen; omega
        case d2 => omega
        case e2 => simp; omega
        intro v' w1 hown' hgrow _
        have hlat' := Later.grown (hlat.alloc _) hgrow (fun k hk => (hown.lt k hk).1)
        have R := own_next hown' (by have := HA.out; generalize bit (a + b) k = d at *; generalize car a b (k + 1) = c' at *; omega) rfl
        have R1 := Lib.hid R
        have R2 := Lib.hid hlat'
        clear hown' hgrow hown hlat hlat' R H1 H2 hsz
        go_wp2
        go_roundw
        case rel => exact ⟨k + 1, HN.out.1, by go_num, by have := HA.out; generalize bit (a + b) k = d at *; generalize car a b (k + 1) = c' at *; go_num, R1.out, R2.out, HN.out.2⟩
        case measure => have := HN.out; simp [intOf]; omega
      · go_wp2_with (first
          | (go_at_call 85; refine (at_any _ _ _ _ _ (by first | exact H1 | exact H2) (by omega) (by omega)).mono ?_; (first | rw [HX.out] | rw [HY.out]); rintro e w' ⟨rfl, rfl⟩)
          | (at_builtin; refine wpList_append_own _ rfl _ _ 59 rfl w.heap.size 3 i0 (.int .i64 0) 1 8 Tryz.underlying59 hi hz0 hz1 hz2 rfl (by decide) _ _ _ rfl (hown.alloc _) ⟨wr.heap.size, 0, none⟩ 1 1 [.int .i64 ((x + y + 1) % 2)] rfl rfl ?a3 ?b3 ?c3 ?d3 ?e3 ?_))
        case a3 =>
          intro j u hj
          match j, hj with
          | 0, hj => simp at hj; subst hj; simp [Addr.add]
        case b3 => intro u hu; simp at hu; subst hu; rfl
        case c3 => unfold maxLen; omega
        case d3 => omega
        case e3 => simp; omega
        intro v' w1 hown' hgrow _
        have hlat' := Later.grown (hlat.alloc _) hgrow (fun k hk => (hown.lt k hk).1)
        have R := own_next hown' (by have := HA.out; generalize bit (a + b) k = d at *; generalize car a b (k + 1) = c' at *; omega) rfl
        have R1 := Lib.hid R
        have R2 := Lib.hid hlat'
        clear hown' hgrow hown hlat hlat' R H1 H2 hsz
        go_wp2
        go_roundw
        case rel => exact ⟨k + 1, HN.out.1, by go_num, by have := HA.out; generalize bit (a + b) k = d at *; generalize car a b (k + 1) = c' at *; go_num, R1.out, R2.out, HN.out.2⟩
        case measure => have := HN.out; simp [intOf]; omega
    · have hk1 : ¬ k < L := by omega
      have hk2 : ¬ k < M := by omega
      have hc0 : car a b k = 0 := by omega
      have hlt : a + b < 2 ^ k := by
        have hLk : a < 2 ^ k := Nat.lt_of_lt_of_le h.1 (Nat.pow_le_pow_right (by omega) (by omega))
        have hMk : b < 2 ^ k := Nat.lt_of_lt_of_le g.1 (Nat.pow_le_pow_right (by omega) (by omega))
        exact (hce hLk hMk).1 hc0
      have R := Lib.hid (Row.of_own hown hlt)
      have R2 := Lib.hid hlat
      have R3 : Hid (k ≤ max L M + 1 ∧ (k = max L M ∨ 2 ^ (k - 1) ≤ a + b)) := Lib.hid (by
        refine ⟨hk, ?_⟩
        rcases hend with he | he
        · exact .inl (by omega)
        · exact .inr he)
      rw [hc0]
      clear hcs hcn hcs' hb1 hb2 hbs hce hgo hend hown hlat h g hlt hc0 hk H1 H2
      go_wp2
      go_ret
      exact ⟨_, k, rfl, R.out, R3.out.1, R3.out.2, R2.out⟩
end Go.Proofs.YtckeaibamgkegaaGreatDoor
end
section
/- walks: chattelref01: minus -/
namespace Go.Proofs.YtckeaibamgkegaaGreatDoor
open Go.RowKit
set_option maxRecDepth 100000

set_option maxHeartbeats 1600000 in
theorem minus_own (v u : Value) (a b L M : Nat) (w : World) (h : Row w v a L) (g : Row w u b M) (hL : L ≤ 90000) (hM : M ≤ 90000) (hab : b ≤ a) :
    Calls Tryz.prog 75 #[v, u] w fun e w' => ∃ r, e = .returned r ∧ Num w' r (a - b) ∧ Later w w' ∧ ∀ k, r.ownBlock = some k → w.heap.size ≤ k := by
  obtain ⟨i0, hi, hz0, hz1, hz2⟩ := info_parts intInfo
  obtain ⟨p, cp, rfl⟩ := h.form
  obtain ⟨q, cq, rfl⟩ := g.form
  go_enter Tryz.func75, Tryz.ntmps75
  go_wp2
  go_loopw [5, 6, 7] (fun s5 s6 s7 wr => ∃ k : Nat, k ≤ L ∧ s7 = .int .i64 k ∧ s6 = .int .i64 (bow a b k) ∧ wr.ownsRow w.heap.size 3 1 s5 k (bitsV (a - b) k) ∧ Later w wr)
    (fun _ _ s7 _ => L - (intOf s7).toNat)
  case atStart => exact ⟨0, by omega, rfl, by rw [bow_zero], World.ownsRow_nil _ _ _ _, Later.refl _⟩
  case round =>
    obtain ⟨k, hk, rfl, rfl, hown, hlat⟩ := hrel
    have H1 := h.later hlat
    have H2 := g.later hlat
    have hsz := Later.size hlat
    have hcs := bow_cases a b k
    by_cases hkL : k < L
    · obtain ⟨bb, cc, hv, hb, hcap, hcells⟩ := H1.full (by omega)
      cases hv
      have hcell := hcells k hkL
      have hcn := bow_next hab k
      have hcs' := bow_cases a b (k + 1)
      have hb1 := bit_cases a k
      have hb2 := bit_cases b k
      have hbs := bit_cases (a - b) k
      obtain ⟨x, hx⟩ : ∃ x, bit a k = x := ⟨_, rfl⟩
      obtain ⟨y, hy⟩ : ∃ y, bit b k = y := ⟨_, rfl⟩
      obtain ⟨c, hc⟩ : ∃ c, bow a b k = c := ⟨_, rfl⟩
      rw [hx] at hcn hb1 hcell; rw [hy] at hcn hb2
      rw [hc] at hcn hcs ⊢
      have HY := Lib.hid hy
      clear hx hy hc hcells H1 h g hab
      have x0 : 0 ≤ x := by omega
      have x1 : x ≤ 1 := by omega
      have y0 : 0 ≤ y := by omega
      have y1 : y ≤ 1 := by omega
      have c0 : 0 ≤ c := by omega
      have c1 : c ≤ 1 := by omega
      clear hcs hb1 hb2
      by_cases hneg : x - y - c < 0
      · have HT : Hid (x - y - c + 2 = bit (a - b) k ∧ (1 : Int) = bow a b (k + 1)) := Lib.hid (by generalize bit (a - b) k = d at *; generalize bow a b (k + 1) = c' at *; omega)
        clear hcn hcs' hbs
        go_wp2
        refine wp_region_plan 11 (.one [0, 1, 2, 3, 4, 5, 8] 6 (.done [7, 9, 10])) (by kernel_rfl) (by kernel_rfl) (fun _ _ d _ _ h => by cases d <;> exact h) ?_
        repeat' (first
          | (refine plan_done (fun K hK => ?_); (first | (simp only [pick_cons, pick_nil, toList_some_append, List.getElem?_toArray, List.getElem?_cons_zero, List.getElem?_cons_succ]; repeat (go_big_quiet_step (fail))) | simp only [pick_nil]); refine wpQuiet_nil (hK _ ?_); clear hK K)
          | (refine plan_one (by rfl) (fun K hK => ?_); (first | (simp only [pick_cons, pick_nil, toList_some_append, List.getElem?_toArray, List.getElem?_cons_zero, List.getElem?_cons_succ]; repeat (go_big_quiet_step (fail))) | simp only [pick_nil]); refine wpQuiet_nil (hK _ ?_); clear hK K)
          | ((with_reducible refine at_list ?_); go_wp2_with (go_at_call 85; refine (at_any _ _ _ _ _ (H2.later ((Later.refl _).drew)) (by omega) (by omega)).mono ?_; rw [HY.out]; rintro e w' ⟨rfl, rfl⟩); first | refine behind_store (t := 11) (by decide) ?_ | refine behind (by repeat (first | with_reducible exact Later.refl _ | with_reducible assumption | with_reducible refine Later.ofdrew ?_ | with_reducible refine Later.ofdrewN ?_ | with_reducible refine Later.alloc ?_ _ | with_reducible refine Later.drewN ?_ _ | with_reducible refine Later.drew ?_ | (with_reducible refine Later.trans ?_ (by assumption)))) ?_))
        go_wp2_with (at_builtin; refine wpList_append_own _ rfl _ _ 59 rfl w.heap.size 3 i0 (.int .i64 0) 1 8 Tryz.underlying59 hi hz0 hz1 hz2 rfl (by decide) _ _ _ rfl (hown.drew.alloc _) ⟨wr.heap.size, 0, none⟩ 1 1 [.int .i64 (x - y - c + 2)] rfl rfl ?a1 ?b1 ?c1 ?d1 ?e1 ?_)
        case a1 =>
          intro j u hj
          match j, hj with
          | 0, hj => simp at hj; subst hj; simp [Addr.add]
        case b1 => intro u hu; simp at hu; subst hu; rfl
        case c1 => unfold maxLen; omega
        case d1 => omega
        case e1 => simp; omega
        intro v' w1 hown' hgrow _
        have hlat' : Later w w1 := Later.grown ((hlat.alloc _).drew) hgrow (fun k hk => (hown.lt k hk).1)
        have R := own_next hown' HT.out.1 rfl
        have R1 := Lib.hid R
        have R2 := Lib.hid hlat'
        clear hown' hgrow hown hlat hlat' R H2 hsz
        go_wp2
        go_roundw
        case rel => exact ⟨k + 1, by omega, by go_num, by rw [← HT.out.2], R1.out, R2.out⟩
        case measure => simp [intOf]; omega
      · have HT : Hid (x - y - c = bit (a - b) k ∧ (0 : Int) = bow a b (k + 1)) := Lib.hid (by generalize bit (a - b) k = d at *; generalize bow a b (k + 1) = c' at *; omega)
        clear hcn hcs' hbs
        go_wp2
        refine wp_region_plan 11 (.one [0, 1, 2, 3, 4, 5, 8] 6 (.done [7, 9, 10])) (by kernel_rfl) (by kernel_rfl) (fun _ _ d _ _ h => by cases d <;> exact h) ?_
        repeat' (first
          | (refine plan_done (fun K hK => ?_); (first | (simp only [pick_cons, pick_nil, toList_some_append, List.getElem?_toArray, List.getElem?_cons_zero, List.getElem?_cons_succ]; repeat (go_big_quiet_step (fail))) | simp only [pick_nil]); refine wpQuiet_nil (hK _ ?_); clear hK K)
          | (refine plan_one (by rfl) (fun K hK => ?_); (first | (simp only [pick_cons, pick_nil, toList_some_append, List.getElem?_toArray, List.getElem?_cons_zero, List.getElem?_cons_succ]; repeat (go_big_quiet_step (fail))) | simp only [pick_nil]); refine wpQuiet_nil (hK _ ?_); clear hK K)
          | ((with_reducible refine at_list ?_); go_wp2_with (go_at_call 85; refine (at_any _ _ _ _ _ (H2.later ((Later.refl _).drew)) (by omega) (by omega)).mono ?_; rw [HY.out]; rintro e w' ⟨rfl, rfl⟩); first | refine behind_store (t := 11) (by decide) ?_ | refine behind (by repeat (first | with_reducible exact Later.refl _ | with_reducible assumption | with_reducible refine Later.ofdrew ?_ | with_reducible refine Later.ofdrewN ?_ | with_reducible refine Later.alloc ?_ _ | with_reducible refine Later.drewN ?_ _ | with_reducible refine Later.drew ?_ | (with_reducible refine Later.trans ?_ (by assumption)))) ?_))
        go_wp2_with (at_builtin; refine wpList_append_own _ rfl _ _ 59 rfl w.heap.size 3 i0 (.int .i64 0) 1 8 Tryz.underlying59 hi hz0 hz1 hz2 rfl (by decide) _ _ _ rfl (hown.drew.alloc _) ⟨wr.heap.size, 0, none⟩ 1 1 [.int .i64 (x - y - c)] rfl rfl ?a2 ?b2 ?c2 ?d2 ?e2 ?_)
        case a2 =>
          intro j u hj
          match j, hj with
          | 0, hj => simp at hj; subst hj; simp [Addr.add]
        case b2 => intro u hu; simp at hu; subst hu; rfl
        case c2 => unfold maxLen; omega
        case d2 => omega
        case e2 => simp; omega
        intro v' w1 hown' hgrow _
        have hlat' : Later w w1 := Later.grown ((hlat.alloc _).drew) hgrow (fun k hk => (hown.lt k hk).1)
        have R := own_next hown' HT.out.1 rfl
        have R1 := Lib.hid R
        have R2 := Lib.hid hlat'
        clear hown' hgrow hown hlat hlat' R H2 hsz
        go_wp2
        go_roundw
        case rel => exact ⟨k + 1, by omega, by go_num, by rw [← HT.out.2], R1.out, R2.out⟩
        case measure => simp [intOf]; omega
    · have hkk : k = L := by omega
      subst hkk
      have hlt : a - b < 2 ^ k := by have := h.1; omega
      have R := Row.of_own hown hlt
      have hlt := hown.lt
      clear h g H1 H2 hown hcs hab hk
      generalize bow a b k = c at *
      go_wp2_with (go_at_call 86; refine (trim_own _ _ _ _ R (by omega)).mono ?_; rintro e w' ⟨u, rfl, hnum, rfl, hob⟩)
      go_ret
      exact ⟨_, rfl, hnum, hlat, fun k hk => (hlt k (by rw [← hob]; exact hk)).1⟩
theorem minus_any (v u : Value) (a b L M : Nat) (w : World) (h : Row w v a L) (g : Row w u b M) (hL : L ≤ 90000) (hM : M ≤ 90000) (hab : b ≤ a) :
    Calls Tryz.prog 75 #[v, u] w fun e w' => ∃ r, e = .returned r ∧ Num w' r (a - b) ∧ Later w w' :=
  (minus_own v u a b L M w h g hL hM hab).mono fun _ _ ⟨r, h1, h2, h3, _⟩ => ⟨r, h1, h2, h3⟩
end Go.Proofs.YtckeaibamgkegaaGreatDoor
end
