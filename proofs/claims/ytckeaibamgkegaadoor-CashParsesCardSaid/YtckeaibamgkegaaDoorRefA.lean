/- walks: chattelref01: bits, at, order, trim -/
import Derived.Test.YtckeaibamgkegaaDoorBits
set_option linter.all false
namespace Go.Proofs.YtckeaibamgkegaaDoor
open Go.RowKit
set_option maxRecDepth 100000

set_option maxHeartbeats 400000 in
theorem at_any (v : Value) (n L i : Nat) (w : World) (h : Row w v n L) (hL : L ≤ 100000) (hi : i ≤ 100000) :
    Calls Tryd.prog 112 #[v, .int .i64 i] w fun e w' => e = .returned (.int .i64 (bit n i)) ∧ w = w' := by
  by_cases hiL : i < L
  · obtain ⟨hn, ⟨rfl, rfl⟩ | ⟨b, cap, rfl, hb, hcap, hc⟩⟩ := h
    · omega
    · have hci := hc i hiL
      clear hc hn
      go_enter Tryd.func112, Tryd.ntmps112
      go_wp2
      go_ret
      exact ⟨rfl, rfl⟩
  · have h0 : bit n i = 0 := bit_high h.1 (by omega)
    obtain ⟨hn, ⟨rfl, rfl⟩ | ⟨b, cap, rfl, hb, hcap, hc⟩⟩ := h
    · clear hn
      go_enter Tryd.func112, Tryd.ntmps112
      go_wp2
      go_ret
      exact ⟨ret_int h0.symm, rfl⟩
    · clear hc hn
      go_enter Tryd.func112, Tryd.ntmps112
      go_wp2
      go_ret
      exact ⟨ret_int h0.symm, rfl⟩

set_option maxHeartbeats 800000 in
theorem order_any (v u : Value) (n m : Nat) (w : World) (h : Num w v n) (g : Num w u m) (hL : nlen n ≤ 100000) (hM : nlen m ≤ 100000) :
    Calls Tryd.prog 87 #[v, u] w fun e w' => e = .returned (.int .i64 (cmpN n m)) ∧ Later w w' := by
  by_cases hlt : nlen n < nlen m
  · obtain ⟨p, cp, rfl⟩ := h.form
    obtain ⟨q, cq, rfl⟩ := g.form
    have hr := cmpN_len hlt
    generalize nlen n = L at *
    generalize nlen m = M at *
    clear h g
    go_enter Tryd.func87, Tryd.ntmps87
    go_wp2
    go_ret
    exact ⟨ret_int hr.symm, by repeat (first | with_reducible exact Later.refl _ | with_reducible assumption | with_reducible refine Later.ofdrew ?_ | with_reducible refine Later.ofdrewN ?_ | with_reducible refine Later.setCell ?_ ?_ _ | with_reducible refine Later.alloc ?_ _ | with_reducible refine Later.drewN ?_ _ | with_reducible refine Later.drew ?_ | (with_reducible refine Later.trans ?_ (by assumption)) | (simp only [World.size_setCell, World.size_alloc, World.heap_drewN]; omega) | (simp; done) | (simp; omega))⟩
  by_cases hgt : nlen m < nlen n
  · obtain ⟨p, cp, rfl⟩ := h.form
    obtain ⟨q, cq, rfl⟩ := g.form
    have hr := cmpN_len' hgt
    generalize nlen n = L at *
    generalize nlen m = M at *
    clear h g
    go_enter Tryd.func87, Tryd.ntmps87
    go_wp2
    go_ret
    exact ⟨ret_int hr.symm, by repeat (first | with_reducible exact Later.refl _ | with_reducible assumption | with_reducible refine Later.ofdrew ?_ | with_reducible refine Later.ofdrewN ?_ | with_reducible refine Later.setCell ?_ ?_ _ | with_reducible refine Later.alloc ?_ _ | with_reducible refine Later.drewN ?_ _ | with_reducible refine Later.drew ?_ | (with_reducible refine Later.trans ?_ (by assumption)) | (simp only [World.size_setCell, World.size_alloc, World.heap_drewN]; omega) | (simp; done) | (simp; omega))⟩
  have he : nlen m = nlen n := by omega
  unfold Num at h g
  rw [he] at g hM
  clear hlt hgt he
  generalize nlen n = L at *
  by_cases h0 : L = 0
  · subst h0
    have hr : cmpN n m = 0 := by have := h.1; have := g.1; simp only [cmpN]; rw [if_neg (by omega), if_pos (by omega)]
    obtain ⟨p, cp, rfl⟩ := h.form
    obtain ⟨q, cq, rfl⟩ := g.form
    clear h g
    go_enter Tryd.func87, Tryd.ntmps87
    go_wp2
    refine wp_loop_rounds 1 ?_; rw [rounds_succ]; go_wp2
    go_ret
    exact ⟨ret_int hr.symm, by repeat (first | with_reducible exact Later.refl _ | with_reducible assumption | with_reducible refine Later.ofdrew ?_ | with_reducible refine Later.ofdrewN ?_ | with_reducible refine Later.setCell ?_ ?_ _ | with_reducible refine Later.alloc ?_ _ | with_reducible refine Later.drewN ?_ _ | with_reducible refine Later.drew ?_ | (with_reducible refine Later.trans ?_ (by assumption)) | (simp only [World.size_setCell, World.size_alloc, World.heap_drewN]; omega) | (simp; done) | (simp; omega))⟩
  · obtain ⟨b, cp, rfl, hb, hcp, hc⟩ := h.full (by omega)
    obtain ⟨b2, cq, rfl, hb2, hcq, hc2⟩ := g.full (by omega)
    have hn := h.1
    have hm := g.1
    clear h g
    go_enter Tryd.func87, Tryd.ntmps87
    go_wp2
    go_loopw [5] (fun i wr => ((∃ k : Nat, k < L ∧ i = .int .i64 k ∧ n / 2 ^ (k + 1) = m / 2 ^ (k + 1)) ∨ (i = .int .i64 (-1) ∧ n = m)) ∧ ∃ z, wr = w.drewN z) (fun i _ => (intOf i + 1).toNat)
    case atStart =>
      refine ⟨.inl ⟨L - 1, by omega, by go_num, ?_⟩, 0, rfl⟩
      rw [show L - 1 + 1 = L by omega, Nat.div_eq_of_lt hn, Nat.div_eq_of_lt hm]
    case round =>
      obtain ⟨⟨k, hk, rfl, hd⟩ | ⟨rfl, hd⟩, z, rfl⟩ := hrel
      · have hck := hc k hk
        have hck2 := hc2 k hk
        have HD : Hid (n / 2 ^ (k + 1) = m / 2 ^ (k + 1)) := Lib.hid hd
        clear hd hc hc2
        have hx1 := bit_cases n k
        have hy1 := bit_cases m k
        by_cases hbit : bit n k = bit m k
        · have hnx := div_bit HD.out hbit
          have hnx' : Hid (n / 2 ^ k = m / 2 ^ k) := Lib.hid hnx
          clear hnx HD hx1 hy1 hn hm
          generalize bit n k = x at *
          generalize bit m k = y at *
          subst hbit
          go_wp2
          go_quiet (fail)
          go_wp2
          go_roundw
          case rel =>
            refine ⟨?_, _, by first | rfl | (simp; rfl)⟩
            rcases Nat.eq_zero_or_pos k with rfl | hk0
            · exact .inr ⟨rfl, by simpa using hnx'.out⟩
            · refine .inl ⟨k - 1, by omega, by go_num, ?_⟩
              rw [show k - 1 + 1 = k by omega]; exact hnx'.out
          case measure => simp [intOf]
        · have hr := cmpN_bit HD.out hbit
          clear HD hn hm
          generalize bit n k = x at *
          generalize bit m k = y at *
          go_wp2
          go_quiet (fail)
          go_wp2
          go_quiet (fail)
          go_wp2
          go_ret
          exact ⟨ret_int (by omega), by repeat (first | with_reducible exact Later.refl _ | with_reducible assumption | with_reducible refine Later.ofdrew ?_ | with_reducible refine Later.ofdrewN ?_ | with_reducible refine Later.setCell ?_ ?_ _ | with_reducible refine Later.alloc ?_ _ | with_reducible refine Later.drewN ?_ _ | with_reducible refine Later.drew ?_ | (with_reducible refine Later.trans ?_ (by assumption)) | (simp only [World.size_setCell, World.size_alloc, World.heap_drewN]; omega) | (simp; done) | (simp; omega))⟩
      · have hr : cmpN n m = 0 := by simp [cmpN, hd]
        clear hd hc hc2 hn hm
        go_wp2
        go_ret
        exact ⟨ret_int hr.symm, by repeat (first | with_reducible exact Later.refl _ | with_reducible assumption | with_reducible refine Later.ofdrew ?_ | with_reducible refine Later.ofdrewN ?_ | with_reducible refine Later.setCell ?_ ?_ _ | with_reducible refine Later.alloc ?_ _ | with_reducible refine Later.drewN ?_ _ | with_reducible refine Later.drew ?_ | (with_reducible refine Later.trans ?_ (by assumption)) | (simp only [World.size_setCell, World.size_alloc, World.heap_drewN]; omega) | (simp; done) | (simp; omega))⟩

set_option maxHeartbeats 800000 in
theorem trim_own (v : Value) (n L : Nat) (w : World) (h : Row w v n L) (hL : L ≤ 100000) :
    Calls Tryd.prog 86 #[v] w fun e w' => ∃ u, e = .returned u ∧ Num w' u n ∧ w = w' ∧ u.ownBlock = v.ownBlock := by
  by_cases h0 : L = 0
  · subst h0
    have hn : n = 0 := by have := h.1; omega
    subst hn
    rcases h.2 with ⟨rfl, _⟩ | ⟨b, cap, rfl, hb, hcp, hc⟩
    · clear h
      go_enter Tryd.func86, Tryd.ntmps86
      go_wp2
      refine wp_loop_rounds 1 ?_; rw [rounds_succ]; go_wp2
      go_ret
      exact ⟨_, rfl, Num.nil _, rfl, rfl⟩
    · clear h hc
      go_enter Tryd.func86, Tryd.ntmps86
      go_wp2
      refine wp_loop_rounds 1 ?_; rw [rounds_succ]; go_wp2
      go_ret
      exact ⟨_, rfl, Num.nought hb, rfl, rfl⟩
  · obtain ⟨b, cp, rfl, hb, hcp, hc⟩ := h.full (by omega)
    have hn := h.1
    have hln := nlen_le hn
    have hll := lt_nlen n
    clear h
    go_enter Tryd.func86, Tryd.ntmps86
    go_wp2
    go_loopw [3] (fun i wr => ∃ k : Nat, k ≤ L ∧ i = .int .i64 k ∧ n < 2 ^ k ∧ wr = w) (fun i _ => (intOf i).toNat)
    case atStart => exact ⟨L, by omega, rfl, hn, rfl⟩
    case round =>
      obtain ⟨k, hk, rfl, hd, rfl⟩ := hrel
      rcases k with _ | k
      · have : n = 0 := by omega
        subst this
        clear hd hc hn hln hll
        go_wp2
        go_ret
        exact ⟨_, rfl, Num.nought hb, rfl, rfl⟩
      · have hck := hc k (by omega)
        by_cases hbit : bit n k = 0
        · rw [hbit] at hck
          have hnx : n < 2 ^ k := bit_top0 hd hbit
          have HN : Hid (n < 2 ^ k) := Lib.hid hnx
          clear hc hd hn hln hll hbit hnx
          go_wp2
          go_roundw
          case rel => exact ⟨k, by omega, by go_num, HN.out, by first | rfl | trivial⟩
          case measure => simp [intOf]
        · have hone : bit n k = 1 := (bit_cases n k).resolve_left hbit
          rw [hone] at hck
          have hlen : nlen n = k + 1 := bit_top1 hd hone
          have hcc : ∀ i, i < nlen n → wr.cell? ⟨b, i, none⟩ = some (.int .i64 (bit n i)) := fun i hi => hc i (by omega)
          have HC := Lib.hid hcc
          have HL : Hid (nlen n = k + 1) := Lib.hid hlen
          have HLL := Lib.hid hll
          clear hc hd hn hln hll hbit hone hcc hlen
          go_wp2
          go_ret
          refine ⟨_, rfl, ⟨HLL.out, .inr ⟨b, cp, ?_, hb, ?_, HC.out⟩⟩, rfl, rfl⟩
          · rw [HL.out]; rfl
          · rw [HL.out]; omega
theorem trim_any (v : Value) (n L : Nat) (w : World) (h : Row w v n L) (hL : L ≤ 100000) :
    Calls Tryd.prog 86 #[v] w fun e w' => ∃ u, e = .returned u ∧ Num w' u n ∧ w = w' :=
  (trim_own v n L w h hL).mono fun _ _ ⟨u, h1, h2, h3, _⟩ => ⟨u, h1, h2, h3⟩
end Go.Proofs.YtckeaibamgkegaaDoor
