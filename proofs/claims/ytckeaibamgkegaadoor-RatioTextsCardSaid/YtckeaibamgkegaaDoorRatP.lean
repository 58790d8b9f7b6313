/- walks: a sum of two wide numbers -/
import Derived.Test.YtckeaibamgkegaaDoorRatA
import Derived.Deep.DeepCutAuto
set_option linter.all false
namespace Go.Proofs.YtckeaibamgkegaaDoor
open Go.RowKit
set_option maxRecDepth 100000

def plusM (M : Int) (s : Bool) (N : Int) (u : Bool) : Int := if s = u then M + N else if M < N then N - M else M - N
def plusS (M : Int) (s : Bool) (N : Int) (u : Bool) : Bool := if s = u then s else if M < N then u else s

theorem plus_bd {M N : Int} (s u : Bool) (m0 : 0 ≤ M) (n0 : 0 ≤ N) : 0 ≤ plusM M s N u ∧ plusM M s N u ≤ M + N := by
  unfold plusM; split
  · omega
  · split <;> omega
theorem plus_signed {M N : Int} (s u : Bool) : signI (plusS M s N u) (plusM M s N u) = signI s M + signI u N := by
  unfold signI plusS plusM
  cases s <;> cases u <;> simp <;> (try split) <;> (try simp) <;> omega

theorem add_words (M N : Int) (h : 0 ≤ M) (h' : 0 ≤ N) (hs : M + N ≤ 340282366920938463463374607431768211455) : lo64 (lo64 M + lo64 N) = lo64 (M + N) ∧ lo64 (hi64 M + hi64 N + hi64 (lo64 M + lo64 N)) = hi64 (M + N) := by
  unfold lo64 hi64; omega
theorem sub_words (M N : Int) (h : 0 ≤ N) (h' : N ≤ M) (hs : M ≤ 340282366920938463463374607431768211455) : lo64 (lo64 M - lo64 N) = lo64 (M - N) ∧ lo64 (hi64 M - hi64 N - bor (lo64 M) (lo64 N)) = hi64 (M - N) := by
  unfold lo64 hi64 bor; split <;> omega


theorem plus_alloc {w : World} (a b c : Array Value) (t : TypeId) : Later w (((w.alloc (.cells a t)).alloc (.cells b t)).alloc (.cells c t)) := (((Later.refl w).alloc _).alloc _).alloc _

set_option maxHeartbeats 1000000 in
theorem plus_same (M N : Int) (s : Bool) (w : World) (m0 : 0 ≤ M) (n0 : 0 ≤ N) (h : M + N ≤ 340282366920938463463374607431768211455) :
    Calls Tryd.prog 79 #[.agg #[.int .u64 (hi64 M), .int .u64 (lo64 M), .bool s], .agg #[.int .u64 (hi64 N), .int .u64 (lo64 N), .bool s]] w fun e w' => e = .returned (.agg #[.int .u64 (hi64 (M + N)), .int .u64 (lo64 (M + N)), .bool s]) ∧ Later w w' := by
  obtain ⟨e1, e2⟩ := add_words M N m0 n0 h
  obtain ⟨a1, a2⟩ := lo_bd M
  obtain ⟨b1, b2⟩ := lo_bd N
  obtain ⟨c1, c2⟩ := hi_bd M m0 (by omega)
  obtain ⟨d1, d2⟩ := hi_bd N n0 (by omega)
  have k : 0 ≤ hi64 (lo64 M + lo64 N) ∧ hi64 (lo64 M + lo64 N) ≤ 1 := by unfold hi64; omega
  obtain ⟨k1, k2⟩ := k
  have ts : (s == s) = true := by simp
  rw [← e2, ← e1]
  clear e1 e2 h m0 n0
  go_enter Tryd.func79, Tryd.ntmps79
  go_wp2_with (first | simp only [add64_0 (lo64 M) (lo64 N) a1 a2 b1 b2] | simp only [add64 (hi64 M) (hi64 N) _ c1 c2 d1 d2 k1 k2])
  exact bodyPost_ret (v := .agg #[.int .u64 (lo64 (hi64 M + hi64 N + hi64 (lo64 M + lo64 N))), .int .u64 (lo64 (lo64 M + lo64 N)), .bool s]) (by simp [results, Tryd.results79, go_sem]) rfl ⟨rfl, plus_alloc _ _ _ _⟩

set_option maxHeartbeats 1000000 in
theorem plus_less (M N : Int) (s u : Bool) (w : World) (m0 : 0 ≤ M) (n1 : N ≤ 340282366920938463463374607431768211455) (hl : M < N) (hsu : (s == u) = false) :
    Calls Tryd.prog 79 #[.agg #[.int .u64 (hi64 M), .int .u64 (lo64 M), .bool s], .agg #[.int .u64 (hi64 N), .int .u64 (lo64 N), .bool u]] w fun e w' => e = .returned (.agg #[.int .u64 (hi64 (N - M)), .int .u64 (lo64 (N - M)), .bool u]) ∧ Later w w' := by
  obtain ⟨e1, e2⟩ := sub_words N M m0 (by omega) n1
  obtain ⟨a1, a2⟩ := lo_bd M
  obtain ⟨b1, b2⟩ := lo_bd N
  obtain ⟨c1, c2⟩ := hi_bd M m0 (by omega)
  obtain ⟨d1, d2⟩ := hi_bd N (by omega) (by omega)
  obtain ⟨k1, k2⟩ := bor_bd (lo64 N) (lo64 M)
  have L := fun w => less_any M N w m0 (by omega) (by omega) n1
  have el : lessB M N = true := by unfold lessB; simpa using hl
  rw [el] at L
  have HL := Lib.hid L
  rw [← e2, ← e1]
  clear e1 e2 n1 m0 L el hl
  go_enter Tryd.func79, Tryd.ntmps79
  go_upto_region 6 with (first | simp only [sub64_0 (lo64 N) (lo64 M) b1 b2 a1 a2] | simp only [sub64 (hi64 N) (hi64 M) _ d1 d2 c1 c2 k1 k2] | (go_at_call 105; refine (HL.out _).mono ?_; rintro e w' ⟨rfl, hb⟩; obtain ⟨hc, hf⟩ := bcell hb))
  go_cut [] (fun wx => Later w wx ∧ (wx.cell? ⟨w.heap.size, 0, none⟩ = some (.int .u64 (hi64 N)) ∧ wx.cell? ⟨w.heap.size, 1, none⟩ = some (.int .u64 (lo64 N)) ∧ wx.cell? ⟨w.heap.size, 2, none⟩ = some (.bool u)) ∧
    (wx.cell? ⟨w.heap.size + 1, 0, none⟩ = some (.int .u64 (hi64 M)) ∧ wx.cell? ⟨w.heap.size + 1, 1, none⟩ = some (.int .u64 (lo64 M)) ∧ wx.cell? ⟨w.heap.size + 1, 2, none⟩ = some (.bool s)) ∧
    (wx.cell? ⟨w.heap.size + 1 + 1, 0, none⟩ = some (.int .u64 0) ∧ wx.cell? ⟨w.heap.size + 1 + 1, 1, none⟩ = some (.int .u64 0) ∧ wx.cell? ⟨w.heap.size + 1 + 1, 2, none⟩ = some (.bool false)) ∧ (∀ o, wx.frozen? ⟨w.heap.size + 1 + 1, o, none⟩ = false))
  case first =>
    have k0 : w'.cell? ⟨w.heap.size, 0, none⟩ = some (.int .u64 (hi64 M)) := by rw [hc _ _ (by simp only [World.size_alloc]; omega)]; simp [go_sem]
    have k1 : w'.cell? ⟨w.heap.size, 1, none⟩ = some (.int .u64 (lo64 M)) := by rw [hc _ _ (by simp only [World.size_alloc]; omega)]; simp [go_sem]
    have k2 : w'.cell? ⟨w.heap.size, 2, none⟩ = some (.bool s) := by rw [hc _ _ (by simp only [World.size_alloc]; omega)]; simp [go_sem]
    go_wp2_with fail
    go_meet
    refine ⟨by repeat (first | with_reducible exact Later.refl _ | with_reducible assumption | with_reducible refine Later.ofdrew ?_ | with_reducible refine Later.ofdrewN ?_ | with_reducible refine Later.setCell ?_ ?_ _ | with_reducible refine Later.alloc ?_ _ | with_reducible refine Later.drewN ?_ _ | with_reducible refine Later.drew ?_ | (with_reducible refine Later.trans ?_ (by assumption)) | (simp only [World.size_setCell, World.size_alloc, World.heap_drewN]; omega) | (simp; done) | (simp; omega)), ⟨?_, ?_, ?_⟩, ⟨?_, ?_, ?_⟩, ⟨?_, ?_, ?_⟩, fun o => ?_⟩
    all_goals
      simp [go_sem, k0, k1, k2, hc, hf]
  case rest =>
    obtain ⟨hL, ⟨q0, q1, q2⟩, ⟨r0, r1, r2⟩, ⟨z0, z1, z2⟩, hz⟩ := hcut
    clear hb hc hf
    go_wp2_with (first | simp only [sub64_0 (lo64 N) (lo64 M) b1 b2 a1 a2] | simp only [sub64 (hi64 N) (hi64 M) _ d1 d2 c1 c2 k1 k2] | (go_at_call 105; refine (HL.out _).mono ?_; rintro e w' ⟨rfl, hb⟩; obtain ⟨hc, hf⟩ := bcell hb))
    exact bodyPost_ret (v := .agg #[.int .u64 (lo64 (hi64 N - hi64 M - bor (lo64 N) (lo64 M))), .int .u64 (lo64 (lo64 N - lo64 M)), .bool u]) (by simp [results, Tryd.results79, go_sem, z0, z1, z2]) rfl ⟨rfl, by repeat (first | with_reducible exact Later.refl _ | with_reducible assumption | with_reducible refine Later.ofdrew ?_ | with_reducible refine Later.ofdrewN ?_ | with_reducible refine Later.setCell ?_ ?_ _ | with_reducible refine Later.alloc ?_ _ | with_reducible refine Later.drewN ?_ _ | with_reducible refine Later.drew ?_ | (with_reducible refine Later.trans ?_ (by assumption)) | (simp only [World.size_setCell, World.size_alloc, World.heap_drewN]; omega) | (simp; done) | (simp; omega))⟩

set_option maxHeartbeats 1000000 in
theorem plus_more (M N : Int) (s u : Bool) (w : World) (n0 : 0 ≤ N) (m1 : M ≤ 340282366920938463463374607431768211455) (hl : N ≤ M) (hsu : (s == u) = false) :
    Calls Tryd.prog 79 #[.agg #[.int .u64 (hi64 M), .int .u64 (lo64 M), .bool s], .agg #[.int .u64 (hi64 N), .int .u64 (lo64 N), .bool u]] w fun e w' => e = .returned (.agg #[.int .u64 (hi64 (M - N)), .int .u64 (lo64 (M - N)), .bool s]) ∧ Later w w' := by
  obtain ⟨e1, e2⟩ := sub_words M N n0 (by omega) m1
  obtain ⟨a1, a2⟩ := lo_bd M
  obtain ⟨b1, b2⟩ := lo_bd N
  obtain ⟨c1, c2⟩ := hi_bd M (by omega) (by omega)
  obtain ⟨d1, d2⟩ := hi_bd N (by omega) (by omega)
  obtain ⟨k1, k2⟩ := bor_bd (lo64 M) (lo64 N)
  have L := fun w => less_any M N w (by omega) (by omega) (by omega) (by omega)
  have el : lessB M N = false := by unfold lessB; simpa using hl
  rw [el] at L
  have HL := Lib.hid L
  rw [← e2, ← e1]
  clear e1 e2 m1 n0 L el hl
  go_enter Tryd.func79, Tryd.ntmps79
  go_wp2_with (first | simp only [sub64_0 (lo64 M) (lo64 N) a1 a2 b1 b2] | simp only [sub64 (hi64 M) (hi64 N) _ c1 c2 d1 d2 k1 k2] | (go_at_call 105; refine (HL.out _).mono ?_; rintro e w' ⟨rfl, hb⟩; obtain ⟨hc, hf⟩ := bcell hb))
  exact bodyPost_ret (v := .agg #[.int .u64 (lo64 (hi64 M - hi64 N - bor (lo64 M) (lo64 N))), .int .u64 (lo64 (lo64 M - lo64 N)), .bool s]) (by simp [results, Tryd.results79, go_sem, hc]) rfl ⟨rfl, by repeat (first | with_reducible exact Later.refl _ | with_reducible assumption | with_reducible refine Later.ofdrew ?_ | with_reducible refine Later.ofdrewN ?_ | with_reducible refine Later.setCell ?_ ?_ _ | with_reducible refine Later.alloc ?_ _ | with_reducible refine Later.drewN ?_ _ | with_reducible refine Later.drew ?_ | (with_reducible refine Later.trans ?_ (by assumption)) | (simp only [World.size_setCell, World.size_alloc, World.heap_drewN]; omega) | (simp; done) | (simp; omega))⟩

theorem plus_any (M N : Int) (s u : Bool) (w : World) (m0 : 0 ≤ M) (n0 : 0 ≤ N) (h : M + N ≤ 340282366920938463463374607431768211455) :
    Calls Tryd.prog 79 #[.agg #[.int .u64 (hi64 M), .int .u64 (lo64 M), .bool s], .agg #[.int .u64 (hi64 N), .int .u64 (lo64 N), .bool u]] w fun e w' => e = .returned (.agg #[.int .u64 (hi64 (plusM M s N u)), .int .u64 (lo64 (plusM M s N u)), .bool (plusS M s N u)]) ∧ Later w w' := by
  unfold plusM plusS
  by_cases hs : s = u
  · subst hs
    simp only [if_true]
    exact plus_same M N s w m0 n0 h
  · have hs' : (s == u) = false := by simpa using hs
    simp only [hs, if_false]
    by_cases hl : M < N
    · simp only [hl, if_true]
      exact plus_less M N s u w m0 (by omega) hl hs'
    · simp only [hl, if_false]
      exact plus_more M N s u w n0 (by omega) (by omega) hs'
end Go.Proofs.YtckeaibamgkegaaDoor
