/- cash: the reference's digits -/
import Derived.Test.YtckeaibamgkegaaDoorCashT
import Derived.Test.YtckeaibamgkegaaDoorRefL
set_option linter.all false
namespace Go.Proofs.YtckeaibamgkegaaDoor
open Go.RowKit
set_option maxRecDepth 100000

theorem valD_lt2 (l : List UInt8) (h : l.all digB = true) : valD 0 l < 2 ^ (4 * l.length) := by
  obtain ⟨n, hn⟩ : ∃ n, l.length = n := ⟨_, rfl⟩
  induction n generalizing l with
  | zero => rw [List.eq_nil_of_length_eq_zero hn]; decide
  | succ n ih =>
    have hne : l ≠ [] := fun e => by rw [e] at hn; simp at hn
    obtain ⟨V, c, rfl⟩ : ∃ V c, l = V ++ [c] := ⟨l.dropLast, l.getLast hne, (List.dropLast_concat_getLast _).symm⟩
    rw [List.all_append, Bool.and_eq_true] at h
    have hc := of_decide_eq_true ((by simpa using h.2 : digB c = true))
    have hV : V.length = n := by simpa using hn
    have := ih V h.1 hV
    rw [valD_snoc, hn, show 4 * (n + 1) = 4 * n + 4 by omega, Nat.pow_add]
    rw [hV] at this
    omega
theorem val_nlen {l : List UInt8} (h : l.all digB = true) (hl : l.length ≤ 1000) : nlen (((valD 0 l : Nat) : Int)).natAbs ≤ 4000 := by
  rw [Int.natAbs_natCast]
  exact Nat.le_trans (nlen_le (valD_lt2 l h)) (by omega)
theorem val10_nlenK {N : Int} {k : Nat} (h0 : 0 ≤ N) (h : nlen N.natAbs ≤ k) : nlen (N * 10).natAbs ≤ k + 10 := by
  refine nlen_le ?_
  have h1 := lt_nlen N.natAbs
  have h2 : 2 ^ nlen N.natAbs ≤ 2 ^ k := Nat.pow_le_pow_right (by decide) h
  have h3 : (N * 10).natAbs = N.natAbs * 10 := by omega
  rw [h3, Nat.pow_add]
  generalize 2 ^ k = P at *
  omega
theorem val10_nlen {N : Int} (h0 : 0 ≤ N) (h : nlen N.natAbs ≤ 4000) : nlen (N * 10).natAbs ≤ 4010 := val10_nlenK h0 h
theorem isZ_open {w : World} {pk : Option Addr} {m kk n : Nat} (h : IsZ w (.agg #[.bool false, .slice pk m kk]) ((n : Nat) : Int)) : Num w (.slice pk m kk) n := by
  obtain ⟨v, h1, h2⟩ := h
  have h3 := congrArg (fun x => match x with | Value.agg a => a[1]? | _ => none) h1
  have h4 : v = .slice pk m kk := by simpa using h3.symm
  subst h4
  rwa [Int.natAbs_natCast] at h2
theorem take_snoc {l : List UInt8} {j : Nat} (h : j < l.length) : l.take (j + 1) = l.take j ++ [l[j]] := by
  rw [List.take_add_one, List.getElem?_eq_getElem h]; rfl

/-- What the reference's digits answers. -/
def RDig (l : List UInt8) (e : Ending) (w' : World) : Prop := ∃ r n b, e = .returned (.tuple #[r, .bool b]) ∧ IsBig w' r false n ∧ b = (!l.isEmpty && l.all digB) ∧ (b = true → n = valD 0 l)
theorem RDig.mk {l : List UInt8} {w' : World} {r : Value} {n : Nat} {b : Bool} (h1 : IsBig w' r false n) (h2 : b = (!l.isEmpty && l.all digB)) (h3 : b = true → n = valD 0 l) : RDig l (.returned (.tuple #[r, .bool b])) w' := ⟨r, n, b, rfl, h1, h2, h3⟩

set_option maxHeartbeats 4000000 in
theorem rdig_any (l : List UInt8) (hl : l.length ≤ 1000) (w : World) :
    Calls Tryd.prog 42 #[.string ⟨l.toArray⟩] w fun e w' => RDig l e w' ∧ Later w w' := by
  obtain ⟨S, hS⟩ : ∃ S, ByteArray.mk l.toArray = S := ⟨_, rfl⟩
  have hsz : S.size = l.length := by rw [← hS, ba_len]
  have HG : Hid (∀ i (h : i < S.size) (h' : i < l.length), S[i] = l[i]) := Lib.hid (fun i h h' => by subst hS; rfl)
  rw [hS]
  have HSZ := Lib.hid hsz
  have hS1 : S.size ≤ 1000 := by omega
  clear hS hsz
  go_enter Tryd.func42, Tryd.ntmps42
  go_upto_region 2 with (fail)
  refine wp_opaque (fun W8 hb8 => ?_)
  have hO8 := Own.two hb8
  have hw8 := hb8.un1.un1
  clear hb8
  go_wp2
  go_loopw [5] (fun s5 wr => ∃ (j : Nat) (pk : Option Addr) (n kk : Nat), j ≤ S.size ∧ s5 = .int .i64 j ∧ Hid ((l.take j).all digB = true) ∧ Own wr [(w.heap.size, #[.bool false, .slice none 0 0]), (w.heap.size + 1, #[.bool false, .slice pk n kk])] ∧ IsZ wr (.agg #[.bool false, .slice pk n kk]) ((valD 0 (l.take j) : Nat) : Int) ∧ Later w wr) (fun s5 _ => S.size - (intOf s5).toNat)
  case atStart => exact ⟨0, none, 0, 0, Nat.zero_le _, rfl, Lib.hid rfl, hO8, ⟨.slice none 0 0, rfl, (show (0 : Nat) < 2 ^ 0 by decide), .inl ⟨rfl, rfl⟩⟩, hw8⟩
  case round =>
    obtain ⟨j, pk, n, kk, hj, rfl, HA, hO, hZ, hlat⟩ := hrel
    clear hO8 hw8
    have HO := Lib.hid hO
    obtain ⟨⟨z0, c0, f0⟩, ⟨z1, c1, f1⟩, -⟩ := hO
    have HZ := Lib.hid hZ
    clear hZ
    by_cases hlt : j < S.size
    · have hltI : (j : Int) < S.size := by omega
      have hjl : j < l.length := by rw [← HSZ.out]; exact hlt
      have hg := HG.out j hlt hjl
      by_cases hd : digB l[j] = true
      · have hd' := of_decide_eq_true hd
        rw [← hg] at hd'
        have hg1 : ¬ ((S[j].toNat : Int) < 48) := by omega
        have hg2 : ¬ (57 < (S[j].toNat : Int)) := by omega
        have hb1 := Lib.hid (val_nlen HA.out (by rw [List.length_take]; omega))
        have HST : Hid (((valD 0 (l.take (j + 1)) : Nat) : Int) = ((valD 0 (l.take j) : Nat) : Int) * 10 + ((S[j].toNat : Int) - 48)) := Lib.hid (by
          rw [take_snoc hjl, valD_snoc, ← hg]; omega)
        have HA2 : Hid ((l.take (j + 1)).all digB = true) := Lib.hid (by rw [take_snoc hjl, List.all_append, HA.out]; simpa using hd)
        obtain ⟨N, hN⟩ : ∃ N : Int, ((valD 0 (l.take j) : Nat) : Int) = N := ⟨_, rfl⟩
        rw [hN] at HST HZ hb1
        have hN0 : Hid (0 ≤ N) := Lib.hid (by omega)
        have hb2 : Hid (nlen (N * 10).natAbs ≤ 4010) := Lib.hid (val10_nlen hN0.out hb1.out)
        have hb9 : Hid (nlen ((S[j].toNat : Int) - 48).natAbs ≤ 90000) := Lib.hid (Nat.le_trans (nlen_le (L := 10) (by omega)) (by decide))
        have HOF := Lib.hid (fun W => rof_any ((S[j].toNat : Int) - 48) W (by omega) (by omega))
        clear hN hg hd hd' HG HA
        have tok1 : True := trivial
        go_wp2
        refine wp_region_plan 10 (.one [0, 3, 4, 5, 6, 7] 1 (.one [] 2 (.one [] 8 (.one [] 9 (.one [] 10 (.done [])))))) (by kernel_rfl) (by kernel_rfl) (fun _ _ d _ _ h => by cases d <;> exact h) ?_
        repeat' (first
          | (refine plan_done (fun K hK => ?_); (first | (simp only [pick_cons, pick_nil, toList_some_append, List.getElem?_toArray, List.getElem?_cons_zero, List.getElem?_cons_succ]; repeat (go_big_quiet_step (fail))) | simp only [pick_nil]); refine wpQuiet_nil (hK _ ?_); clear hK K)
          | (refine plan_one (by rfl) (fun K hK => ?_); (first | (simp only [pick_cons, pick_nil, toList_some_append, List.getElem?_toArray, List.getElem?_cons_zero, List.getElem?_cons_succ]; repeat (go_big_quiet_step (fail))) | simp only [pick_nil]); refine wpQuiet_nil (hK _ ?_); clear hK K)
          | ((with_reducible refine at_list ?_); go_wp2_with (first | (go_at_call 56; clear tok1; go_must (refine (rof_any 10 _ (by decide) (by decide)).mono ?_; rintro e w3 ⟨r3, rfl, hr3, hb3⟩; have HO4 := Lib.hid (HO.out.later (Later.undrew hb3)))) | (go_at_call 75; go_must (refine (rmul_any _ _ N 10 _ (HZ.out.later (by repeat (first | with_reducible exact Later.refl _ | with_reducible assumption | with_reducible refine Later.ofdrew ?_ | with_reducible refine Later.ofdrewN ?_ | with_reducible refine Later.setCell ?_ ?_ _ | with_reducible refine Later.alloc ?_ _ | with_reducible refine Later.drewN ?_ _ | with_reducible refine Later.drew ?_ | (with_reducible refine Later.trans ?_ (by assumption)) | (simp only [World.size_setCell, World.size_alloc, World.heap_drewN]; omega) | (simp; done) | (simp; omega)))) hr3 (Nat.le_trans hb1.out (by decide)) (by decide +kernel)).mono ?_; rintro e w4 ⟨r4, rfl, hr4, hb4⟩)) | (go_at_call 56; go_must (refine (HOF.out _).mono ?_; rintro e w5 ⟨r5, rfl, hr5, hb5⟩)) | (go_at_call 74; go_must (refine (radd_any _ _ (N * 10) ((S[j].toNat : Int) - 48) _ (hr4.later (by repeat (first | with_reducible exact Later.refl _ | with_reducible assumption | with_reducible refine Later.ofdrew ?_ | with_reducible refine Later.ofdrewN ?_ | with_reducible refine Later.setCell ?_ ?_ _ | with_reducible refine Later.alloc ?_ _ | with_reducible refine Later.drewN ?_ _ | with_reducible refine Later.drew ?_ | (with_reducible refine Later.trans ?_ (by assumption)) | (simp only [World.size_setCell, World.size_alloc, World.heap_drewN]; omega) | (simp; done) | (simp; omega)))) hr5 (Nat.le_trans hb2.out (by decide)) hb9.out).mono ?_; rintro e w6 ⟨r, rfl, hr6, hb6⟩; obtain ⟨pk2, kk2, er6, hr7⟩ := hr6.open; subst er6; have hO5 := HO4.out.later ((Later.trans hb4 hb5).trans hb6); clear z0 c0 f0 z1 c1 f1; obtain ⟨⟨z0, c0, f0⟩, ⟨z1, c1, f1⟩, -⟩ := id hO5))); first | refine behind_store (t := 10) (by decide) ?_ | refine behind (by repeat (first | with_reducible exact Later.refl _ | with_reducible assumption | with_reducible refine Later.ofdrew ?_ | with_reducible refine Later.ofdrewN ?_ | with_reducible refine Later.alloc ?_ _ | with_reducible refine Later.drewN ?_ _ | with_reducible refine Later.drew ?_ | (with_reducible refine Later.trans ?_ (by assumption)))) ?_))
        go_wp2
        go_roundw
        case rel =>
          have hb4' := hlat.trans ((Later.undrew hb3).trans ((hb4.trans hb5).trans hb6))
          have hfar : ∀ z : Nat × Array Value, z ∈ [(w.heap.size, #[Value.bool false, .slice none 0 0])] → z.1 ≠ w.heap.size + 1 := by
            intro z hz; simp only [List.mem_cons, List.not_mem_nil, or_false] at hz; subst hz; simp
          have hD : decide (N * 10 + ((S[j].toNat : Int) - 48) < 0) = false := decide_eq_false (by have := hN0.out; omega)
          simp only [hD]
          refine ⟨j + 1, pk2, nlen (N * 10 + ((S[j].toNat : Int) - 48)).natAbs, kk2, by omega, by go_num, HA2, ?_, ?_, (hb4'.putCell (by omega) _).putCell (by omega) _⟩
          · exact ⟨(((own_split hO5).1.set_far hfar).set_far hfar).1, own_set2 (own_split hO5).2⟩
          · rw [HST.out]; exact ⟨_, by rw [hD], hr7.set2 c1⟩
        case measure => simp [intOf]; omega
      · have hge : digB l[j] = false := by simpa using hd
        have hg3 : (S[j].toNat : Int) < 48 ∨ 57 < (S[j].toNat : Int) := by
          rw [hg]
          have h9 := of_decide_eq_false hge
          omega
        have HF : Hid (l.all digB = false) := Lib.hid (by
          rw [Bool.eq_false_iff]; intro e
          exact hd (List.all_eq_true.1 e _ (List.getElem_mem hjl)))
        obtain ⟨N, hN⟩ : ∃ N, valD 0 (l.take j) = N := ⟨_, rfl⟩
        rw [hN] at HZ
        have h9 := isZ_open HZ.out
        obtain ⟨e0, e1, hI⟩ := big_end (s := false) c0 h9
        have HI := Lib.hid hI
        clear hN hg hd hge HG HA HZ HO h9 hI
        by_cases h48 : (S[j].toNat : Int) < 48
        · clear hg3
          go_wp2
          exact bodyPost_ret (v := .tuple #[.agg #[.bool false, .slice pk n kk], .bool false]) (by simp [results, Tryd.results42, go_sem, e0, e1]) rfl ⟨RDig.mk HI.out (by rw [HF.out]; simp) (fun h => by cases h), (hlat.putCell (by omega) _).putCell (by omega) _⟩
        · have h57 : 57 < (S[j].toNat : Int) := by omega
          clear hg3
          go_wp2
          exact bodyPost_ret (v := .tuple #[.agg #[.bool false, .slice pk n kk], .bool false]) (by simp [results, Tryd.results42, go_sem, e0, e1]) rfl ⟨RDig.mk HI.out (by rw [HF.out]; simp) (fun h => by cases h), (hlat.putCell (by omega) _).putCell (by omega) _⟩
    · have hge : ¬ ((j : Int) < S.size) := by omega
      have hall : l.take j = l := List.take_of_length_le (by have := HSZ.out; omega)
      rw [hall] at HZ HA
      obtain ⟨N, hN⟩ : ∃ N, valD 0 l = N := ⟨_, rfl⟩
      rw [hN] at HZ
      have HN := Lib.hid hN
      have h9 := isZ_open HZ.out
      obtain ⟨e0, e1, hI⟩ := big_end (s := false) c0 h9
      have HI := Lib.hid hI
      clear hN HG HZ HO h9 hI hall
      by_cases h0 : S.size = 0
      · have h0I : ¬ ((0 : Int) < S.size) := by omega
        have HE : Hid (l.isEmpty = true) := Lib.hid (by have := HSZ.out; rw [h0] at this; rw [List.eq_nil_of_length_eq_zero this.symm]; rfl)
        have HE0 : Hid (S = ByteArray.empty) := Lib.hid (ByteArray.ext (Array.eq_empty_of_size_eq_zero h0))
        clear h0
        go_wp2
        exact bodyPost_ret (v := .tuple #[.agg #[.bool false, .slice pk n kk], .bool false]) (by simp [results, Tryd.results42, go_sem, e0, e1]; exact HE0.out) rfl ⟨RDig.mk HI.out (by rw [HE.out]; simp) (fun h => by cases h), (hlat.putCell (by omega) _).putCell (by omega) _⟩
      · have h0I : (0 : Int) < S.size := by omega
        have HE : Hid (l.isEmpty = false) := Lib.hid (by have := HSZ.out; cases l with | nil => exact absurd this h0 | cons _ _ => rfl)
        clear h0
        go_wp2
        exact bodyPost_ret (v := .tuple #[.agg #[.bool false, .slice pk n kk], .bool true]) (by simp [results, Tryd.results42, go_sem, e0, e1]; omega) rfl ⟨RDig.mk HI.out (by rw [HE.out, HA.out]; rfl) (fun _ => HN.out.symm), (hlat.putCell (by omega) _).putCell (by omega) _⟩
end Go.Proofs.YtckeaibamgkegaaDoor
