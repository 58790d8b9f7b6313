/- the walk of CashJoins -/
import Derived.Test.YtckeaibamgkegaaDoorCashV
import Derived.Test.YtckeaibamgkegaaDoorCashT
set_option linter.all false
namespace Go.Proofs.YtckeaibamgkegaaDoor
open Go.RowKit
set_option maxRecDepth 100000

theorem partL_app (c : Nat) (a b : List Fl) : partL c (a ++ b) = partL c a ++ partL c b := by unfold partL; rw [List.filter_append, List.map_append]
theorem totI_app (c : Nat) (a b : List Fl) : totI c (a ++ b) = totI c a + totI c b := by unfold totI sumI; rw [partL_app, List.sum_append]
theorem totI_rev (c : Nat) (a : List Fl) : totI c a.reverse = totI c a := by
  induction a with
  | nil => rfl
  | cons x r ih => rw [List.reverse_cons, totI_app, ih, show x :: r = [x] ++ r from rfl, totI_app]; omega
def small (x : Fl) : Prop := -1125899906842624 ≤ x.amt ∧ x.amt ≤ 1125899906842624
theorem totI_bd (c : Nat) : ∀ (l : List Fl), (∀ x ∈ l, small x) → -(l.length * 1125899906842624) ≤ totI c l ∧ totI c l ≤ l.length * 1125899906842624
  | [], _ => by simp [totI, partL, sumI]
  | x :: r, h => by
    have h1 := totI_bd c r (fun y hy => h y (List.mem_cons_of_mem _ hy))
    have h2 := h x (List.mem_cons_self ..)
    have h3 : totI c (x :: r) = (if x.cur == (c : Int) then x.amt else 0) + totI c r := by
      unfold totI partL sumI
      rw [List.filter_cons]
      cases hx : x.cur == (c : Int) <;> simp
    rw [h3, List.length_cons]
    unfold small at h2
    split <;> omega
/-- What Totals answers where nothing may be too great. -/
theorem totals_fn (l : List Fl) (hok : ∀ x ∈ l, x.ok) (hlen : l.length ≤ 100) (hs : ∀ x ∈ l, small x) : ∃ (f : Nat → Int) (er : Int),
    ((er = 10 ∧ ∃ x ∈ l, ¬ curOk x) ∨ (er = 0 ∧ (∀ x ∈ l, curOk x) ∧ f = fun c => totI c l)) ∧
    ∀ (v : Value) (W : World), IsFlows W v l → Calls Tryd.prog 25 #[v] W fun e w' => e = .returned (.tuple #[.agg (tots8 f), .int .i64 er]) ∧ Later W w' := by
  by_cases hg : ∀ x ∈ l, curOk x
  · refine ⟨fun c => totI c l, 0, .inr ⟨rfl, hg, rfl⟩, fun v W hN => (totals_any l hok (by omega) v W hN).mono fun e w' ⟨h, hl⟩ => ⟨?_, hl⟩⟩
    rcases h with ⟨_, x, hx, h⟩ | ⟨_, _, c, _, h⟩ | ⟨h, _⟩
    · exact absurd (hg x hx) h
    · have := totI_bd c l hs
      exact absurd (show I64 (totI c l) from ⟨by omega, by omega⟩) h
    · exact h
  · obtain ⟨x, hx⟩ := Classical.not_forall.1 hg
    obtain ⟨hx, hb⟩ := Classical.not_imp.1 hx
    refine ⟨fun _ => 0, 10, .inl ⟨rfl, x, hx, hb⟩, fun v W hN => (totals_any l hok (by omega) v W hN).mono fun e w' ⟨h, hl⟩ => ⟨?_, hl⟩⟩
    rcases h with ⟨h, _⟩ | ⟨_, h, _⟩ | ⟨_, h, _⟩
    · exact h
    · exact absurd (h x hx) hb
    · exact absurd (h x hx) hb

set_option maxHeartbeats 3200000 in
theorem ljoins_any (a b : List Fl) (ha : ∀ x ∈ a, x.ok) (hb : ∀ x ∈ b, x.ok) (va vb : Value) (w : World) (hA : IsFlows w va a) (hB : IsFlows w vb b) (hL : LibAt w) (hC : CurAt w) :
    Calls Tryd.prog 8 #[va, vb] w fun e w' => e = .returned (.bool true) ∧ Later w w' := by
  have HAW := Lib.hid (fun W (hl : Later w W) => cawake_any W (hL.later hl) (hC.later hl))
  obtain ⟨pa, ca, rfl⟩ := hA.form
  obtain ⟨pb, cb, rfl⟩ := hB.form
  have HA := Lib.hid hA
  have HB := Lib.hid hB
  have HOA := Lib.hid ha
  have HOB := Lib.hid hb
  clear hA hB ha hb hL hC
  obtain ⟨LA, hLA⟩ : ∃ L, a.length = L := ⟨_, rfl⟩
  obtain ⟨LB, hLB⟩ : ∃ L, b.length = L := ⟨_, rfl⟩
  rw [hLA] at HA ⊢
  rw [hLB] at HB ⊢
  have HLA := Lib.hid hLA
  have HLB := Lib.hid hLB
  clear hLA hLB
  by_cases h40 : LA ≤ 40
  case neg =>
    have h1 : (40 : Int) < LA := by omega
    clear h40
    go_enter Tryd.func8, Tryd.ntmps8
    go_wp2_with (go_at_call 16; go_must (refine (HAW.out _ (by repeat (first | with_reducible exact Later.refl _ | with_reducible assumption | with_reducible refine Later.ofdrew ?_ | with_reducible refine Later.ofdrewN ?_ | with_reducible refine Later.setCell ?_ ?_ _ | with_reducible refine Later.alloc ?_ _ | with_reducible refine Later.drewN ?_ _ | with_reducible refine Later.drew ?_ | (with_reducible refine Later.trans ?_ (by assumption)) | (simp only [World.size_setCell, World.size_alloc, World.heap_drewN]; omega) | (simp; done) | (simp; omega)))).mono ?_; rintro e w3 ⟨rfl, hb3⟩))
    go_ret
    exact ⟨rfl, by repeat (first | with_reducible exact Later.refl _ | with_reducible assumption | with_reducible refine Later.ofdrew ?_ | with_reducible refine Later.ofdrewN ?_ | with_reducible refine Later.setCell ?_ ?_ _ | with_reducible refine Later.alloc ?_ _ | with_reducible refine Later.drewN ?_ _ | with_reducible refine Later.drew ?_ | (with_reducible refine Later.trans ?_ (by assumption)) | (simp only [World.size_setCell, World.size_alloc, World.heap_drewN]; omega) | (simp; done) | (simp; omega))⟩
  have h1 : ¬ (40 : Int) < LA := by omega
  by_cases h40b : LB ≤ 40
  case neg =>
    have h1b : (40 : Int) < LB := by omega
    clear h40 h40b
    go_enter Tryd.func8, Tryd.ntmps8
    go_wp2_with (go_at_call 16; go_must (refine (HAW.out _ (by repeat (first | with_reducible exact Later.refl _ | with_reducible assumption | with_reducible refine Later.ofdrew ?_ | with_reducible refine Later.ofdrewN ?_ | with_reducible refine Later.setCell ?_ ?_ _ | with_reducible refine Later.alloc ?_ _ | with_reducible refine Later.drewN ?_ _ | with_reducible refine Later.drew ?_ | (with_reducible refine Later.trans ?_ (by assumption)) | (simp only [World.size_setCell, World.size_alloc, World.heap_drewN]; omega) | (simp; done) | (simp; omega)))).mono ?_; rintro e w3 ⟨rfl, hb3⟩))
    go_ret
    exact ⟨rfl, by repeat (first | with_reducible exact Later.refl _ | with_reducible assumption | with_reducible refine Later.ofdrew ?_ | with_reducible refine Later.ofdrewN ?_ | with_reducible refine Later.setCell ?_ ?_ _ | with_reducible refine Later.alloc ?_ _ | with_reducible refine Later.drewN ?_ _ | with_reducible refine Later.drew ?_ | (with_reducible refine Later.trans ?_ (by assumption)) | (simp only [World.size_setCell, World.size_alloc, World.heap_drewN]; omega) | (simp; done) | (simp; omega))⟩
  have h1b : ¬ (40 : Int) < LB := by omega
  go_enter Tryd.func8, Tryd.ntmps8
  go_wp2
  go_loopw [5, 6] (fun s5 s6 wr => ∃ j : Nat, j ≤ LB ∧ s6 = .int .i64 ((LB : Int) - 1 - j) ∧ wr.ownsRow w.heap.size 49 3 s5 (b.reverse.take j).length ((b.reverse.take j).flatMap flCs) ∧ Later w wr) (fun _ s6 _ => (intOf s6 + 1).toNat)
  case atStart => exact ⟨0, Nat.zero_le _, by simp, World.ownsRow_nil _ _ _ _, Later.refl _⟩
  case round =>
    obtain ⟨j, hj, rfl, hM, hlat⟩ := hrel
    have HM := Lib.hid hM
    have hzb := Later.size hlat
    obtain ⟨p5, c5, rfl⟩ := B.owns_form hM
    clear hM
    by_cases hlt : j < LB
    · obtain ⟨m, hm⟩ : ∃ m : Nat, LB = m + 1 + j := ⟨LB - 1 - j, by omega⟩
      have hmI : (LB : Int) - 1 - j = (m : Int) := by omega
      have hjl : m < b.length := by rw [HLB.out]; omega
      obtain ⟨q, o, cp', hv, hbq, g⟩ := HB.out.full (i := m) hjl
      rw [HLB.out] at hv
      cases hv
      replace g := fun k (hk : k < 3) => ((bcell hlat).1 _ _ hbq).trans (g k hk)
      have g0 := g 0 (by omega)
      have g1 := g 1 (by omega)
      have g2 := g 2 (by omega)
      simp only [flF, Nat.add_zero] at g0 g1 g2
      have HT : Hid (b.reverse.take (j + 1) = b.reverse.take j ++ [b[m]]) := Lib.hid (by
        have hjr : j < b.reverse.length := by rw [List.length_reverse, HLB.out]; exact hlt
        rw [List.take_add_one, List.getElem?_eq_getElem hjr, Option.toList_some, List.getElem_reverse]
        have e : b.length - 1 - j = m := by rw [HLB.out]; omega
        simp only [e])
      generalize b[m] = X at *
      have hlen : (b.reverse.take j).length = j := by rw [List.length_take, List.length_reverse, HLB.out]; omega
      obtain ⟨R, hR⟩ : ∃ R, b.reverse.take j = R := ⟨_, rfl⟩
      rw [hR] at HT HM hlen ⊢
      have hRL : R.length ≤ 1000000 := by omega
      have HMI : Hid ((LB : Int) - 1 - j = (m : Int)) := Lib.hid hmI
      rw [hmI]
      have hwI : IntKind.i64.wrap ((m : Int) - 1) = (LB : Int) - 1 - (j + 1 : Nat) := by rw [IntKind.wrap_i64]; omega
      have hHW := Lib.hid hwI
      have hmlt : (m : Int) < LB := by omega
      obtain ⟨n5, hn5⟩ : ∃ n, R.length = n := ⟨_, rfl⟩
      have HN5 := Lib.hid hn5
      rw [hn5]
      clear hR g HA HOA HOB hlen hmI hm hwI hn5
      go_wp2_with (at_builtin; go_must (refine wpList_flow (base := w.heap.size) X HM.out hzb rfl _ _ rfl (by rw [HN5.out]; rfl) 1 _ rfl rfl hRL ?_; intro v5 w5 h1 h2 h3; obtain ⟨p8, c8, rfl⟩ := B.owns_form h1))
      go_roundw
      case rel =>
        have hlr : Later w w5 := B.grown_lat (hlat.alloc _) h2 (fun k hk => (B.owns_base HM.out k hk).1)
        refine ⟨j + 1, by omega, by have := HMI.out; congr 1; omega, ?_, hlr⟩
        rw [HT.out]
        rw [List.length_append, HN5.out] at h1
        rw [List.length_append, HN5.out]
        exact h1
      case measure =>
        have := HMI.out
        simp [intOf] <;> omega
    · obtain rfl : j = LB := by omega
      have hge : ¬ ((0 : Int) ≤ (j : Int) - 1 - j) := by omega
      have hR : b.reverse.take j = b.reverse := List.take_of_length_le (by rw [List.length_reverse, HLB.out]; exact Nat.le_refl _)
      rw [hR] at HM ⊢
      obtain ⟨R, hR2⟩ : ∃ R, b.reverse = R := ⟨_, rfl⟩
      have hRl : R.length = j := by rw [← hR2, List.length_reverse]; exact HLB.out
      rw [hR2] at HM ⊢
      rw [hRl] at HM ⊢
      have HR2 := Lib.hid hR2
      have HRL := Lib.hid hRl
      have hHA := HA.out.later hlat
      have HAL := Lib.hid hHA
      clear hR hR2 hRl hHA
      go_upto_region 9 with (at_builtin; go_must (refine B.wpList_rows flCs flCs_len flCs_get flCs_one sliceFlow (by rw [HRL.out]; exact HM.out) hzb HAL.out rfl _ _ rfl rfl rfl (by have := HRL.out; have := HLA.out; omega) (by decide) ?_; intro v6 w6 h1 h2 h3; obtain ⟨p6, c6, rfl⟩ := B.owns_form h1))
      have hl6 : Later w w6 := B.grown_lat hlat h2 (fun k hk => (B.owns_base HM.out k hk).1)
      have hC := (owns_flows h1).1
      obtain ⟨C, hCC⟩ : ∃ C, R ++ a = C := ⟨_, rfl⟩
      have HCok : Hid (∀ x ∈ C, x.ok) := Lib.hid (fun x hx => by
        rw [← hCC, ← HR2.out] at hx
        rcases List.mem_append.1 hx with hx | hx
        · exact HOB.out x (List.mem_reverse.1 hx)
        · exact HOA.out x hx)
      have HCa : Hid (∀ x ∈ a, x ∈ C) := Lib.hid (fun x hx => by rw [← hCC]; exact List.mem_append_right _ hx)
      have HCb : Hid (∀ x ∈ b, x ∈ C) := Lib.hid (fun x hx => by rw [← hCC, ← HR2.out]; exact List.mem_append_left _ (List.mem_reverse.2 hx))
      have HCc : Hid (∀ x, x ∈ C → (x ∈ a → curOk x) → (x ∈ b → curOk x) → curOk x) := Lib.hid (fun x hx h1 h2 => by
        rw [← hCC, ← HR2.out] at hx
        rcases List.mem_append.1 hx with hx | hx
        · exact h2 (List.mem_reverse.1 hx)
        · exact h1 hx)
      have HCt : Hid (∀ c, totI c C = totI c a + totI c b) := Lib.hid (fun c => by rw [← hCC, ← HR2.out, totI_app, totI_rev]; omega)
      rw [hCC] at hC
      obtain ⟨N, hN⟩ : ∃ N, C.length = N := ⟨_, rfl⟩
      have hN80 : N ≤ 80 := by rw [← hN, ← hCC, List.length_append]; have := HRL.out; have := HLA.out; omega
      have HN := Lib.hid hN
      have hNN : R.length + a.length = N := by rw [← hN, ← hCC, List.length_append]
      rw [hN] at hC
      rw [hNN]
      have HC := Lib.hid hC
      clear hC hN hCC h1 h2 h3 HM HAL hge
      go_wp2
      go_loopw [7] (fun s7 wr => ∃ i : Nat, i ≤ N ∧ s7 = .int .i64 i ∧ Hid (∀ x ∈ C.take i, small x) ∧ wr = w6) (fun s7 _ => N - (intOf s7).toNat)
      case atStart => exact ⟨0, Nat.zero_le _, rfl, Lib.hid (fun x hx => by simp at hx), rfl⟩
      case round =>
        obtain ⟨i, hi, rfl, HS, rfl⟩ := hrel
        by_cases hlt : i < N
        · have hiI : (i : Int) < N := by omega
          have hil : i < C.length := by rw [HN.out]; exact hlt
          obtain ⟨q, o, cp', hv, hbq, g⟩ := HC.out.full (i := i) hil
          rw [HN.out] at hv
          cases hv
          have g2 := g 2 (by omega)
          simp only [flF] at g2
          have HST : Hid (∀ x ∈ C.take (i + 1), x ∈ C.take i ∨ x = C[i]) := Lib.hid (fun x hx => by
            rw [List.take_add_one, List.getElem?_eq_getElem hil, Option.toList_some, List.mem_append, List.mem_singleton] at hx
            exact hx)
          have HX : Hid (C[i].amt ≤ 1125899906842624 → -1125899906842624 ≤ C[i].amt → small C[i]) := Lib.hid (fun h1 h2 => ⟨h2, h1⟩)
          generalize C[i].amt = M at *
          by_cases hm1 : 1125899906842624 < M
          · clear HS HST HX HC HA g
            go_wp2_with (go_at_call 16; go_must (refine (HAW.out _ (by repeat (first | with_reducible exact Later.refl _ | with_reducible assumption | with_reducible refine Later.ofdrew ?_ | with_reducible refine Later.ofdrewN ?_ | with_reducible refine Later.setCell ?_ ?_ _ | with_reducible refine Later.alloc ?_ _ | with_reducible refine Later.drewN ?_ _ | with_reducible refine Later.drew ?_ | (with_reducible refine Later.trans ?_ (by assumption)) | (simp only [World.size_setCell, World.size_alloc, World.heap_drewN]; omega) | (simp; done) | (simp; omega)))).mono ?_; rintro e w3 ⟨rfl, hb3⟩))
            go_ret
            exact ⟨rfl, by repeat (first | with_reducible exact Later.refl _ | with_reducible assumption | with_reducible refine Later.ofdrew ?_ | with_reducible refine Later.ofdrewN ?_ | with_reducible refine Later.setCell ?_ ?_ _ | with_reducible refine Later.alloc ?_ _ | with_reducible refine Later.drewN ?_ _ | with_reducible refine Later.drew ?_ | (with_reducible refine Later.trans ?_ (by assumption)) | (simp only [World.size_setCell, World.size_alloc, World.heap_drewN]; omega) | (simp; done) | (simp; omega))⟩
          · by_cases hm2 : M < -1125899906842624
            · clear HS HST HX HC HA g
              go_wp2_with (go_at_call 16; go_must (refine (HAW.out _ (by repeat (first | with_reducible exact Later.refl _ | with_reducible assumption | with_reducible refine Later.ofdrew ?_ | with_reducible refine Later.ofdrewN ?_ | with_reducible refine Later.setCell ?_ ?_ _ | with_reducible refine Later.alloc ?_ _ | with_reducible refine Later.drewN ?_ _ | with_reducible refine Later.drew ?_ | (with_reducible refine Later.trans ?_ (by assumption)) | (simp only [World.size_setCell, World.size_alloc, World.heap_drewN]; omega) | (simp; done) | (simp; omega)))).mono ?_; rintro e w3 ⟨rfl, hb3⟩))
              go_ret
              exact ⟨rfl, by repeat (first | with_reducible exact Later.refl _ | with_reducible assumption | with_reducible refine Later.ofdrew ?_ | with_reducible refine Later.ofdrewN ?_ | with_reducible refine Later.setCell ?_ ?_ _ | with_reducible refine Later.alloc ?_ _ | with_reducible refine Later.drewN ?_ _ | with_reducible refine Later.drew ?_ | (with_reducible refine Later.trans ?_ (by assumption)) | (simp only [World.size_setCell, World.size_alloc, World.heap_drewN]; omega) | (simp; done) | (simp; omega))⟩
            · have HS2 : Hid (∀ x ∈ C.take (i + 1), small x) := Lib.hid (fun x hx => by
                rcases HST.out x hx with hx | rfl
                · exact HS.out x hx
                · exact HX.out (by omega) (by omega))
              clear HS HST HX HA g
              go_wp2
              go_roundw
              case rel => exact ⟨i + 1, by omega, by go_num, HS2, trivial⟩
              case measure => simp [intOf]; omega
        · have hge : ¬ ((i : Int) < N) := by omega
          have hall : C.take i = C := List.take_of_length_le (by have := HN.out; omega)
          have hsm := HS.out
          rw [hall] at hsm
          obtain ⟨f1, e1, hc1, hT1⟩ := totals_fn a HOA.out (by have := HLA.out; omega) (fun x hx => hsm x (HCa.out x hx))
          obtain ⟨f2, e2, hc2, hT2⟩ := totals_fn b HOB.out (by have := HLB.out; omega) (fun x hx => hsm x (HCb.out x hx))
          obtain ⟨f3, e3, hc3, hT3⟩ := totals_fn C HCok.out (by have := HN.out; omega) hsm
          have key : ((e1 = 10 ∨ e2 = 10) ∧ e3 = 10) ∨ (e1 = 0 ∧ e2 = 0 ∧ e3 = 0 ∧ ∀ c, c < 8 → I64 (f1 c + f2 c) ∧ f3 c = f1 c + f2 c) := by
            rcases hc1 with ⟨h1, x, hx, hb⟩ | ⟨h1, g1, rfl⟩
            · rcases hc3 with ⟨h3, _⟩ | ⟨_, g3, _⟩
              · exact .inl ⟨.inl h1, h3⟩
              · exact absurd (g3 x (HCa.out x hx)) hb
            · rcases hc2 with ⟨h2, x, hx, hb⟩ | ⟨h2, g2, rfl⟩
              · rcases hc3 with ⟨h3, _⟩ | ⟨_, g3, _⟩
                · exact .inl ⟨.inr h2, h3⟩
                · exact absurd (g3 x (HCb.out x hx)) hb
              · rcases hc3 with ⟨_, x, hx, hb⟩ | ⟨h3, g3, rfl⟩
                · exact absurd (HCc.out x hx (fun hx => g1 x hx) (fun hx => g2 x hx)) hb
                · refine .inr ⟨h1, h2, h3, fun c _ => ⟨?_, HCt.out c⟩⟩
                  have := totI_bd c C hsm
                  have h9 := HCt.out c
                  have h8 := HN.out
                  show I64 (totI c a + totI c b)
                  unfold I64
                  omega
          unfold tots8 at hT1 hT2 hT3
          have HT1 := Lib.hid (fun W (hl : Later wr W) => hT1 _ W ((HA.out.later hl6).later hl))
          have HT2 := Lib.hid (fun W (hl : Later wr W) => hT2 _ W ((HB.out.later hl6).later hl))
          have HT3 := Lib.hid (fun W (hl : Later wr W) => hT3 _ W (HC.out.later hl))
          clear HCc hT1 hT2 hT3 hc1 hc2 hc3 hall hsm HS HC HA HB HCt HCa HCb HCok
          have tok1 : True := trivial
          have tok2 : True := trivial
          go_upto_region 15 with (go_at_call 25; clear tok1; go_must (refine (HT1.out _ (by repeat (first | with_reducible exact Later.refl _ | with_reducible assumption | with_reducible refine Later.ofdrew ?_ | with_reducible refine Later.ofdrewN ?_ | with_reducible refine Later.setCell ?_ ?_ _ | with_reducible refine Later.alloc ?_ _ | with_reducible refine Later.drewN ?_ _ | with_reducible refine Later.drew ?_ | (with_reducible refine Later.trans ?_ (by assumption)) | (simp only [World.size_setCell, World.size_alloc, World.heap_drewN]; omega) | (simp; done) | (simp; omega)))).mono ?_; rintro e w11 ⟨rfl, hb11⟩))
          refine wp_opaque (fun W1 hb1 => ?_)
          have hO1 := Own.one hb1
          have hl1 : Later wr W1 := hb11.trans hb1.un1
          clear hb1 hb11
          go_upto_region 16 with (go_at_call 25; clear tok2; go_must (refine (HT2.out _ (by repeat (first | with_reducible exact Later.refl _ | with_reducible assumption | with_reducible refine Later.ofdrew ?_ | with_reducible refine Later.ofdrewN ?_ | with_reducible refine Later.setCell ?_ ?_ _ | with_reducible refine Later.alloc ?_ _ | with_reducible refine Later.drewN ?_ _ | with_reducible refine Later.drew ?_ | (with_reducible refine Later.trans ?_ (by assumption)) | (simp only [World.size_setCell, World.size_alloc, World.heap_drewN]; omega) | (simp; done) | (simp; omega)))).mono ?_; rintro e w12 ⟨rfl, hb12⟩))
          refine wp_opaque (fun W2 hb2 => ?_)
          have hO2 := Own.one hb2
          have hl2 : Later W1 W2 := hb12.trans hb2.un1
          clear hb2 hb12
          go_upto_region 17 with (go_at_call 25; go_must (refine (HT3.out _ (by repeat (first | with_reducible exact Later.refl _ | with_reducible assumption | with_reducible refine Later.ofdrew ?_ | with_reducible refine Later.ofdrewN ?_ | with_reducible refine Later.setCell ?_ ?_ _ | with_reducible refine Later.alloc ?_ _ | with_reducible refine Later.drewN ?_ _ | with_reducible refine Later.drew ?_ | (with_reducible refine Later.trans ?_ (by assumption)) | (simp only [World.size_setCell, World.size_alloc, World.heap_drewN]; omega) | (simp; done) | (simp; omega)))).mono ?_; rintro e w13 ⟨rfl, hb13⟩))
          refine wp_opaque (fun W3 hb3 => ?_)
          have hO3 := Own.one hb3
          have hl3 : Later W2 W3 := hb13.trans hb3.un1
          clear hb3 hb13
          replace hO1 := (hO1.later hl2).later hl3
          replace hO2 := hO2.later hl3
          have hlw : Later w W3 := by repeat (first | with_reducible exact Later.refl _ | with_reducible assumption | with_reducible refine Later.ofdrew ?_ | with_reducible refine Later.ofdrewN ?_ | with_reducible refine Later.setCell ?_ ?_ _ | with_reducible refine Later.alloc ?_ _ | with_reducible refine Later.drewN ?_ _ | with_reducible refine Later.drew ?_ | (with_reducible refine Later.trans ?_ (by assumption)) | (simp only [World.size_setCell, World.size_alloc, World.heap_drewN]; omega) | (simp; done) | (simp; omega))
          clear HT1 HT2 HT3
          rcases key with ⟨h10, rfl⟩ | ⟨rfl, rfl, rfl, hf⟩
          · clear hO1 hO2 hO3
            by_cases h0 : e1 = 0
            · have h2 : e2 = 10 := by omega
              subst h0 h2
              clear h10
              go_wp2_with (go_at_call 16; go_must (refine (HAW.out _ (by repeat (first | with_reducible exact Later.refl _ | with_reducible assumption | with_reducible refine Later.ofdrew ?_ | with_reducible refine Later.ofdrewN ?_ | with_reducible refine Later.setCell ?_ ?_ _ | with_reducible refine Later.alloc ?_ _ | with_reducible refine Later.drewN ?_ _ | with_reducible refine Later.drew ?_ | (with_reducible refine Later.trans ?_ (by assumption)) | (simp only [World.size_setCell, World.size_alloc, World.heap_drewN]; omega) | (simp; done) | (simp; omega)))).mono ?_; rintro e w3 ⟨rfl, hb3⟩))
              go_ret
              exact ⟨rfl, by repeat (first | with_reducible exact Later.refl _ | with_reducible assumption | with_reducible refine Later.ofdrew ?_ | with_reducible refine Later.ofdrewN ?_ | with_reducible refine Later.setCell ?_ ?_ _ | with_reducible refine Later.alloc ?_ _ | with_reducible refine Later.drewN ?_ _ | with_reducible refine Later.drew ?_ | (with_reducible refine Later.trans ?_ (by assumption)) | (simp only [World.size_setCell, World.size_alloc, World.heap_drewN]; omega) | (simp; done) | (simp; omega))⟩
            · have hb0 : (e1 == 0) = false := by rw [beq_eq_false_iff_ne]; exact h0
              clear h10
              go_wp2_with (go_at_call 16; go_must (refine (HAW.out _ (by repeat (first | with_reducible exact Later.refl _ | with_reducible assumption | with_reducible refine Later.ofdrew ?_ | with_reducible refine Later.ofdrewN ?_ | with_reducible refine Later.setCell ?_ ?_ _ | with_reducible refine Later.alloc ?_ _ | with_reducible refine Later.drewN ?_ _ | with_reducible refine Later.drew ?_ | (with_reducible refine Later.trans ?_ (by assumption)) | (simp only [World.size_setCell, World.size_alloc, World.heap_drewN]; omega) | (simp; done) | (simp; omega)))).mono ?_; rintro e w3 ⟨rfl, hb3⟩))
              go_ret
              exact ⟨rfl, by repeat (first | with_reducible exact Later.refl _ | with_reducible assumption | with_reducible refine Later.ofdrew ?_ | with_reducible refine Later.ofdrewN ?_ | with_reducible refine Later.setCell ?_ ?_ _ | with_reducible refine Later.alloc ?_ _ | with_reducible refine Later.drewN ?_ _ | with_reducible refine Later.drew ?_ | (with_reducible refine Later.trans ?_ (by assumption)) | (simp only [World.size_setCell, World.size_alloc, World.heap_drewN]; omega) | (simp; done) | (simp; omega))⟩
          · have HF := Lib.hid hf
            have HO1 := Lib.hid hO1
            have HO2 := Lib.hid hO2
            have HO3 := Lib.hid hO3
            clear hf hO1 hO2 hO3
            go_wp2
            go_loopw [14] (fun s14 wr => ∃ c : Nat, c ≤ 8 ∧ s14 = .int .i64 c ∧ Later W3 wr) (fun s14 _ => 8 - (intOf s14).toNat)
            case atStart => exact ⟨0, Nat.zero_le _, rfl, Later.refl _⟩
            case round =>
              obtain ⟨c, hc, rfl, hl4⟩ := hrel
              by_cases hlt8 : c < 8
              · have hcI : (c : Int) < 8 := by omega
                obtain ⟨hi, hf3⟩ := HF.out c hlt8
                have get8 : ∀ (f : Nat → Int), (#[.int .i64 (f 0), .int .i64 (f 1), .int .i64 (f 2), .int .i64 (f 3), .int .i64 (f 4), .int .i64 (f 5), .int .i64 (f 6), .int .i64 (f 7)] : Array Value)[c]? = some (.int .i64 (f c)) := fun f => by
                  rcases lt8 hlt8 with rfl | rfl | rfl | rfl | rfl | rfl | rfl | rfl <;> rfl
                have d1 := ((HO1.out.later hl4).1.2.1 c).trans (get8 f1)
                have d2 := ((HO2.out.later hl4).1.2.1 c).trans (get8 f2)
                have d3 := ((HO3.out.later hl4).1.2.1 c).trans (get8 f3)
                rw [hf3] at d3
                generalize f1 c = p at *
                generalize f2 c = q at *
                have hwr : IntKind.i64.wrap (p + q) = p + q := by unfold I64 at hi; rw [IntKind.wrap_i64]; omega
                unfold I64 at hi
                clear hf3 get8 HF HO1 HO2 HO3
                go_upto_region 22 with (fail)
                refine wp_region_plan 11 (.done [0, 1, 2, 3, 4, 5, 6, 7, 8, 9, 10]) (by kernel_rfl) (by kernel_rfl) (fun _ _ d _ _ h => by cases d <;> exact h) ?_
                repeat' (first
                  | (refine plan_done (fun K hK => ?_); (first | (simp only [pick_cons, pick_nil, toList_some_append, List.getElem?_toArray, List.getElem?_cons_zero, List.getElem?_cons_succ]; repeat (go_big_quiet_step (fail))) | simp only [pick_nil]); refine wpQuiet_nil (hK _ ?_); clear hK K)
                  | ((with_reducible refine at_list ?_); go_wp2_with (fail); first | refine behind_store (t := 11) (by decide) ?_ | refine behind (by repeat (first | with_reducible exact Later.refl _ | with_reducible assumption | with_reducible refine Later.ofdrew ?_ | with_reducible refine Later.ofdrewN ?_ | with_reducible refine Later.alloc ?_ _ | with_reducible refine Later.drewN ?_ _ | with_reducible refine Later.drew ?_ | (with_reducible refine Later.trans ?_ (by assumption)))) ?_))
                go_wp2
                go_roundw
                case rel => exact ⟨c + 1, by omega, by go_num, by repeat (first | with_reducible exact Later.refl _ | with_reducible assumption | with_reducible refine Later.ofdrew ?_ | with_reducible refine Later.ofdrewN ?_ | with_reducible refine Later.setCell ?_ ?_ _ | with_reducible refine Later.alloc ?_ _ | with_reducible refine Later.drewN ?_ _ | with_reducible refine Later.drew ?_ | (with_reducible refine Later.trans ?_ (by assumption)) | (simp only [World.size_setCell, World.size_alloc, World.heap_drewN]; omega) | (simp; done) | (simp; omega))⟩
                case measure => simp [intOf]; omega
              · obtain rfl : c = 8 := by omega
                clear HF HO1 HO2 HO3
                go_wp2_with (go_at_call 16; go_must (refine (HAW.out _ (by repeat (first | with_reducible exact Later.refl _ | with_reducible assumption | with_reducible refine Later.ofdrew ?_ | with_reducible refine Later.ofdrewN ?_ | with_reducible refine Later.setCell ?_ ?_ _ | with_reducible refine Later.alloc ?_ _ | with_reducible refine Later.drewN ?_ _ | with_reducible refine Later.drew ?_ | (with_reducible refine Later.trans ?_ (by assumption)) | (simp only [World.size_setCell, World.size_alloc, World.heap_drewN]; omega) | (simp; done) | (simp; omega)))).mono ?_; rintro e w3 ⟨rfl, hb3⟩))
                go_ret
                exact ⟨rfl, by repeat (first | with_reducible exact Later.refl _ | with_reducible assumption | with_reducible refine Later.ofdrew ?_ | with_reducible refine Later.ofdrewN ?_ | with_reducible refine Later.setCell ?_ ?_ _ | with_reducible refine Later.alloc ?_ _ | with_reducible refine Later.drewN ?_ _ | with_reducible refine Later.drew ?_ | (with_reducible refine Later.trans ?_ (by assumption)) | (simp only [World.size_setCell, World.size_alloc, World.heap_drewN]; omega) | (simp; done) | (simp; omega))⟩
end Go.Proofs.YtckeaibamgkegaaDoor
