/- audit's reference: own -/
import Derived.Test.YtckeaibamgkegaaGreatDoorQ23
set_option linter.all false
set_option linter.all false
section
/- audit's reference: own -/
namespace Go.Proofs.YtckeaibamgkegaaGreatDoor
open Go.RowKit
set_option maxRecDepth 100000

set_option maxHeartbeats 8000000 in
theorem rown_any (l : List Rw) (hlen : l.length ≤ 10000) (hw : ∀ r ∈ l, I64 r.amt) (n : Nat) (hn : n < (groups l).length) (v vs : Value) (w : World) (hN : IsRow 9 rwF w v l) (hS : IsInts w vs (startsG l)) :
    Calls Tryz.prog 22 #[v, vs, .int .i64 n] w fun e w' => e = .returned (.int .i64 (ownG (groups l) n)) ∧ Later w w' := by
  have hGL : (groups l).length ≤ l.length := by
    have := groups_bd l []
    simpa [groups] using this
  have hlt := offG_lt l hn
  have hsl := startsG_len l
  have hSA := fun i (hi : i < (startsG l).length) => startsG_at l hi
  have HSP := Lib.hid (fun W (hl : Later w W) => rspan_any l (by omega) _ _ (seg_groups l hn) v W (hN.later hl))
  obtain ⟨gb, go, gc, rfl, hgb, hC⟩ := rows_cells hN (by omega)
  obtain ⟨sb, so, sc, rfl, hsb, hSC⟩ := ints_cells hS (by omega)
  have hgr := group_rows l hn
  have hprev : 0 < n → (hd ((groups l).getD (n - 1) [])) = l.getD (offG (groups l) (n - 1)) rw0 ∧ offG (groups l) (n - 1) < l.length := fun h => by
    have h1 : n - 1 < (groups l).length := by omega
    rw [getD_at h1]
    exact ⟨(group_rows l h1).2.1, (offG_lt l h1).1⟩
  have hrest := fun h => ownG_rest hn h
  have hform := fun h => ownG_form hn h
  rw [getD_at hn] at hrest
  have hmem : ∀ x ∈ (groups l)[n], x ∈ l := fun x hx => by
    have := groups_flat l
    rw [← this]
    exact List.mem_flatten.2 ⟨_, List.getElem_mem hn, hx⟩
  have hgl2 : ((groups l)[n]).length ≤ l.length := by omega
  have hSA2 : ∀ i, i < (groups l).length → (startsG l).getD i 0 = ((offG (groups l) i : Nat) : Int) := fun i hi => by
    have hi' : i < (startsG l).length := by rw [hsl]; exact hi
    rw [getD_at hi']
    exact hSA i hi'
  have HSC := Lib.hid (fun W (hl : Later w W) i (hi : i < (groups l).length) => (hSC W hl i (by rw [hsl]; exact hi)).trans (by rw [hSA2 i hi]))
  have HC := Lib.hid hC
  clear hN hS hSA hSA2 hSC hC
  rw [hsl]
  clear hsl
  have HX : ∃ (own : Int) (g : List Rw) (G a b : Nat), Hid (ownG (groups l) n = own) ∧ Hid ((groups l)[n] = g) ∧ Hid ((groups l).length = G) ∧ Hid (offG (groups l) n = a) ∧ Hid (offG (groups l) (n + 1) = b) := ⟨_, _, _, _, _, Lib.hid rfl, Lib.hid rfl, Lib.hid rfl, Lib.hid rfl, Lib.hid rfl⟩
  obtain ⟨own, g, G, a, b, hown, hg, hG, ha, hb⟩ := HX
  simp only [hg.out, hG.out, ha.out, hb.out, hown.out] at hn hGL hlt HSP hgr hrest hform hmem hgl2 HSC ⊢
  have hsn := fun W hl => (HSC.out W hl n hn)
  simp only [ha.out] at hsn
  have hsp := fun W hl => (HSC.out W hl (n - 1) (by omega))
  obtain ⟨pv, hpv⟩ : ∃ p, offG (groups l) (n - 1) = p := ⟨_, rfl⟩
  rw [hpv] at hprev
  simp only [hpv] at hsp
  obtain ⟨hab, hhd, hrw⟩ := hgr
  obtain ⟨x, hx⟩ : ∃ x, hd g = x := ⟨_, rfl⟩
  rw [hx] at hhd
  have HF : Hid (∀ i, a ≤ i → i < b → formTo g n (i + 1 - a) = (formTo g n (i - a) && eqTo (l.getD i rw0) x 8)) := Lib.hid (fun i h1 h2 => by
    obtain ⟨h3, h4⟩ := hrw i h1 h2
    rw [show i + 1 - a = (i - a) + 1 by omega, formTo_step h3, h4, hx])
  have HA : Hid (∀ i, a ≤ i → i < b → (g.take (i + 1 - a)).map (·.amt) = (g.take (i - a)).map (·.amt) ++ [(l.getD i rw0).amt]) := Lib.hid (fun i h1 h2 => by
    obtain ⟨h3, h4⟩ := hrw i h1 h2
    rw [show i + 1 - a = (i - a) + 1 by omega, List.take_add_one, List.getElem?_eq_getElem h3, Option.toList_some, List.map_append, h4]; rfl)
  have hf0 : formTo g n 0 = decide ((l.getD a rw0).no = n) := by unfold formTo; rw [hx, hhd]; simp
  have HF0 := Lib.hid hf0
  have HSUM := Lib.hid (fun u W h => rsum_any (g.map (·.amt)) (fun y hy => by obtain ⟨z, hz, rfl⟩ := List.mem_map.1 hy; exact hw z (hmem z hz)) (by rw [List.length_map]; omega) u W h)
  have HINT := Lib.hid (fun r W h => isum_any (g.map (·.amt)) (fun y hy => by obtain ⟨z, hz, rfl⟩ := List.mem_map.1 hy; exact hw z (hmem z hz)) (by rw [List.length_map]; omega) r W h)
  simp only [hx] at hrest
  have HREST := Lib.hid hrest
  have HFORM := Lib.hid hform
  have HPREV := Lib.hid hprev
  have HSN := Lib.hid hsn
  have HSPV := Lib.hid hsp
  have HHD := Lib.hid hhd
  have HGN := Lib.hid (show g.length = b - a by omega)
  clear hab
  clear hown hg hG ha hb hrest hform hprev hf0 hmem hw hrw hsn hsp hhd hx HSC hpv
  obtain ⟨L, hLL⟩ : ∃ L, l.length = L := ⟨_, rfl⟩
  simp only [hLL] at HC hGL hlen hlt hgl2 HSP HPREV ⊢
  clear hLL
  have hga0 := fun W (hl : Later w W) => HC.out W hl a hlt.1 0 (by omega)
  rw [Nat.add_zero] at hga0
  simp only [Rw.nums, List.getD_cons_zero] at hga0
  obtain ⟨A0, hA0⟩ : ∃ z, (l.getD a rw0).no = z := ⟨_, rfl⟩
  rw [hA0] at hga0 HF0
  have hga1 := hga0 w (Later.refl _)
  have hsn0 := HSN.out w (Later.refl _)
  go_enter Tryz.func22, Tryz.ntmps22
  clear hA0
  obtain ⟨c9, hc9⟩ : ∃ c, (A0 == (n : Int)) = c := ⟨_, rfl⟩
  have HF00 : Hid (formTo g n 0 = c9) := Lib.hid (by rw [HF0.out, ← hc9]; rfl)
  clear HF0
  go_upto_region 3 with (go_at_call 53; go_must (refine (HSP.out _ (by repeat (first | with_reducible exact Later.refl _ | with_reducible assumption | with_reducible refine Later.ofdrew ?_ | with_reducible refine Later.ofdrewN ?_ | with_reducible refine Later.setCell ?_ ?_ _ | with_reducible refine Later.alloc ?_ _ | with_reducible refine Later.drewN ?_ _ | with_reducible refine Later.drew ?_ | (with_reducible refine Later.trans ?_ (by assumption)) | (simp only [World.size_setCell, World.size_alloc, World.heap_drewN]; omega) | (simp; done) | (simp; omega)))).mono ?_; rintro e w4 ⟨rfl, hb4⟩))
  have hb3 : Later w w4 := by repeat (first | with_reducible exact Later.refl _ | with_reducible assumption | with_reducible refine Later.ofdrew ?_ | with_reducible refine Later.ofdrewN ?_ | with_reducible refine Later.setCell ?_ ?_ _ | with_reducible refine Later.alloc ?_ _ | with_reducible refine Later.drewN ?_ _ | with_reducible refine Later.drew ?_ | (with_reducible refine Later.trans ?_ (by assumption)) | (simp only [World.size_setCell, World.size_alloc, World.heap_drewN]; omega) | (simp; done) | (simp; omega))
  have hga3 := hga0 w4 hb3
  clear hga1 hsn0
  have hgz := Nat.lt_of_lt_of_le hgb (Later.size hb3)
  go_upto_block 0 with (fail)
  refine wp_opaque (fun W8 hb8 => ?_)
  have hw8 : Later w W8 := Later.trans (by repeat (first | with_reducible exact Later.refl _ | with_reducible assumption | with_reducible refine Later.ofdrew ?_ | with_reducible refine Later.ofdrewN ?_ | with_reducible refine Later.setCell ?_ ?_ _ | with_reducible refine Later.alloc ?_ _ | with_reducible refine Later.drewN ?_ _ | with_reducible refine Later.drew ?_ | (with_reducible refine Later.trans ?_ (by assumption)) | (simp only [World.size_setCell, World.size_alloc, World.heap_drewN]; omega) | (simp; done) | (simp; omega))) hb8
  clear hga0 hga3 hb8 hgz
  go_cut [9, 10] (fun s9 s10 wx => s9 = .bool (formTo g n g.length) ∧ ∃ q, q ≤ L ∧ Mine w 3 1 wx s10 q ((g.map (·.amt)).map (Value.int .i64)))
  case first =>
    go_wp2_with fail
    go_loopw [9, 10, 11] (fun s9 s10 s11 wr => ∃ i q : Nat, a ≤ i ∧ i ≤ b ∧ s11 = .int .i64 i ∧ s9 = .bool (formTo g n (i - a)) ∧ Mine w 3 1 wr s10 q (((g.take (i - a)).map (·.amt)).map (Value.int .i64))) (fun _ _ s11 _ => b - (intOf s11).toNat)
    case atStart => exact ⟨a, 0, Nat.le_refl _, by omega, rfl, by rw [Nat.sub_self, HF00.out]; try rw [hc9], by rw [Nat.sub_self]; exact Mine.nil hw8⟩
    case round =>
      obtain ⟨i, q, hai, hib, rfl, rfl, hM⟩ := hrel
      have hlat := hM.lat
      have hq : q ≤ L := by
        have h1 := hM.ints.2
        rw [List.length_map, List.length_take] at h1
        omega
      obtain ⟨p3, c3, rfl⟩ := hM.form
      have HM := Lib.hid hM
      clear hM
      by_cases hlt2 : i < b
      · have hiL : i < L := by omega
        have HFi := HF.out i hai hlt2
        have HAi := Lib.hid (HA.out i hai hlt2)
        obtain ⟨f0, hf0⟩ : ∃ f0, formTo g n (i - a) = f0 := ⟨_, rfl⟩
        rw [hf0] at HFi ⊢
        have HFI := Lib.hid HFi
        clear HFi hf0
        have HCI := Lib.hid (fun W (hl : Later w W) j hj => HC.out W hl i hiL j hj)
        have HCA := Lib.hid (fun W (hl : Later w W) j hj => HC.out W hl a hlt.1 j hj)
        rw [← HHD.out] at HCA
        have HMW := Lib.hid (fun W (h : Later wr W) => HM.out.later h)
        have hqb : q ≤ 10000 := by omega
        clear HC HF HA HSUM HINT HREST HFORM HPREV HSN HSPV HHD HGN HM HSP HF00
        generalize l.getD i rw0 = y at *
        obtain ⟨wo, rfl⟩ : ∃ wo : World, wo = wr := ⟨_, rfl⟩
        go_wp2
        go_loopw [9, 12] (fun s9 s12 wr => ∃ k : Nat, k ≤ 8 ∧ s12 = .int .i64 k ∧ s9 = .bool (f0 && eqTo y x k) ∧ Later wo wr) (fun _ s12 _ => 8 - (intOf s12).toNat)
        case atStart => exact ⟨0, by omega, rfl, by rw [eqTo_zero, Bool.and_true], Later.refl _⟩
        case round =>
          obtain ⟨k, hk, rfl, rfl, hlq⟩ := hrel
          by_cases hkt : k < 8
          · have hkI : (k : Int) < 8 := by omega
            have hk9 : (k : Int) < 9 := by omega
            have cy := HCI.out _ (hlat.trans hlq) k (by omega)
            have cx := HCA.out _ (hlat.trans hlq) k (by omega)
            have hgz := Nat.lt_of_lt_of_le hgb (Later.size (hlat.trans hlq))
            have HEQ := eqTo_step y x k
            obtain ⟨fb, hfb⟩ : ∃ fb, (f0 && eqTo y x k) = fb := ⟨_, rfl⟩
            have HFB : Hid ((f0 && eqTo y x (k + 1)) = (fb && (decide (k = 6) || decide (y.nums.getD k 0 = x.nums.getD k 0)))) := Lib.hid (by rw [HEQ, ← hfb, Bool.and_assoc])
            rw [hfb]
            clear HEQ hfb HCI HCA HFI HAi HMW
            obtain ⟨yk, hyk⟩ : ∃ z, y.nums.getD k 0 = z := ⟨_, rfl⟩
            obtain ⟨xk, hxk⟩ : ∃ z, x.nums.getD k 0 = z := ⟨_, rfl⟩
            rw [hyk] at cy HFB
            rw [hxk] at cx HFB
            clear hyk hxk
            cases fb
            · go_upto_region 11 with (fail)
              refine wp_region_plan 21 (.done [0, 1, 2, 3, 4, 5, 6, 7, 8, 9, 10, 11, 12, 13, 14, 15, 16, 17, 18, 19, 20]) (by kernel_rfl) (by kernel_rfl) (fun _ _ d _ _ h => by cases d <;> exact h) ?_
              repeat' (first
                | (refine plan_done (fun K hK => ?_); (first | (simp only [pick_cons, pick_nil, toList_some_append, List.getElem?_toArray, List.getElem?_cons_zero, List.getElem?_cons_succ]; repeat (go_big_quiet_step (fail))) | simp only [pick_nil]); refine wpQuiet_nil (hK _ ?_); clear hK K)
                | ((with_reducible refine at_list ?_); go_wp2_with (fail); first | refine behind_store (t := 21) (by decide) ?_ | refine behind (by repeat (first | with_reducible exact Later.refl _ | with_reducible assumption | with_reducible refine Later.ofdrew ?_ | with_reducible refine Later.ofdrewN ?_ | with_reducible refine Later.alloc ?_ _ | with_reducible refine Later.drewN ?_ _ | with_reducible refine Later.drew ?_ | (with_reducible refine Later.trans ?_ (by assumption)))) ?_))
              go_wp2
              go_roundw
              case rel => exact ⟨k + 1, by omega, by go_num, by rw [HFB.out]; rfl, by repeat (first | with_reducible exact Later.refl _ | with_reducible assumption | with_reducible refine Later.ofdrew ?_ | with_reducible refine Later.ofdrewN ?_ | with_reducible refine Later.setCell ?_ ?_ _ | with_reducible refine Later.alloc ?_ _ | with_reducible refine Later.drewN ?_ _ | with_reducible refine Later.drew ?_ | (with_reducible refine Later.trans ?_ (by assumption)) | (simp only [World.size_setCell, World.size_alloc, World.heap_drewN]; omega) | (simp; done) | (simp; omega))⟩
              case measure => simp [intOf]; omega
            · by_cases h6 : k = 6
              · have h6b : ((k : Int) == 6) = true := by rw [beq_iff_eq]; omega
                go_upto_region 11 with (fail)
                refine wp_region_plan 21 (.done [0, 1, 2, 3, 4, 5, 6, 7, 8, 9, 10, 11, 12, 13, 14, 15, 16, 17, 18, 19, 20]) (by kernel_rfl) (by kernel_rfl) (fun _ _ d _ _ h => by cases d <;> exact h) ?_
                repeat' (first
                  | (refine plan_done (fun K hK => ?_); (first | (simp only [pick_cons, pick_nil, toList_some_append, List.getElem?_toArray, List.getElem?_cons_zero, List.getElem?_cons_succ]; repeat (go_big_quiet_step (fail))) | simp only [pick_nil]); refine wpQuiet_nil (hK _ ?_); clear hK K)
                  | ((with_reducible refine at_list ?_); go_wp2_with (fail); first | refine behind_store (t := 21) (by decide) ?_ | refine behind (by repeat (first | with_reducible exact Later.refl _ | with_reducible assumption | with_reducible refine Later.ofdrew ?_ | with_reducible refine Later.ofdrewN ?_ | with_reducible refine Later.alloc ?_ _ | with_reducible refine Later.drewN ?_ _ | with_reducible refine Later.drew ?_ | (with_reducible refine Later.trans ?_ (by assumption)))) ?_))
                go_wp2
                go_roundw
                case rel => exact ⟨k + 1, by omega, by go_num, by rw [HFB.out, decide_eq_true h6]; rfl, by repeat (first | with_reducible exact Later.refl _ | with_reducible assumption | with_reducible refine Later.ofdrew ?_ | with_reducible refine Later.ofdrewN ?_ | with_reducible refine Later.setCell ?_ ?_ _ | with_reducible refine Later.alloc ?_ _ | with_reducible refine Later.drewN ?_ _ | with_reducible refine Later.drew ?_ | (with_reducible refine Later.trans ?_ (by assumption)) | (simp only [World.size_setCell, World.size_alloc, World.heap_drewN]; omega) | (simp; done) | (simp; omega))⟩
                case measure => simp [intOf]; omega
              · have h6b : ((k : Int) == 6) = false := by rw [beq_eq_false_iff_ne]; omega
                by_cases he : yk = xk
                · subst he
                  go_upto_region 11 with (fail)
                  refine wp_region_plan 21 (.done [0, 1, 2, 3, 4, 5, 6, 7, 8, 9, 10, 11, 12, 13, 14, 15, 16, 17, 18, 19, 20]) (by kernel_rfl) (by kernel_rfl) (fun _ _ d _ _ h => by cases d <;> exact h) ?_
                  repeat' (first
                    | (refine plan_done (fun K hK => ?_); (first | (simp only [pick_cons, pick_nil, toList_some_append, List.getElem?_toArray, List.getElem?_cons_zero, List.getElem?_cons_succ]; repeat (go_big_quiet_step (fail))) | simp only [pick_nil]); refine wpQuiet_nil (hK _ ?_); clear hK K)
                    | ((with_reducible refine at_list ?_); go_wp2_with (fail); first | refine behind_store (t := 21) (by decide) ?_ | refine behind (by repeat (first | with_reducible exact Later.refl _ | with_reducible assumption | with_reducible refine Later.ofdrew ?_ | with_reducible refine Later.ofdrewN ?_ | with_reducible refine Later.alloc ?_ _ | with_reducible refine Later.drewN ?_ _ | with_reducible refine Later.drew ?_ | (with_reducible refine Later.trans ?_ (by assumption)))) ?_))
                  go_wp2
                  go_roundw
                  case rel => exact ⟨k + 1, by omega, by go_num, by rw [HFB.out, decide_eq_true rfl, Bool.or_true]; rfl, by repeat (first | with_reducible exact Later.refl _ | with_reducible assumption | with_reducible refine Later.ofdrew ?_ | with_reducible refine Later.ofdrewN ?_ | with_reducible refine Later.setCell ?_ ?_ _ | with_reducible refine Later.alloc ?_ _ | with_reducible refine Later.drewN ?_ _ | with_reducible refine Later.drew ?_ | (with_reducible refine Later.trans ?_ (by assumption)) | (simp only [World.size_setCell, World.size_alloc, World.heap_drewN]; omega) | (simp; done) | (simp; omega))⟩
                  case measure => simp [intOf]; omega
                · have heb : (yk == xk) = false := by simpa using he
                  go_upto_region 11 with (fail)
                  refine wp_region_plan 21 (.done [0, 1, 2, 3, 4, 5, 6, 7, 8, 9, 10, 11, 12, 13, 14, 15, 16, 17, 18, 19, 20]) (by kernel_rfl) (by kernel_rfl) (fun _ _ d _ _ h => by cases d <;> exact h) ?_
                  repeat' (first
                    | (refine plan_done (fun K hK => ?_); (first | (simp only [pick_cons, pick_nil, toList_some_append, List.getElem?_toArray, List.getElem?_cons_zero, List.getElem?_cons_succ]; repeat (go_big_quiet_step (fail))) | simp only [pick_nil]); refine wpQuiet_nil (hK _ ?_); clear hK K)
                    | ((with_reducible refine at_list ?_); go_wp2_with (fail); first | refine behind_store (t := 21) (by decide) ?_ | refine behind (by repeat (first | with_reducible exact Later.refl _ | with_reducible assumption | with_reducible refine Later.ofdrew ?_ | with_reducible refine Later.ofdrewN ?_ | with_reducible refine Later.alloc ?_ _ | with_reducible refine Later.drewN ?_ _ | with_reducible refine Later.drew ?_ | (with_reducible refine Later.trans ?_ (by assumption)))) ?_))
                  go_wp2
                  go_roundw
                  case rel => exact ⟨k + 1, by omega, by go_num, by rw [HFB.out, decide_eq_false h6, decide_eq_false he]; rfl, by repeat (first | with_reducible exact Later.refl _ | with_reducible assumption | with_reducible refine Later.ofdrew ?_ | with_reducible refine Later.ofdrewN ?_ | with_reducible refine Later.setCell ?_ ?_ _ | with_reducible refine Later.alloc ?_ _ | with_reducible refine Later.drewN ?_ _ | with_reducible refine Later.drew ?_ | (with_reducible refine Later.trans ?_ (by assumption)) | (simp only [World.size_setCell, World.size_alloc, World.heap_drewN]; omega) | (simp; done) | (simp; omega))⟩
                  case measure => simp [intOf]; omega
          · have hk8 : k = 8 := by omega
            subst hk8
            have cy := HCI.out _ (hlat.trans hlq) 8 (by omega)
            simp only [Rw.nums, List.getD_cons_zero, List.getD_cons_succ] at cy
            have hgz := Nat.lt_of_lt_of_le hgb (Later.size (hlat.trans hlq))
            have HMq := Lib.hid (fun W (h : Later wr W) => HMW.out _ (hlq.trans h))
            obtain ⟨fb, hfb⟩ : ∃ fb, (f0 && eqTo y x 8) = fb := ⟨_, rfl⟩
            rw [hfb]
            have HFB := Lib.hid hfb
            clear hfb HCI HCA HMW
            go_wp2_with (at_builtin; go_must (refine wpList_pushAt sliceInt (HMq.out _ (by repeat (first | with_reducible exact Later.refl _ | with_reducible assumption | with_reducible refine Later.ofdrew ?_ | with_reducible refine Later.ofdrewN ?_ | with_reducible refine Later.setCell ?_ ?_ _ | with_reducible refine Later.alloc ?_ _ | with_reducible refine Later.drewN ?_ _ | with_reducible refine Later.drew ?_ | (with_reducible refine Later.trans ?_ (by assumption)) | (simp only [World.size_setCell, World.size_alloc, World.heap_drewN]; omega) | (simp; done) | (simp; omega)))) rfl _ _ rfl rfl 1 _ rfl (by simp) rfl (by simp [Value.oneCell']) (by omega) (by unfold maxLen; omega) ?_; intro v5 w5 hM5 hg5; have hb5 := hM5.lat; obtain ⟨p5, cp5, rfl⟩ := hM5.form))
            go_roundw
            case rel => exact ⟨i + 1, q + 1, by omega, by omega, by go_num, by rw [HFI.out, HFB.out], by rw [HAi.out, List.map_append]; exact hM5⟩
            case measure => simp [intOf]; omega
      · have hib' : i = b := by omega
        subst hib'
        have hmm := HM.out
        rw [← HGN.out, List.take_length] at hmm
        clear HC HF HA HSUM HINT HREST HFORM HPREV HSN HSPV HHD HSP HF00 HM
        rw [← HGN.out]
        go_wp2
        go_meet
        exact ⟨rfl, q, by omega, hmm⟩
  case rest =>
    obtain ⟨rfl, q, hq, hM⟩ := hcut
    have hlat := hM.lat
    have hI := Lib.hid hM.ints.1
    obtain ⟨p3, c3, rfl⟩ := hM.form
    clear hM HF HA HSP HF00
    have HSI := Lib.hid (fun W (hl : Later wc W) => HSUM.out _ W (hI.out.later hl))
    clear HSUM hI
    obtain ⟨Z, hZ⟩ : ∃ Z, g.map (·.amt) = Z := ⟨_, rfl⟩
    rw [hZ] at HREST HSI HINT
    clear hZ
    by_cases hfm : formTo g n g.length = true
    · have hown := HREST.out hfm
      rw [hfm]
      clear HREST HFORM hfm
      have hgz := Nat.lt_of_lt_of_le hgb (Later.size hlat)
      have hsz := Nat.lt_of_lt_of_le hsb (Later.size hlat)
      by_cases hn0 : 0 < n
      · obtain ⟨hp1, hp2⟩ := HPREV.out hn0
        have cx := HC.out _ hlat a hlt.1 1 (by omega)
        have cp := HC.out _ hlat pv hp2 1 (by omega)
        have cs := HSPV.out _ hlat
        have hp1' : (hd ((groups l).getD (n - 1) [])).seq = (l.getD pv rw0).seq := by rw [hp1]
        rw [hp1', HHD.out] at hown
        clear hp1 hp1' HHD HC HSPV HSN HPREV HGN
        simp only [Rw.nums, List.getD_cons_zero, List.getD_cons_succ] at cx cp
        generalize (l.getD pv rw0).seq = ps at *
        generalize (l.getD a rw0).seq = xs at *
        obtain ⟨m, hm⟩ : ∃ m, n - 1 = m := ⟨_, rfl⟩
        have hnm : n = m + 1 := by omega
        rw [hm] at cs
        have hsub : (n : Int) - 1 = (m : Int) := by omega
        have hn0I : (0 : Int) < n := by omega
        have hmG : m < G := by omega
        have hmG2 : (m : Int) < (G : Int) := by omega
        have hwr : wrap64 ((n : Int) - 1) = (m : Int) := by unfold wrap64; omega
        have hwr2 : wrap64 (m : Int) = (m : Int) := by unfold wrap64; omega
        clear hm hnm
        by_cases hs : xs < ps
        · rw [if_pos ⟨hn0, hs⟩] at hown
          have HOWN := Lib.hid hown
          clear hown HSI HINT
          go_upto_region 15 with (fail)
          refine wp_region_plan 19 (.done [0, 1, 2, 3, 4, 5, 6, 7, 8, 9, 10, 11, 12, 13, 14, 15, 16, 17, 18]) (by kernel_rfl) (by kernel_rfl) (fun _ _ d _ _ h => by cases d <;> exact h) ?_
          repeat' (first
            | (refine plan_done (fun K hK => ?_); (first | (simp only [pick_cons, pick_nil, toList_some_append, List.getElem?_toArray, List.getElem?_cons_zero, List.getElem?_cons_succ]; repeat (go_big_quiet_step (fail))) | simp only [pick_nil]); refine wpQuiet_nil (hK _ ?_); clear hK K)
            | ((with_reducible refine at_list ?_); go_wp2_with (fail); first | refine behind_store (t := 19) (by decide) ?_ | refine behind (by repeat (first | with_reducible exact Later.refl _ | with_reducible assumption | with_reducible refine Later.ofdrew ?_ | with_reducible refine Later.ofdrewN ?_ | with_reducible refine Later.alloc ?_ _ | with_reducible refine Later.drewN ?_ _ | with_reducible refine Later.drew ?_ | (with_reducible refine Later.trans ?_ (by assumption)))) ?_))
          go_wp2
          go_ret
          exact ⟨ret_int HOWN.out.symm, hlat.trans (by repeat (first | with_reducible exact Later.refl _ | with_reducible assumption | with_reducible refine Later.ofdrew ?_ | with_reducible refine Later.ofdrewN ?_ | with_reducible refine Later.setCell ?_ ?_ _ | with_reducible refine Later.alloc ?_ _ | with_reducible refine Later.drewN ?_ _ | with_reducible refine Later.drew ?_ | (with_reducible refine Later.trans ?_ (by assumption)) | (simp only [World.size_setCell, World.size_alloc, World.heap_drewN]; omega) | (simp; done) | (simp; omega)))⟩
        · rw [if_neg (fun e => hs e.2)] at hown
          have HOWN0 := Lib.hid hown
          clear hown
          go_upto_region 15 with (fail)
          refine wp_region_plan 19 (.done [0, 1, 2, 3, 4, 5, 6, 7, 8, 9, 10, 11, 12, 13, 14, 15, 16, 17, 18]) (by kernel_rfl) (by kernel_rfl) (fun _ _ d _ _ h => by cases d <;> exact h) ?_
          repeat' (first
            | (refine plan_done (fun K hK => ?_); (first | (simp only [pick_cons, pick_nil, toList_some_append, List.getElem?_toArray, List.getElem?_cons_zero, List.getElem?_cons_succ]; repeat (go_big_quiet_step (fail))) | simp only [pick_nil]); refine wpQuiet_nil (hK _ ?_); clear hK K)
            | ((with_reducible refine at_list ?_); go_wp2_with (fail); first | refine behind_store (t := 19) (by decide) ?_ | refine behind (by repeat (first | with_reducible exact Later.refl _ | with_reducible assumption | with_reducible refine Later.ofdrew ?_ | with_reducible refine Later.ofdrewN ?_ | with_reducible refine Later.alloc ?_ _ | with_reducible refine Later.drewN ?_ _ | with_reducible refine Later.drew ?_ | (with_reducible refine Later.trans ?_ (by assumption)))) ?_))
          go_upto_region 17 with (fail)
          refine wp_opaque (fun W15 hb15 => ?_)
          have hl15 : Later wc W15 := Later.trans (by repeat (first | with_reducible exact Later.refl _ | with_reducible assumption | with_reducible refine Later.ofdrew ?_ | with_reducible refine Later.ofdrewN ?_ | with_reducible refine Later.setCell ?_ ?_ _ | with_reducible refine Later.alloc ?_ _ | with_reducible refine Later.drewN ?_ _ | with_reducible refine Later.drew ?_ | (with_reducible refine Later.trans ?_ (by assumption)) | (simp only [World.size_setCell, World.size_alloc, World.heap_drewN]; omega) | (simp; done) | (simp; omega))) hb15
          clear hb15 cx cp cs hsub hwr hwr2
          have hown := HOWN0.out
          clear HOWN0
          have HSI2 := Lib.hid (fun W (hl : Later W15 W) => HSI.out W (hl15.trans hl))
          clear HSI
          by_cases hz : sumI Z = 0
          · have e1 : fitN (sumI Z) = 0 := by rw [hz]; decide
            have e2 : fitB (sumI Z) = true := by rw [hz]; decide
            rw [if_neg (fun e => e hz)] at hown
            have HOWN := Lib.hid hown
            have HI2 := Lib.hid (fun r W h => HINT.out r W h)
            simp only [e1, e2] at HI2
            clear HINT hown hz e1 e2
            go_wp2_with (first | (go_at_call 27; go_must (refine (HSI2.out _ (by repeat (first | with_reducible exact Later.refl _ | with_reducible assumption | with_reducible refine Later.ofdrew ?_ | with_reducible refine Later.ofdrewN ?_ | with_reducible refine Later.setCell ?_ ?_ _ | with_reducible refine Later.alloc ?_ _ | with_reducible refine Later.drewN ?_ _ | with_reducible refine Later.drew ?_ | (with_reducible refine Later.trans ?_ (by assumption)) | (simp only [World.size_setCell, World.size_alloc, World.heap_drewN]; omega) | (simp; done) | (simp; omega)))).mono ?_; rintro e w5 ⟨r5, rfl, hr5, hb5⟩)) | (go_at_call 26; go_must (refine (HI2.out _ _ hr5).mono ?_; rintro e w6 ⟨rfl, hb6⟩)))
            go_ret
            exact ⟨ret_int HOWN.out.symm, hlat.trans (hl15.trans (by repeat (first | with_reducible exact Later.refl _ | with_reducible assumption | with_reducible refine Later.ofdrew ?_ | with_reducible refine Later.ofdrewN ?_ | with_reducible refine Later.setCell ?_ ?_ _ | with_reducible refine Later.alloc ?_ _ | with_reducible refine Later.drewN ?_ _ | with_reducible refine Later.drew ?_ | (with_reducible refine Later.trans ?_ (by assumption)) | (simp only [World.size_setCell, World.size_alloc, World.heap_drewN]; omega) | (simp; done) | (simp; omega))))⟩
          · rw [if_pos hz] at hown
            have HOWN := Lib.hid hown
            clear hown
            by_cases hfb : fitB (sumI Z) = true
            · have e1 : fitN (sumI Z) = sumI Z := by unfold fitN; rw [if_pos (of_decide_eq_true hfb)]
              have e3 : (sumI Z == 0) = false := by simpa using hz
              have HI2 := Lib.hid (fun r W h => HINT.out r W h)
              simp only [e1, hfb] at HI2
              clear HINT hz e1 hfb
              have e4 : (sumI Z != 0) = true := by simp [bne, e3]
              generalize sumI Z = sz at *
              go_wp2_with (first | (go_at_call 27; go_must (refine (HSI2.out _ (by repeat (first | with_reducible exact Later.refl _ | with_reducible assumption | with_reducible refine Later.ofdrew ?_ | with_reducible refine Later.ofdrewN ?_ | with_reducible refine Later.setCell ?_ ?_ _ | with_reducible refine Later.alloc ?_ _ | with_reducible refine Later.drewN ?_ _ | with_reducible refine Later.drew ?_ | (with_reducible refine Later.trans ?_ (by assumption)) | (simp only [World.size_setCell, World.size_alloc, World.heap_drewN]; omega) | (simp; done) | (simp; omega)))).mono ?_; rintro e w5 ⟨r5, rfl, hr5, hb5⟩)) | (go_at_call 26; go_must (refine (HI2.out _ _ hr5).mono ?_; rintro e w6 ⟨rfl, hb6⟩)))
              go_ret
              exact ⟨ret_int HOWN.out.symm, hlat.trans (hl15.trans (by repeat (first | with_reducible exact Later.refl _ | with_reducible assumption | with_reducible refine Later.ofdrew ?_ | with_reducible refine Later.ofdrewN ?_ | with_reducible refine Later.setCell ?_ ?_ _ | with_reducible refine Later.alloc ?_ _ | with_reducible refine Later.drewN ?_ _ | with_reducible refine Later.drew ?_ | (with_reducible refine Later.trans ?_ (by assumption)) | (simp only [World.size_setCell, World.size_alloc, World.heap_drewN]; omega) | (simp; done) | (simp; omega))))⟩
            · have hfb2 : fitB (sumI Z) = false := by simpa using hfb
              have HI2 := Lib.hid (fun r W h => HINT.out r W h)
              simp only [hfb2] at HI2
              clear HINT hz hfb hfb2
              generalize fitN (sumI Z) = fz at *
              generalize sumI Z = sz at *
              go_wp2_with (first | (go_at_call 27; go_must (refine (HSI2.out _ (by repeat (first | with_reducible exact Later.refl _ | with_reducible assumption | with_reducible refine Later.ofdrew ?_ | with_reducible refine Later.ofdrewN ?_ | with_reducible refine Later.setCell ?_ ?_ _ | with_reducible refine Later.alloc ?_ _ | with_reducible refine Later.drewN ?_ _ | with_reducible refine Later.drew ?_ | (with_reducible refine Later.trans ?_ (by assumption)) | (simp only [World.size_setCell, World.size_alloc, World.heap_drewN]; omega) | (simp; done) | (simp; omega)))).mono ?_; rintro e w5 ⟨r5, rfl, hr5, hb5⟩)) | (go_at_call 26; go_must (refine (HI2.out _ _ hr5).mono ?_; rintro e w6 ⟨rfl, hb6⟩)))
              go_ret
              exact ⟨ret_int HOWN.out.symm, hlat.trans (hl15.trans (by repeat (first | with_reducible exact Later.refl _ | with_reducible assumption | with_reducible refine Later.ofdrew ?_ | with_reducible refine Later.ofdrewN ?_ | with_reducible refine Later.setCell ?_ ?_ _ | with_reducible refine Later.alloc ?_ _ | with_reducible refine Later.drewN ?_ _ | with_reducible refine Later.drew ?_ | (with_reducible refine Later.trans ?_ (by assumption)) | (simp only [World.size_setCell, World.size_alloc, World.heap_drewN]; omega) | (simp; done) | (simp; omega))))⟩
      · have hn0I : ¬ ((0 : Int) < n) := by omega
        rw [if_neg (fun e => hn0 e.1)] at hown
        have HOWN0 := Lib.hid hown
        clear hown HHD HC HSPV HSN HPREV HGN
        go_upto_region 15 with (fail)
        refine wp_region_plan 19 (.done [0, 1, 2, 3, 4, 5, 6, 7, 8, 9, 10, 11, 12, 13, 14, 15, 16, 17, 18]) (by kernel_rfl) (by kernel_rfl) (fun _ _ d _ _ h => by cases d <;> exact h) ?_
        repeat' (first
          | (refine plan_done (fun K hK => ?_); (first | (simp only [pick_cons, pick_nil, toList_some_append, List.getElem?_toArray, List.getElem?_cons_zero, List.getElem?_cons_succ]; repeat (go_big_quiet_step (fail))) | simp only [pick_nil]); refine wpQuiet_nil (hK _ ?_); clear hK K)
          | ((with_reducible refine at_list ?_); go_wp2_with (fail); first | refine behind_store (t := 19) (by decide) ?_ | refine behind (by repeat (first | with_reducible exact Later.refl _ | with_reducible assumption | with_reducible refine Later.ofdrew ?_ | with_reducible refine Later.ofdrewN ?_ | with_reducible refine Later.alloc ?_ _ | with_reducible refine Later.drewN ?_ _ | with_reducible refine Later.drew ?_ | (with_reducible refine Later.trans ?_ (by assumption)))) ?_))
        go_upto_region 17 with (fail)
        refine wp_opaque (fun W15 hb15 => ?_)
        have hl15 : Later wc W15 := Later.trans (by repeat (first | with_reducible exact Later.refl _ | with_reducible assumption | with_reducible refine Later.ofdrew ?_ | with_reducible refine Later.ofdrewN ?_ | with_reducible refine Later.setCell ?_ ?_ _ | with_reducible refine Later.alloc ?_ _ | with_reducible refine Later.drewN ?_ _ | with_reducible refine Later.drew ?_ | (with_reducible refine Later.trans ?_ (by assumption)) | (simp only [World.size_setCell, World.size_alloc, World.heap_drewN]; omega) | (simp; done) | (simp; omega))) hb15
        clear hb15
        have hown := HOWN0.out
        clear HOWN0
        have HSI2 := Lib.hid (fun W (hl : Later W15 W) => HSI.out W (hl15.trans hl))
        clear HSI
        by_cases hz : sumI Z = 0
        · have e1 : fitN (sumI Z) = 0 := by rw [hz]; decide
          have e2 : fitB (sumI Z) = true := by rw [hz]; decide
          rw [if_neg (fun e => e hz)] at hown
          have HOWN := Lib.hid hown
          have HI2 := Lib.hid (fun r W h => HINT.out r W h)
          simp only [e1, e2] at HI2
          clear HINT hown hz e1 e2
          go_wp2_with (first | (go_at_call 27; go_must (refine (HSI2.out _ (by repeat (first | with_reducible exact Later.refl _ | with_reducible assumption | with_reducible refine Later.ofdrew ?_ | with_reducible refine Later.ofdrewN ?_ | with_reducible refine Later.setCell ?_ ?_ _ | with_reducible refine Later.alloc ?_ _ | with_reducible refine Later.drewN ?_ _ | with_reducible refine Later.drew ?_ | (with_reducible refine Later.trans ?_ (by assumption)) | (simp only [World.size_setCell, World.size_alloc, World.heap_drewN]; omega) | (simp; done) | (simp; omega)))).mono ?_; rintro e w5 ⟨r5, rfl, hr5, hb5⟩)) | (go_at_call 26; go_must (refine (HI2.out _ _ hr5).mono ?_; rintro e w6 ⟨rfl, hb6⟩)))
          go_ret
          exact ⟨ret_int HOWN.out.symm, hlat.trans (hl15.trans (by repeat (first | with_reducible exact Later.refl _ | with_reducible assumption | with_reducible refine Later.ofdrew ?_ | with_reducible refine Later.ofdrewN ?_ | with_reducible refine Later.setCell ?_ ?_ _ | with_reducible refine Later.alloc ?_ _ | with_reducible refine Later.drewN ?_ _ | with_reducible refine Later.drew ?_ | (with_reducible refine Later.trans ?_ (by assumption)) | (simp only [World.size_setCell, World.size_alloc, World.heap_drewN]; omega) | (simp; done) | (simp; omega))))⟩
        · rw [if_pos hz] at hown
          have HOWN := Lib.hid hown
          clear hown
          by_cases hfb : fitB (sumI Z) = true
          · have e1 : fitN (sumI Z) = sumI Z := by unfold fitN; rw [if_pos (of_decide_eq_true hfb)]
            have e3 : (sumI Z == 0) = false := by simpa using hz
            have HI2 := Lib.hid (fun r W h => HINT.out r W h)
            simp only [e1, hfb] at HI2
            clear HINT hz e1 hfb
            have e4 : (sumI Z != 0) = true := by simp [bne, e3]
            generalize sumI Z = sz at *
            go_wp2_with (first | (go_at_call 27; go_must (refine (HSI2.out _ (by repeat (first | with_reducible exact Later.refl _ | with_reducible assumption | with_reducible refine Later.ofdrew ?_ | with_reducible refine Later.ofdrewN ?_ | with_reducible refine Later.setCell ?_ ?_ _ | with_reducible refine Later.alloc ?_ _ | with_reducible refine Later.drewN ?_ _ | with_reducible refine Later.drew ?_ | (with_reducible refine Later.trans ?_ (by assumption)) | (simp only [World.size_setCell, World.size_alloc, World.heap_drewN]; omega) | (simp; done) | (simp; omega)))).mono ?_; rintro e w5 ⟨r5, rfl, hr5, hb5⟩)) | (go_at_call 26; go_must (refine (HI2.out _ _ hr5).mono ?_; rintro e w6 ⟨rfl, hb6⟩)))
            go_ret
            exact ⟨ret_int HOWN.out.symm, hlat.trans (hl15.trans (by repeat (first | with_reducible exact Later.refl _ | with_reducible assumption | with_reducible refine Later.ofdrew ?_ | with_reducible refine Later.ofdrewN ?_ | with_reducible refine Later.setCell ?_ ?_ _ | with_reducible refine Later.alloc ?_ _ | with_reducible refine Later.drewN ?_ _ | with_reducible refine Later.drew ?_ | (with_reducible refine Later.trans ?_ (by assumption)) | (simp only [World.size_setCell, World.size_alloc, World.heap_drewN]; omega) | (simp; done) | (simp; omega))))⟩
          · have hfb2 : fitB (sumI Z) = false := by simpa using hfb
            have HI2 := Lib.hid (fun r W h => HINT.out r W h)
            simp only [hfb2] at HI2
            clear HINT hz hfb hfb2
            generalize fitN (sumI Z) = fz at *
            generalize sumI Z = sz at *
            go_wp2_with (first | (go_at_call 27; go_must (refine (HSI2.out _ (by repeat (first | with_reducible exact Later.refl _ | with_reducible assumption | with_reducible refine Later.ofdrew ?_ | with_reducible refine Later.ofdrewN ?_ | with_reducible refine Later.setCell ?_ ?_ _ | with_reducible refine Later.alloc ?_ _ | with_reducible refine Later.drewN ?_ _ | with_reducible refine Later.drew ?_ | (with_reducible refine Later.trans ?_ (by assumption)) | (simp only [World.size_setCell, World.size_alloc, World.heap_drewN]; omega) | (simp; done) | (simp; omega)))).mono ?_; rintro e w5 ⟨r5, rfl, hr5, hb5⟩)) | (go_at_call 26; go_must (refine (HI2.out _ _ hr5).mono ?_; rintro e w6 ⟨rfl, hb6⟩)))
            go_ret
            exact ⟨ret_int HOWN.out.symm, hlat.trans (hl15.trans (by repeat (first | with_reducible exact Later.refl _ | with_reducible assumption | with_reducible refine Later.ofdrew ?_ | with_reducible refine Later.ofdrewN ?_ | with_reducible refine Later.setCell ?_ ?_ _ | with_reducible refine Later.alloc ?_ _ | with_reducible refine Later.drewN ?_ _ | with_reducible refine Later.drew ?_ | (with_reducible refine Later.trans ?_ (by assumption)) | (simp only [World.size_setCell, World.size_alloc, World.heap_drewN]; omega) | (simp; done) | (simp; omega))))⟩
    · have hff : formTo g n g.length = false := by simpa using hfm
      have hown := HFORM.out hff
      rw [hff]
      clear HREST HFORM hfm hff HSI HINT HPREV HSN HSPV HHD HGN HC
      have HOWN := Lib.hid hown
      clear hown
      go_wp2
      go_ret
      exact ⟨ret_int HOWN.out.symm, hlat⟩
end Go.Proofs.YtckeaibamgkegaaGreatDoor
end
