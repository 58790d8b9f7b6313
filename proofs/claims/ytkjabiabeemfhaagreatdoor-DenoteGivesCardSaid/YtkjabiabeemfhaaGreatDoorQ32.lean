/- slices.Compact at waits; waits and flows are compared -/
import Derived.Test.YtkjabiabeemfhaaGreatDoorQ22
import Derived.Test.YtkjabiabeemfhaaGreatDoorQ23
import Derived.Test.YtkjabiabeemfhaaGreatDoorQ25
import Derived.Test.YtkjabiabeemfhaaGreatDoorQ26
import Derived.Test.YtkjabiabeemfhaaGreatDoorQ29
import Derived.Test.YtkjabiabeemfhaaGreatDoorQ30
import Derived.Test.YtkjabiabeemfhaaGreatDoorQ31
import Derived.Deep.LoopGhost
import Derived.Test.YtkjabiabeemfhaaGreatDoorQ17
import Derived.Lib.SliceRun
set_option linter.all false
set_option linter.all false
section
/- denote: a contract is gone through: the loop -/
namespace Go.Proofs.YtkjabiabeemfhaaGreatDoor
open Go.RowKit
set_option maxRecDepth 100000

theorem step_past {env : Env} {tod : Int} {h : Hd} (hd : ¬ tod < h.day) : oneH env tod h = stepT env tod h.T.root h.T.kids h.pl h.day h.n h.d := by unfold oneH; rw [if_neg hd]
theorem sone_any {w0 : World} {ts : List Nd} {T : Tm} {tv : Value} {fx : FxL} {ch : ChL} {p m1 m2 : Nat} (hJ : JobAt w0 ts T tv fx ch p m1 m2) (w : World) (hw0 : Later w0 w) (b : Nat) (tod : Int) (ht0 : -1 ≤ tod) (ht1 : tod ≤ 73048) (rv fv wv : Value) (H : List Hd) (F : List Fl) (W : List Wt)
    (hst : StudyAt w0.heap.size w b tv tod (.pointer (some ⟨p, 0, none⟩)) rv fv wv H F W) (hH : H.length ≤ 1000) (hF : F.length ≤ 1000) (hW : W.length ≤ 100000) (h : Hd) (hh : HdOk ts h) (hd : ¬ tod < h.day) :
    Calls Tryz.prog 93 #[.pointer (some ⟨b, 0, none⟩), .agg #[.int .i64 h.pl, .int .i64 h.day, .int .i64 h.n, .int .i64 h.d]] w (OneEnd (oneH (envT fx ch) tod h) w0 b tv tod (.pointer (some ⟨p, 0, none⟩)) H F W) := by
  rw [step_past hd]
  obtain ⟨⟨⟨op, a, b', vn, vd⟩, l⟩, pl, day, n, d⟩ := h
  have hops := contract_ops hh.mc
  show Calls _ _ _ _ (OneEnd (stepT (envT fx ch) tod ⟨op, a, b', vn, vd⟩ l pl day n d) w0 b tv tod _ H F W)
  have : op = 9 ∨ op = 10 ∨ op = 11 ∨ op = 12 ∨ op = 13 ∨ op = 14 ∨ op = 15 ∨ op = 16 ∨ op = 17 := by have h1 := hops.1; have h2 := hops.2; simp only [Tm.root] at h1 h2; omega
  rcases this with rfl | rfl | rfl | rfl | rfl | rfl | rfl | rfl | rfl
  · exact sone_9 hJ w hw0 b tod ht0 ht1 rv fv wv H F W hst hH hF hW a b' vn vd l pl day n d hh
  · exact sone_10 hJ w hw0 b tod ht0 ht1 rv fv wv H F W hst hH hF hW a b' vn vd l pl day n d hh
  · exact sone_11 hJ w hw0 b tod ht0 ht1 rv fv wv H F W hst hH hF hW a b' vn vd l pl day n d hh
  · exact sone_12 hJ w hw0 b tod ht0 ht1 rv fv wv H F W hst hH hF hW a b' vn vd l pl day n d hh
  · exact sone_13 hJ w hw0 b tod ht0 ht1 rv fv wv H F W hst hH hF hW a b' vn vd l pl day n d hh
  · exact sone_14 hJ w hw0 b tod ht0 ht1 rv fv wv H F W hst hH hF hW a b' vn vd l pl day n d hh
  · exact sone_15 hJ w hw0 b tod ht0 ht1 rv fv wv H F W hst hH hF hW a b' vn vd l pl day n d hh
  · exact sone_16 hJ w hw0 b tod ht0 ht1 rv fv wv H F W hst hH hF hW a b' vn vd l pl day n d hh
  · exact sone_17 hJ w hw0 b tod ht0 ht1 rv fv wv H F W hst hH hF hW a b' vn vd l pl day n d hh
theorem rest_cut (q : Option Addr) (n c : Nat) (hn : 1 ≤ n) (hc : n ≤ c) (W : World) : (Instr.slice 103 (.slice q n c) (some (.int .i64 1)) none none).run Tryz.prog W = .ok (sliced q 1 n c 4) W := by
  rw [run_slice_l _ _ _ _ _ (by kernel_rfl) _ _ (by omega) (by omega)]
  have e : (sizeOf (Tryz.prog.elem 103)).run Tryz.prog W = .ok 4 W := by kernel_rfl
  rw [e]; rfl
/-- What all of it ends with. -/
def AllEnd (R : Rs) (w : World) (tv : Value) (tod : Int) (fp : Value) (e : Ending) (w' : World) : Prop :=
  Later w w' ∧ ∃ b, e = .returned (.tuple #[.pointer (some ⟨b, 0, none⟩), .int .i64 R.1]) ∧ (R.1 = 0 → ∃ rv fv wv H, StudyAt w.heap.size w' b tv tod fp rv fv wv H R.2.1 R.2.2 ∧ R.2.1.length ≤ 1000 ∧ R.2.2.length ≤ 100000)
set_option maxHeartbeats 1600000 in
theorem all_wrong (ts : List Nd) (hlen : ts.length ≤ 100000) (hok : ∀ x ∈ ts, x.ok) (tv : Value) (day tod : Int) (fp : Value) (w : World) (hS : Shapes w) (hN : IsNodes w tv ts) (h0 : ctE ts ≠ 0) :
    Calls Tryz.prog 47 #[tv, .int .i64 day, .int .i64 tod, fp] w fun e w' => e = .returned (.tuple #[.pointer none, .int .i64 (ctE ts)]) ∧ Later w w' := by
  have HC := Lib.hid (fun W (hl : Later w W) => tcheck_any ts hlen hok tv W (hS.later hl) (hN.later hl))
  obtain ⟨E, hE⟩ : ∃ E, ctE ts = E := ⟨_, rfl⟩
  rw [hE] at HC h0 ⊢
  have he1 : (E == 0) = false := by simpa using h0
  have he2 : (E != 0) = true := by simpa using h0
  clear hS hN hE h0 hok
  go_enter Tryz.func47, Tryz.ntmps47
  go_wp2
  go_step3
  go_wp2_with (go_at_call 80; go_must (refine (HC.out _ (by repeat (first | with_reducible exact Later.refl _ | with_reducible assumption | with_reducible refine Later.ofdrew ?_ | with_reducible refine Later.ofdrewN ?_ | with_reducible refine Later.setCell ?_ ?_ _ | with_reducible refine Later.alloc ?_ _ | with_reducible refine Later.drewN ?_ _ | with_reducible refine Later.drew ?_ | (with_reducible refine Later.trans ?_ (by assumption)) | (simp only [World.size_setCell, World.size_alloc, World.heap_drewN]; omega) | (simp; done) | (simp; omega)))).mono ?_; rintro e w1 ⟨rfl, hb1⟩))
  rw [Exit.noGoto_ret]
  go_ret2
  exact ⟨rfl, hb1⟩
set_option maxHeartbeats 1600000 in
theorem all_day (ts : List Nd) (hlen : ts.length ≤ 100000) (hok : ∀ x ∈ ts, x.ok) (tv : Value) (day tod : Int) (fp : Value) (w : World) (hS : Shapes w) (hN : IsNodes w tv ts) (h0 : ctE ts = 0) (hd : day < 0 ∨ 73048 < day ∨ tod < -1 ∨ 73048 < tod) :
    Calls Tryz.prog 47 #[tv, .int .i64 day, .int .i64 tod, fp] w fun e w' => e = .returned (.tuple #[.pointer none, .int .i64 18]) ∧ Later w w' := by
  have HC := Lib.hid (fun W (hl : Later w W) => tcheck_any ts hlen hok tv W (hS.later hl) (hN.later hl))
  rw [h0] at HC
  clear hS hN h0 hok
  by_cases h1 : day < 0
  · clear hd
    go_enter Tryz.func47, Tryz.ntmps47
    go_wp2
    go_step3
    go_wp2_with (go_at_call 80; go_must (refine (HC.out _ (by repeat (first | with_reducible exact Later.refl _ | with_reducible assumption | with_reducible refine Later.ofdrew ?_ | with_reducible refine Later.ofdrewN ?_ | with_reducible refine Later.setCell ?_ ?_ _ | with_reducible refine Later.alloc ?_ _ | with_reducible refine Later.drewN ?_ _ | with_reducible refine Later.drew ?_ | (with_reducible refine Later.trans ?_ (by assumption)) | (simp only [World.size_setCell, World.size_alloc, World.heap_drewN]; omega) | (simp; done) | (simp; omega)))).mono ?_; rintro e w1 ⟨rfl, hb1⟩))
    rw [Exit.noGoto_ret]
    go_ret2
    exact ⟨rfl, hb1⟩
  by_cases h2 : 73048 < day
  · clear hd
    go_enter Tryz.func47, Tryz.ntmps47
    go_wp2
    go_step3
    go_wp2_with (go_at_call 80; go_must (refine (HC.out _ (by repeat (first | with_reducible exact Later.refl _ | with_reducible assumption | with_reducible refine Later.ofdrew ?_ | with_reducible refine Later.ofdrewN ?_ | with_reducible refine Later.setCell ?_ ?_ _ | with_reducible refine Later.alloc ?_ _ | with_reducible refine Later.drewN ?_ _ | with_reducible refine Later.drew ?_ | (with_reducible refine Later.trans ?_ (by assumption)) | (simp only [World.size_setCell, World.size_alloc, World.heap_drewN]; omega) | (simp; done) | (simp; omega)))).mono ?_; rintro e w1 ⟨rfl, hb1⟩))
    rw [Exit.noGoto_ret]
    go_ret2
    exact ⟨rfl, hb1⟩
  by_cases h3 : tod < -1
  · clear hd
    go_enter Tryz.func47, Tryz.ntmps47
    go_wp2
    go_step3
    go_wp2_with (go_at_call 80; go_must (refine (HC.out _ (by repeat (first | with_reducible exact Later.refl _ | with_reducible assumption | with_reducible refine Later.ofdrew ?_ | with_reducible refine Later.ofdrewN ?_ | with_reducible refine Later.setCell ?_ ?_ _ | with_reducible refine Later.alloc ?_ _ | with_reducible refine Later.drewN ?_ _ | with_reducible refine Later.drew ?_ | (with_reducible refine Later.trans ?_ (by assumption)) | (simp only [World.size_setCell, World.size_alloc, World.heap_drewN]; omega) | (simp; done) | (simp; omega)))).mono ?_; rintro e w1 ⟨rfl, hb1⟩))
    rw [Exit.noGoto_ret]
    go_ret2
    exact ⟨rfl, hb1⟩
  · have h4 : 73048 < tod := by omega
    clear hd
    go_enter Tryz.func47, Tryz.ntmps47
    go_wp2
    go_step3
    go_wp2_with (go_at_call 80; go_must (refine (HC.out _ (by repeat (first | with_reducible exact Later.refl _ | with_reducible assumption | with_reducible refine Later.ofdrew ?_ | with_reducible refine Later.ofdrewN ?_ | with_reducible refine Later.setCell ?_ ?_ _ | with_reducible refine Later.alloc ?_ _ | with_reducible refine Later.drewN ?_ _ | with_reducible refine Later.drew ?_ | (with_reducible refine Later.trans ?_ (by assumption)) | (simp only [World.size_setCell, World.size_alloc, World.heap_drewN]; omega) | (simp; done) | (simp; omega)))).mono ?_; rintro e w1 ⟨rfl, hb1⟩))
    rw [Exit.noGoto_ret]
    go_ret2
    exact ⟨rfl, hb1⟩
set_option maxHeartbeats 8000000 in
theorem all_run {w0 : World} {ts : List Nd} {T : Tm} {tv : Value} {fx : FxL} {ch : ChL} {p m1 m2 : Nat} (hJ : JobAt w0 ts T tv fx ch p m1 m2) (hm : makesI T.root.op = 2) (day tod : Int) (hd0 : 0 ≤ day) (hd1 : day ≤ 73048) (ht0 : -1 ≤ tod) (ht1 : tod ≤ 73048) :
    Calls Tryz.prog 47 #[tv, .int .i64 day, .int .i64 tod, .pointer (some ⟨p, 0, none⟩)] w0 (AllEnd (runT (envT fx ch) tod T day) w0 tv tod (.pointer (some ⟨p, 0, none⟩))) := by
  have HC := Lib.hid (fun W (hl : Later w0 W) => tcheck_any ts hJ.len hJ.ok tv W (hJ.sh.later hl) (hJ.nodes.later hl))
  rw [ct_of_good hJ.good hm] at HC
  obtain ⟨R, hR⟩ : ∃ R, runT (envT fx ch) tod T day = R := ⟨_, rfl⟩
  have HLF : Hid (Left (envT fx ch) tod R [] [] [⟨T, 0, day, 1, 1⟩]) := Lib.hid (by rw [← hR]; exact left_first _ _ _)
  obtain ⟨P, hP⟩ : ∃ P, AllEnd R w0 tv tod (.pointer (some ⟨p, 0, none⟩)) = P := ⟨_, rfl⟩
  rw [hR, hP]
  have HP := Lib.hid hP
  have HH1 := Lib.hid (hd_first hJ.good hm hd0 hd1)
  have HSZ : Hid (T.size ≤ 64) := Lib.hid (by rw [hJ.good.at.2]; exact hJ.good.len)
  have HJ := Lib.hid hJ
  have n0 : ¬ day < 0 := by omega
  have n1 : ¬ 73048 < day := by omega
  have n2 : ¬ tod < -1 := by omega
  have n3 : ¬ 73048 < tod := by omega
  have hsl := fun q n c hn hc W => rest_cut q n c hn hc W
  obtain ⟨tb, tq, tc, htv, -, -, -⟩ := hJ.nodes.full (i := 0) (by rw [← hJ.good.at.2]; exact T.size_pos)
  subst htv
  clear hR hP hJ hm hsl
  go_enter Tryz.func47, Tryz.ntmps47
  go_wp2
  go_step3
  go_upto_region 6 with (go_at_call 80; go_must (refine (HC.out _ (by repeat (first | with_reducible exact Later.refl _ | with_reducible assumption | with_reducible refine Later.ofdrew ?_ | with_reducible refine Later.ofdrewN ?_ | with_reducible refine Later.setCell ?_ ?_ _ | with_reducible refine Later.alloc ?_ _ | with_reducible refine Later.drewN ?_ _ | with_reducible refine Later.drew ?_ | (with_reducible refine Later.trans ?_ (by assumption)) | (simp only [World.size_setCell, World.size_alloc, World.heap_drewN]; omega) | (simp; done) | (simp; omega)))).mono ?_; rintro e w1 ⟨rfl, hb1⟩))
  go_upto_region 7 with (fail)
  refine wp_opaque (fun w2 hb2 => ?_)
  have hO2 := Own.one hb2
  have hl2 : Later w0 w2 := hb1.trans hb2.un1
  have hz1 := hb1.size
  obtain ⟨b, hbb⟩ : ∃ b, w1.heap.size = b := ⟨_, rfl⟩
  rw [hbb] at hO2 hz1 ⊢
  have HS2 : Hid (StudyAt w0.heap.size w2 b (.slice (some ⟨tb, tq, none⟩) ts.length tc) tod (.pointer (some ⟨p, 0, none⟩)) (.slice none 0 0) (.slice none 0 0) (.slice none 0 0) [] [] []) := Lib.hid ⟨hO2, hz1, B.Que.nil _ _ _, B.Que.nil _ _ _, B.Que.nil _ _ _, (by simp [Value.ownBlock]), (by simp [Value.ownBlock]), (by simp [Value.ownBlock]), B.Apart.none _, B.Apart.none _, B.Apart.none _⟩
  have HPUT := Lib.hid (fun W1 (hl : Later w2 W1) => sput_later (b := b) hl2.size (by simp) HS2.out ⟨T, 0, day, 1, 1⟩ 0 rfl W1 hl)
  clear hb1 hb2 hO2 hbb HC n0 n1 n2 n3
  go_wp2_with (go_at_call 92; go_must (refine (HPUT.out _ (by repeat (first | with_reducible exact Later.refl _ | with_reducible assumption | with_reducible refine Later.ofdrew ?_ | with_reducible refine Later.ofdrewN ?_ | with_reducible refine Later.setCell ?_ ?_ _ | with_reducible refine Later.alloc ?_ _ | with_reducible refine Later.drewN ?_ _ | with_reducible refine Later.drew ?_ | (with_reducible refine Later.trans ?_ (by assumption)) | (simp only [World.size_setCell, World.size_alloc, World.heap_drewN]; omega) | (simp; done) | (simp; omega)))).mono ?_; rintro e w3 ⟨rfl, rv3, hs3, hz3, hf3⟩))
  have hl3 : Later w0 w3 := lat_base hz3 hl2 (fun k hk => hk.elim (fun e => e ▸ hz1) (fun e => by cases e))
  have HS3 := Lib.hid hs3
  clear hz3 hf3 hs3 HPUT HS2
  go_step3
  go_wp2
  go_loopg [12] T.size (fun g s12 wr => s12 = .int .i64 0 ∧ Later w0 wr ∧ ∃ (rv fv wv : Value) (H : List Hd) (F : List Fl) (W : List Wt), Hid (StudyAt w0.heap.size wr b (.slice (some ⟨tb, tq, none⟩) ts.length tc) tod (.pointer (some ⟨p, 0, none⟩)) rv fv wv H F W) ∧ Hid ((∀ h ∈ H, HdOk ts h) ∧ Left (envT fx ch) tod R F W H ∧ sizesH H = g ∧ F.length + g ≤ 64 ∧ W.length + 128 * g ≤ 8192))
  case atStart => exact ⟨rfl, hl3, rv3, _, _, _, _, _, HS3, Lib.hid ⟨fun h hh => by rw [List.mem_singleton.1 hh]; exact HH1.out, HLF.out, by simp [sizesH], by have := HSZ.out; simp; omega, by have := HSZ.out; simp; omega⟩⟩
  case round =>
    obtain ⟨rfl, hlr, rv, fv, wv, H, F, W, HS, HX⟩ := hrel
    obtain ⟨⟨zb, cb, fb⟩, -⟩ := id HS.out.own
    have c3 : wr.cell? ⟨b, 3, none⟩ = some rv := cb 3
    have f3 : wr.frozen? ⟨b, 3, none⟩ = false := fb 3 (by simp)
    clear cb fb hl3 HS3
    have HS8 := Lib.hid HS.out
    have HX8 := HX
    clear HS HX
    cases H with
    | nil =>
      obtain ⟨rp, rc, rfl⟩ := HS8.out.rest.form
      have HR : Hid (R = (0, F, W)) := Lib.hid (left_nil HX8.out.2.1)
      simp only [List.length_nil] at c3 HS8
      go_wp2
      rw [← HP.out]
      have hx := HX8.out.2.2
      exact ⟨hlr, b, by rw [HR.out]; rfl, fun _ => ⟨_, _, _, _, by rw [HR.out]; exact HS8.out, by rw [HR.out]; simp only; omega, by rw [HR.out]; simp only; omega⟩⟩
    | cons h r =>
      obtain ⟨hH, hL, hsz, hfl, hwl⟩ := HX8.out
      obtain ⟨N, hN⟩ : ∃ N, r.length + 1 = N := ⟨_, rfl⟩
      have HQ := HS8.out.rest
      rw [List.length_cons, hN] at HQ
      obtain ⟨g, o, rc, hrv, hg1, hg2, hcap⟩ : ∃ g o rc, rv = .slice (some ⟨g, o, none⟩) N rc ∧ g < wr.heap.size ∧ N ≤ rc ∧ ∀ j, j < 4 → wr.cell? ⟨g, o + j, none⟩ = (hdCs h)[j]? := by
        rcases HQ.2 with ⟨_, h2⟩ | ⟨g, o, rc, h1, _, h3, h4, _, h6, _⟩
        · omega
        · refine ⟨g, o, rc, h1, h3, h4, fun j hj => ?_⟩
          rw [h6 j (by omega), List.flatMap_cons, List.getElem?_append_left (by rw [hdCs_len]; exact hj)]
      subst hrv
      have q0 := hcap 0 (by decide)
      have q1 := hcap 1 (by decide)
      have q2 := hcap 2 (by decide)
      have q3 := hcap 3 (by decide)
      simp only [hdCs, List.getElem?_cons_zero, List.getElem?_cons_succ, Nat.add_zero] at q0 q1 q2 q3
      have hsl := fun W => rest_cut (some ⟨g, o, none⟩) N rc (by omega) hg2 W
      have HC9 := Lib.hid (fun w1 (hl : Later wr w1) => StudyAt.cut HS8.out hN.symm hl)
      have HQ9 := Lib.hid (que_pop HQ hN.symm)
      obtain ⟨M9, hM9⟩ : ∃ m, N - 1 = m := ⟨_, rfl⟩
      obtain ⟨q9, c9, hV9⟩ : ∃ q c, sliced (some ⟨g, o, none⟩) 1 N rc 4 = .slice q M9 c := ⟨_, _, by unfold sliced; rw [hM9]⟩
      rw [hV9] at HC9 HQ9
      simp only [hV9] at hsl
      have hgt : 0 < (N : Int) := by omega
      have hmem : Hid (HdOk ts h ∧ (∀ x ∈ r, HdOk ts x) ∧ r.length ≤ 64) := Lib.hid ⟨hH h List.mem_cons_self, fun x hx => hH x (List.mem_cons_of_mem _ hx), by
        have : ∀ l : List Hd, l.length ≤ sizesH l := fun l => by
          induction l with
          | nil => exact Nat.le_refl _
          | cons a l ih => have := a.T.size_pos; simp only [sizesH, List.map_cons, List.sum_cons, List.length_cons] at ih ⊢; omega
        have := this (h :: r)
        simp only [List.length_cons] at this
        omega⟩
      have HLFT := Lib.hid hL
      have HNN := Lib.hid (show sizesH (h :: r) = gk ∧ F.length + gk ≤ 64 ∧ W.length + 128 * gk ≤ 8192 from ⟨hsz, hfl, hwl⟩)
      clear hcap HQ hV9 hM9 hH hL hsz hfl hwl HX8 hN
      obtain ⟨hday, hhd⟩ : ∃ x, h.day = x := ⟨_, rfl⟩
      obtain ⟨hpl, hhp⟩ : ∃ x : Int, (h.pl : Int) = x := ⟨_, rfl⟩
      obtain ⟨hn, hhn⟩ : ∃ x, h.n = x := ⟨_, rfl⟩
      obtain ⟨hdn, hhe⟩ : ∃ x, h.d = x := ⟨_, rfl⟩
      rw [hhp] at q0
      rw [hhd] at q1
      rw [hhn] at q2
      rw [hhe] at q3
      have HEQ := Lib.hid (show h.day = hday ∧ (h.pl : Int) = hpl ∧ h.n = hn ∧ h.d = hdn from ⟨hhd, hhp, hhn, hhe⟩)
      clear hhd hhp hhn hhe
      go_upto_region 11 with (fail)
      refine wp_opaque (fun wa hba => ?_)
      have hOa := Own.one hba
      have hla := hba.un1
      obtain ⟨A, hA⟩ : ∃ A, wr.heap.size = A := ⟨_, rfl⟩
      rw [hA] at hOa ⊢
      have c3a := ((bcell hla).1 _ 3 zb).trans c3
      have f3a := ((bcell hla).2 _ 3 zb).trans f3
      have zba := Nat.lt_of_lt_of_le zb hla.size
      clear hba c3 f3 q0 q1 q2 q3
      go_upto_region 12 with (fail)
      obtain ⟨hs9, hl9⟩ := HC9.out wa hla
      have hOb := B.own_far hOa (b := b) (k := 3) (fun z hz e => by
        simp only [List.mem_cons, List.not_mem_nil, or_false] at hz
        subst hz
        simp only at e
        omega) (.slice q9 M9 c9)
      obtain ⟨wb, hwb⟩ : ∃ x, wa.setCell ⟨b, 3, none⟩ (.slice q9 M9 c9) = x := ⟨_, rfl⟩
      rw [hwb] at hs9 hl9 hOb ⊢
      have hlb : Later w0 wb := lat_base hl9 hlr (fun k hk => by rw [hk]; exact HS8.out.lob)
      have HSB := Lib.hid hs9
      obtain ⟨⟨zA, cA, -⟩, -⟩ := hOb
      have a0 := cA 0
      have a1 := cA 1
      have a2 := cA 2
      have a3 := cA 3
      simp only [List.getElem?_toArray, List.getElem?_cons_zero, List.getElem?_cons_succ] at a0 a1 a2 a3
      clear hs9 hl9 hwb c3a f3a cA HC9 hOa hsl HS8
      by_cases htd : tod < hday
      · have hone : oneH (envT fx ch) tod h = (0, [], [], []) := by unfold oneH; rw [if_pos (by rw [HEQ.out.1]; exact htd)]
        have hst := left_step HLFT.out (by rw [hone])
        rw [hone] at hst
        simp only [List.append_nil] at hst
        have HST := Lib.hid hst
        clear hone hst
        go_wp2
        go_roundg (sizesH r)
        case measure => obtain ⟨e1, -, -⟩ := HNN.out; have e4 := h.T.size_pos; simp only [sizesH, List.map_cons, List.sum_cons] at e1 ⊢; omega
        case rel => exact ⟨rfl, hlb, _, _, _, _, _, _, HSB, Lib.hid ⟨hmem.out.2.1, HST.out, rfl, by obtain ⟨e1, e2, e3⟩ := HNN.out; have e4 := h.T.size_pos; simp only [sizesH, List.map_cons, List.sum_cons] at e1 ⊢; omega, by obtain ⟨e1, e2, e3⟩ := HNN.out; have e4 := h.T.size_pos; simp only [sizesH, List.map_cons, List.sum_cons] at e1 ⊢; omega⟩⟩
      · have HONE := Lib.hid (sone_any HJ.out wb hlb b tod ht0 ht1 (.slice q9 M9 c9) fv wv r F W HSB.out (by have := hmem.out.2.2; omega) (by have := HNN.out; omega) (by have := HNN.out; omega) h hmem.out.1 (by rw [HEQ.out.1]; exact htd))
        rw [HEQ.out.1, HEQ.out.2.1, HEQ.out.2.2.1, HEQ.out.2.2.2] at HONE
        unfold OneEnd at HONE
        obtain ⟨O, hO⟩ : ∃ O, oneH (envT fx ch) tod h = O := ⟨_, rfl⟩
        rw [hO] at HONE
        have HO := Lib.hid hO
        clear hO
        by_cases h0 : O.1 = 0
        · rw [h0] at HONE
          go_wp2_with (go_at_call 93; go_must (refine HONE.out.mono ?_; rintro e w5 ⟨rfl, rv5, fv5, wv5, hs5, hl5⟩))
          have hlt := one_lt (envT fx ch) tod h
          have hfw := one_few (envT fx ch) tod h
          rw [HO.out] at hlt hfw
          have hok5 := one_ok HJ.out.good HJ.out.ok (envT_ok HJ.out.fo HJ.out.co) (tod := tod) hmem.out.1
          have hst := left_step HLFT.out (by rw [HO.out]; exact h0)
          rw [HO.out] at hok5 hst
          go_roundg (sizesH (r ++ O.2.1))
          case measure => obtain ⟨e1, -, -⟩ := HNN.out; simp only [sizesH, List.map_cons, List.sum_cons, List.map_append, List.sum_append] at e1 hlt ⊢; omega
          case rel => exact ⟨rfl, hl5, _, _, _, _, _, _, Lib.hid hs5, Lib.hid ⟨fun x hx => (List.mem_append.1 hx).elim (hmem.out.2.1 x) (hok5 x), hst, rfl, by obtain ⟨e1, e2, e3⟩ := HNN.out; simp only [sizesH, List.map_cons, List.sum_cons, List.map_append, List.sum_append, List.length_append] at e1 hlt ⊢; omega, by obtain ⟨e1, e2, e3⟩ := HNN.out; simp only [sizesH, List.map_cons, List.sum_cons, List.map_append, List.sum_append, List.length_append] at e1 hlt ⊢; omega⟩⟩
        · have hR := left_err HLFT.out (by rw [HO.out]; exact h0)
          rw [HO.out] at hR
          have HR := Lib.hid hR
          obtain ⟨E, hE⟩ : ∃ E, O.1 = E := ⟨_, rfl⟩
          rw [hE] at HONE HR h0
          have he1 : (E == 0) = false := by simpa using h0
          have he2 : (E != 0) = true := by simpa using h0
          clear hR h0 hE
          go_wp2_with (go_at_call 93; go_must (refine HONE.out.mono ?_; rintro e w5 ⟨rfl, rv5, fv5, wv5, hs5, hl5⟩))
          rw [← HP.out]
          exact ⟨hl5, b, by rw [HR.out]; rfl, fun hz => absurd (show R.1 = 0 from hz) (by rw [HR.out]; exact fun e => by rw [show E = 0 from e] at he1; cases he1)⟩
end Go.Proofs.YtkjabiabeemfhaaGreatDoor
end
section
/- slices.Compact at waits; waits and flows are compared -/
namespace Go.Proofs.YtkjabiabeemfhaaGreatDoor
open Go.RowKit
set_option maxRecDepth 100000

theorem wt_eq (b c : Bool) (a1 a2 b1 b2 : Int) (W : World) : (Op.equalIn 10000 46 (.agg #[.bool b, .int .i64 a1, .int .i64 a2]) (.agg #[.bool c, .int .i64 b1, .int .i64 b2])).run Tryz.prog W = .ok (decide ((⟨b, a1, a2⟩ : Wt) = (⟨c, b1, b2⟩ : Wt))) W := by
  have hS : Tryz.prog.underlying 46 = some (.struct (Tryz.prog.fieldsOf 46)) := by kernel_rfl
  have hp : Tryz.prog.stoodInHeld 46 = false := by kernel_rfl
  have u3 := Tryz.underlying3
  have ia3 := Tryz.isAgg3
  have z3 := Tryz.sizeOf3
  have u4 := Tryz.underlying4
  have ia4 := Tryz.isAgg4
  have z4 := Tryz.sizeOf4
  rw [show (10000 : Nat) = 9999 + 1 from rfl, run_equalIn_agg W 9999 46 _ _ hS hp]
  simp only [Program.fieldsOf, Tryz.underlying46]
  go_simp
  by_cases h0 : b = c <;> simp [h0]
  by_cases h1 : a1 = b1 <;> simp [h1]
  by_cases h2 : a2 = b2 <;> simp [h2]
theorem wt_eql (b c : Bool) (a1 a2 b1 b2 : Int) (W : World) : (binOp .eql 46 (.agg #[.bool b, .int .i64 a1, .int .i64 a2]) (.agg #[.bool c, .int .i64 b1, .int .i64 b2])).run Tryz.prog W = .ok (.bool (decide ((⟨b, a1, a2⟩ : Wt) = (⟨c, b1, b2⟩ : Wt)))) W := by
  rw [run_eql_struct, wt_eq]; rfl
theorem wt_neq (b c : Bool) (a1 a2 b1 b2 : Int) (W : World) : (binOp .neq 46 (.agg #[.bool b, .int .i64 a1, .int .i64 a2]) (.agg #[.bool c, .int .i64 b1, .int .i64 b2])).run Tryz.prog W = .ok (.bool (!decide ((⟨b, a1, a2⟩ : Wt) = (⟨c, b1, b2⟩ : Wt)))) W := by
  rw [run_neq_struct, wt_eq]; rfl
/-- Waits are cut off, and what is behind is made nought. -/
theorem wait_from (b o L cp k : Nat) (hk : k < L) (hc : L ≤ cp) (W : World) : (Instr.slice 34 (.slice (some ⟨b, o, none⟩) L cp) (some (.int .i64 (k : Int))) none none).run Tryz.prog W = .ok (.slice (some ⟨b, o + k * 3, none⟩) (L - k) (cp - k)) W := by
  rw [run_slice_l _ _ _ _ _ (by kernel_rfl) _ _ (by omega) (by omega)]
  have e : (sizeOf (Tryz.prog.elem 34)).run Tryz.prog W = .ok 3 W := by kernel_rfl
  rw [e]
  simp only [Result.andThen, sliced, Int.toNat_natCast]
  rw [if_neg (by omega)]
  simp only [Option.map]; rw [add_plain]
theorem wait_upto (b o L cp k : Nat) (hk : k ≤ cp) (W : World) : (Instr.slice 34 (.slice (some ⟨b, o, none⟩) L cp) none (some (.int .i64 (k : Int))) none).run Tryz.prog W = .ok (.slice (some ⟨b, o, none⟩) k cp) W := by
  rw [run_slice_h _ _ _ _ _ (by kernel_rfl) _ _ (by omega) (by omega)]
  have e : (sizeOf (Tryz.prog.elem 34)).run Tryz.prog W = .ok 3 W := by kernel_rfl
  rw [e]
  simp only [Result.andThen, sliced, Int.toNat_natCast, Nat.zero_mul, Nat.sub_zero]
  split
  · rfl
  · simp only [Option.map]; rw [add_plain]; rfl
theorem zero_wait (w : World) : (zeroValue 46).run Tryz.prog w = .ok (.agg #[.bool false, .int .i64 0, .int .i64 0]) w := by kernel_rfl
theorem clear_wait (w : World) (ty : TypeId) (b o n c : Nat) (hn : 0 < n) (hc : ∀ j, j < n * 3 → (w.cell? ⟨b, o + j, none⟩).isSome = true) (hf : ∀ j, j < n * 3 → w.frozen? ⟨b, o + j, none⟩ = false) :
    ∃ vs : List Value, vs.length = n * 3 ∧ (Builtin.clear_ #[34] ty #[.slice (some ⟨b, o, none⟩) n c]).run Tryz.prog w = .ok (.tuple #[]) (w.setCells b o vs) := by
  obtain ⟨z, hz⟩ : ∃ z : Array Value, z = (Value.agg #[.bool false, .int .i64 0, .int .i64 0]).cells := ⟨_, rfl⟩
  have hz3 : z.size = 3 := by rw [hz]; rfl
  have hlen : (Builtin.zeroCells z n).toList.length = n * 3 := by simp [Builtin.zeroCells, hz3]
  have hone : ∀ v ∈ (Builtin.zeroCells z n).toList, v.oneCell' = true := by
    intro v hv
    simp only [Builtin.zeroCells, Array.toList_map, List.mem_map] at hv
    obtain ⟨i, _, rfl⟩ := hv
    have hi := Nat.mod_lt i (show 0 < z.size by omega)
    rw [hz3] at hi ⊢
    rw [hz]
    have : i % 3 = 0 ∨ i % 3 = 1 ∨ i % 3 = 2 := by omega
    rcases this with h | h | h <;> rw [h] <;> rfl
  have hst := run_storeCells_cells (P := Tryz.prog) b o (Builtin.zeroCells z n).toList 0 w (by rw [hlen]; simpa using hc) (by rw [hlen]; simpa using hf) hone
  simp only [Nat.add_zero] at hst
  refine ⟨(Builtin.zeroCells z n).toList, hlen, ?_⟩
  obtain ⟨m, rfl⟩ : ∃ m, n = m + 1 := ⟨n - 1, by omega⟩
  rw [hz] at hst ⊢
  simp [Builtin.clear_, run_underlying Tryz.underlying34, zero_wait, hst]
namespace B
/-- An element is laid anew. -/
theorem Que.put {α : Type} {sz base : Nat} {w : World} {g o n cap : Nat} {M : List α} {cs : α → List Value} (hcs : ∀ x, (cs x).length = sz) (h : Que base sz w (.slice (some ⟨g, o, none⟩) n cap) n (M.flatMap cs)) (hM : M.length = n) {i : Nat} (hi : i < n) (x : α) :
    Que base sz (w.setCells g (o + i * sz) (cs x)) (.slice (some ⟨g, o, none⟩) n cap) n ((M.set i x).flatMap cs) := by
  refine ⟨by rw [flat_len (sz := sz) cs hcs, List.length_set, hM], ?_⟩
  rcases h.2 with ⟨h1, _⟩ | ⟨g', o', cap', h1, h2, h3, h4, h5, h6, h7⟩
  · cases h1
  · cases h1
    obtain ⟨p1, p2, p3, p4⟩ := plain_setCells g (cs x) (o + i * sz) w
    have hle : (i + 1) * sz ≤ n * sz := Nat.mul_le_mul_right sz hi
    rw [Nat.succ_mul] at hle
    have hcap : n * sz ≤ cap * sz := Nat.mul_le_mul_right sz h4
    have hin : ∀ j, j < (cs x).length → (w.cell? ⟨g, o + i * sz + j, Option.none⟩).isSome = true := fun j hj => by
      rw [hcs] at hj
      have := (h7 (i * sz + j) (by omega)).1
      rwa [← Nat.add_assoc] at this
    have key : ∀ j, j < n * sz → ((M.set i x).flatMap cs)[j]? = if i * sz ≤ j ∧ j < i * sz + sz then (cs x)[j - i * sz]? else (M.flatMap cs)[j]? := by
      intro j hj
      have hsz : 0 < sz := by
        rcases Nat.eq_zero_or_pos sz with h | h
        · rw [h] at hj; simp at hj
        · exact h
      have hq : j / sz < n := by rw [Nat.div_lt_iff_lt_mul hsz]; exact hj
      have hm := Nat.mod_lt j hsz
      have e : j = j / sz * sz + j % sz := by rw [Nat.mul_comm]; exact (Nat.div_add_mod j sz).symm
      have g1 := flat_get cs hcs (M.set i x) (j / sz) (by rw [List.length_set, hM]; exact hq) (j % sz) hm
      have g2 := flat_get cs hcs M (j / sz) (by rw [hM]; exact hq) (j % sz) hm
      rw [← e] at g1 g2
      rw [g1, g2, List.getElem_set]
      by_cases hji : i = j / sz
      · subst hji
        rw [if_pos rfl, if_pos (by omega)]
        congr 1
        omega
      · rw [if_neg hji, if_neg]
        rintro ⟨a, b⟩
        apply hji
        have : j / sz = i := by
          rw [Nat.div_eq_of_lt_le (by omega) (by rw [Nat.succ_mul]; omega)]
        exact this.symm
    refine .inr ⟨g, o, cap, rfl, h2, by rw [p4]; exact h3, h4, h5, fun j hj => ?_, fun j hj => ⟨?_, ?_⟩⟩
    · rw [key j hj]
      by_cases hji : i * sz ≤ j ∧ j < i * sz + sz
      · rw [if_pos hji]
        have := World.cell?_setCells_in g (cs x) (o + i * sz) w hin (j - i * sz) (by rw [hcs]; omega)
        rw [show o + i * sz + (j - i * sz) = o + j by omega] at this
        rw [this, List.getElem?_eq_getElem (by rw [hcs]; omega)]
      · rw [if_neg hji, World.cell?_setCells_out g (cs x) (o + i * sz) w ⟨g, o + j, Option.none⟩ (fun _ _ => by
          rw [hcs]
          by_cases h : j < i * sz
          · exact .inl (by show o + j < _; omega)
          · exact .inr (by show _ ≤ o + j; omega)), h6 j hj]
    · by_cases hji : i * sz ≤ j ∧ j < i * sz + sz
      · have := World.cell?_setCells_in g (cs x) (o + i * sz) w hin (j - i * sz) (by rw [hcs]; omega)
        rw [show o + i * sz + (j - i * sz) = o + j by omega] at this
        rw [this]; rfl
      · rw [World.cell?_setCells_out g (cs x) (o + i * sz) w ⟨g, o + j, Option.none⟩ (fun _ _ => by
          rw [hcs]
          by_cases h : j < i * sz
          · exact .inl (by show o + j < _; omega)
          · exact .inr (by show _ ≤ o + j; omega))]
        exact (h7 j hj).1
    · rw [World.frozen?_setCells]; exact (h7 j hj).2
/-- The first ones alone, whatever is laid behind them. -/
theorem Que.upto {sz base : Nat} {w : World} {g o n cap : Nat} {xs : List Value} (h : Que base sz w (.slice (some ⟨g, o, none⟩) n cap) n xs) {k : Nat} (hk : k ≤ n) (vs : List Value) (hvs : vs.length = (n - k) * sz) :
    Que base sz (w.setCells g (o + k * sz) vs) (.slice (some ⟨g, o, none⟩) k cap) k (xs.take (k * sz)) := by
  have hle : k * sz ≤ n * sz := Nat.mul_le_mul_right sz hk
  refine ⟨by rw [List.length_take, h.1]; omega, ?_⟩
  rcases h.2 with ⟨h1, _⟩ | ⟨g', o', cap', h1, h2, h3, h4, h5, h6, h7⟩
  · cases h1
  · cases h1
    obtain ⟨p1, p2, p3, p4⟩ := plain_setCells g vs (o + k * sz) w
    have hcap : n * sz ≤ cap * sz := Nat.mul_le_mul_right sz h4
    rw [Nat.sub_mul] at hvs
    have hin : ∀ j, j < vs.length → (w.cell? ⟨g, o + k * sz + j, Option.none⟩).isSome = true := fun j hj => by
      have := (h7 (k * sz + j) (by omega)).1
      rwa [← Nat.add_assoc] at this
    refine .inr ⟨g, o, cap, rfl, h2, by rw [p4]; exact h3, by omega, h5, fun j hj => ?_, fun j hj => ⟨?_, ?_⟩⟩
    · rw [World.cell?_setCells_out g vs (o + k * sz) w ⟨g, o + j, Option.none⟩ (fun _ _ => .inl (by show o + j < _; omega)), h6 j (by omega), List.getElem?_take, if_pos hj]
    · by_cases hji : k * sz ≤ j ∧ j < k * sz + vs.length
      · have := World.cell?_setCells_in g vs (o + k * sz) w hin (j - k * sz) (by omega)
        rw [show o + k * sz + (j - k * sz) = o + j by omega] at this
        rw [this]; rfl
      · rw [World.cell?_setCells_out g vs (o + k * sz) w ⟨g, o + j, Option.none⟩ (fun _ _ => by
          by_cases h : j < k * sz
          · exact .inl (by show o + j < _; omega)
          · exact .inr (by show _ ≤ o + j; omega))]
        exact (h7 j hj).1
    · rw [World.frozen?_setCells]; exact (h7 j hj).2
theorem lat_setCells {Z : Nat → Prop} {a w : World} (h : S.LatB Z a w) {g o : Nat} (hg : Z g) (vs : List Value) : S.LatB Z a (w.setCells g o vs) := by
  obtain ⟨p1, p2, p3, p4⟩ := plain_setCells g vs o w
  exact h.trans ⟨p1, p2, p3, by rw [p4]; exact Nat.le_refl _, fun k _ hs => heap_setCells g vs o w k (fun e => hs (by rw [e]; exact hg))⟩
end B
end Go.Proofs.YtkjabiabeemfhaaGreatDoor
end
