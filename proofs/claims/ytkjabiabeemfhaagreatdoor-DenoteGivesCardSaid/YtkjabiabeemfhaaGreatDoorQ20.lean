/- denote: what a step ends with -/
import Derived.Test.YtkjabiabeemfhaaGreatDoorQ18
import Derived.Test.YtkjabiabeemfhaaGreatDoorQ19
import Derived.Test.YtkjabiabeemfhaaGreatDoorQ15
import Derived.Test.YtkjabiabeemfhaaGreatDoorQ10
import Derived.Test.YtkjabiabeemfhaaGreatDoorQ17
import Derived.RangeFuncBox
import Derived.RangeFuncNested
import Derived.OwnWalkIn
import Derived.Test.YtkjabiabeemfhaaGreatDoorQ13
set_option linter.all false
set_option linter.all false
section
/- denote: what stands ready for a contract that is gone through; values of numbers (plain) -/
namespace Go.Proofs.YtkjabiabeemfhaaGreatDoor
open Go.RowKit
set_option maxRecDepth 100000

structure JobAt (w0 : World) (ts : List Nd) (T : Tm) (tv : Value) (fx : FxL) (ch : ChL) (p m1 m2 : Nat) : Prop where
  good : Good ts T
  ok : ∀ x ∈ ts, x.ok
  sh : Shapes w0
  nodes : IsNodes w0 tv ts
  facts : FactsAt w0 p m1 m2 fx ch
  fo : FxOk fx
  co : ChOk ch
  cn : (ch.map (·.1)).Nodup
  cl : ch.length ≤ 100000
theorem JobAt.len {w0 : World} {ts : List Nd} {T : Tm} {tv : Value} {fx : FxL} {ch : ChL} {p m1 m2 : Nat} (h : JobAt w0 ts T tv fx ch p m1 m2) : ts.length ≤ 100000 := Nat.le_trans h.good.len (by decide)
def NumsAt (ts : List Nd) (l : List (Nat × Tm)) : Prop := ∀ x ∈ l, TmAt ts x.1 x.2 ∧ NumT x.2 ∧ wrongV ts (x.1 : Nat) = 0
theorem vat_place {ts : List Nd} {fx : FxL} {day : Int} {j : Nat} {s : Tm} (hs : TmAt ts j s) (h : wrongV ts (j : Nat) = 0) (h0 : 0 ≤ day) (h1 : day ≤ 73048) : atV ts fx (j : Nat) day = valT (getF fx day) s := by
  unfold atV
  rw [if_neg (by rw [h]; simp), if_neg (by omega), Int.toNat_natCast, subAt_eq hs]
def resL (get : Int → Option Q2) (l : List (Nat × Tm)) : List (Int × Option Q2) := l.map (fun x => valT get x.2)
def outL (rs : List (Int × Option Q2)) : List Q2 := rs.map (fun r => (outN r, outD r))
def errL (rs : List (Int × Option Q2)) : Int := match rs.find? (fun r => decide (r.1 ≠ 0)) with | some r => r.1 | none => 0
def allL (rs : List (Int × Option Q2)) : Bool := rs.all (fun r => r.2.isSome)
def askW (env : Env) (day : Int) (l : List (Nat × Tm)) : List Wt := if errL (resL (env.get day) l) = 0 ∧ allL (resL (env.get day) l) = false then l.flatMap (fun x => asksT env day x.2) else []
theorem errL_at {rs : List (Int × Option Q2)} {i : Nat} (hi : i < rs.length) (h0 : ∀ q (hq : q < rs.length), q < i → (rs[q]).1 = 0) (h1 : (rs[i]).1 ≠ 0) : errL rs = (rs[i]).1 := by unfold errL; rw [find_first hi h0 h1]
theorem errL_none {rs : List (Int × Option Q2)} (h0 : ∀ r ∈ rs, r.1 = 0) : errL rs = 0 := by unfold errL; rw [find_none h0]
theorem allL_take {rs : List (Int × Option Q2)} {i : Nat} (hi : i < rs.length) : allL (rs.take (i + 1)) = (allL (rs.take i) && (rs[i]).2.isSome) := by
  unfold allL
  rw [List.take_succ_eq_append_getElem hi, List.all_append]
  simp
theorem outL_take {rs : List (Int × Option Q2)} {i : Nat} (hi : i < rs.length) : outL (rs.take (i + 1)) = outL (rs.take i) ++ [(outN rs[i], outD rs[i])] := by
  unfold outL
  rw [List.take_succ_eq_append_getElem hi, List.map_append]
  rfl
theorem own_set3 {w : World} {b : Nat} {p q r x y z : Value} (h : Own w [(b, #[p, q, r])]) : Own (((w.setCell ⟨b, 0, none⟩ x).setCell ⟨b, 1, none⟩ y).setCell ⟨b, 2, none⟩ z) [(b, #[x, y, z])] :=
  Own.cons (by simpa using h.1.1) (fun i => set_own (k := 2) (set_own (k := 1) (set_own (k := 0) h.1.2.1 x (by simp)) y (by simp)) z (by simp) i) (fun i hi => set_frozen (n := 3) (fun i hi => set_frozen (n := 3) (fun i hi => set_frozen (n := 3) h.1.2.2 x i hi) y i hi) z i hi) trivial
/-- A row that lies apart from what changed. -/
theorem row_lat {α : Type} {sz : Nat} {f : α → Nat → Value} {w w' : World} {v : Value} {xs : List α} {Z : Nat → Prop} (h : IsRow sz f w v xs) (hL : S.LatB Z w w') (hZ : ∀ k, v.ownBlock = some k → ¬ Z k) : IsRow sz f w' v xs := by
  rcases h with h | ⟨b, o, cap, h1, h2, h3, h4, h5⟩
  · exact .inl h
  · refine .inr ⟨b, o, cap, h1, Nat.lt_of_lt_of_le h2 hL.size, h3, h4, fun i hi j hj => ?_⟩
    rw [hL.cell h2 (hZ b (by rw [h1]; rfl))]
    exact h5 i hi j hj
theorem ints_lat {w w' : World} {v : Value} {zs : List Int} {Z : Nat → Prop} (h : IsInts w v zs) (hL : S.LatB Z w w') (hZ : ∀ k, v.ownBlock = some k → ¬ Z k) : IsInts w' v zs := by
  rcases h with h | ⟨b, o, cap, h1, h2, h3, h4, h5⟩
  · exact .inl h
  · refine .inr ⟨b, o, cap, h1, Nat.lt_of_lt_of_le h2 hL.size, h3, h4, fun j hj => ?_⟩
    rw [hL.cell h2 (hZ b (by rw [h1]; rfl))]
    exact h5 j hj
theorem flat_mem {ts : List Nd} {j : Nat} {s : Tm} (h : TmAt ts j s) {x : Nd} (hx : x ∈ s.flat) : x ∈ ts := by
  obtain ⟨r, hr⟩ := h.2
  have : x ∈ ts.drop j := by rw [← hr]; exact List.mem_append_left _ hx
  exact List.mem_of_mem_drop this
theorem flat_keys {ts : List Nd} {T : Tm} (hG : Good ts T) {j : Nat} {s : Tm} (h : TmAt ts j s) : ∀ x ∈ s.flat, x.op = 2 → 0 ≤ x.a ∧ x.a < 64 := fun x hx h2 => key_range (hG.fields x (flat_mem h hx)) h2
/-- What some keys ask for. -/
def askK (env : Env) (day : Int) (ks : List Int) : List Wt := (ks.filter (fun k => (env.get day k).isNone)).map (fun k => ⟨false, k, day⟩)
theorem askK_take {env : Env} {day : Int} {ks : List Int} {k : Nat} (h : k < ks.length) : askK env day (ks.take (k + 1)) = askK env day (ks.take k) ++ if (env.get day ks[k]).isNone then [⟨false, ks[k], day⟩] else [] := by
  unfold askK
  rw [List.take_succ_eq_append_getElem h, List.filter_append, List.map_append]
  congr 1
  cases hc : (env.get day ks[k]).isNone <;> simp [hc]
theorem askK_le (env : Env) (day : Int) (ks : List Int) : (askK env day ks).length ≤ ks.length := by unfold askK; rw [List.length_map]; exact List.length_filter_le _ _
theorem flat_le (env : Env) (day : Int) (l : List (Nat × Tm)) : (l.flatMap (fun x => asksT env day x.2)).length ≤ 64 * l.length := by
  induction l with
  | nil => simp
  | cons a l ih =>
    have := asks_le env day a.2
    rw [List.flatMap_cons, List.length_append, List.length_cons]
    omega
/-- What the values of numbers end with. -/
def ValEnd (env : Env) (lo : Nat) (w : World) (b : Nat) (tv : Value) (tod : Int) (fp rv fv wv : Value) (H : List Hd) (F : List Fl) (W : List Wt) (day : Int) (l : List (Nat × Tm)) (e : Ending) (w' : World) : Prop :=
  ∃ wv', StudyAt lo w' b tv tod fp rv fv wv' H F (W ++ askW env day l) ∧ S.LatB (fun k => k = b ∨ wv.ownBlock = some k) w w' ∧ (wv'.ownBlock = wv.ownBlock ∨ ∀ k, wv'.ownBlock = some k → w.heap.size ≤ k) ∧
    ∃ v' k', e = .returned (.tuple #[v', .bool k', .int .i64 (errL (resL (env.get day) l))]) ∧ (errL (resL (env.get day) l) = 0 → k' = allL (resL (env.get day) l) ∧ IsRats w' v' (outL (resL (env.get day) l)))
theorem ints1 {w : World} {ta : TypeId} {k : Nat} (a : Int) (hk : k = w.heap.size) : IsInts (w.alloc (.cells #[.int .i64 a] ta)).drew (.slice (some ⟨k, 0, none⟩) 1 1) [a] := by
  subst hk
  obtain ⟨z, hc, -⟩ := own_get (own_alloc w #[.int .i64 a] ta)
  refine .inr ⟨w.heap.size, 0, 1, rfl, z, Nat.le_refl _, by unfold maxLen; omega, fun j hj => ?_⟩
  have hj3 : j < 1 := hj
  show (w.alloc _).cell? _ = _
  rw [Nat.zero_add, hc j]
  rcases j with _ | j
  · rfl
  · omega
theorem ints2d {w : World} {ta : TypeId} {k : Nat} (a c : Int) (hk : k = w.heap.size) : IsInts (w.alloc (.cells #[.int .i64 a, .int .i64 c] ta)).drew (.slice (some ⟨k, 0, none⟩) 2 2) [a, c] := by
  subst hk
  obtain ⟨z, hc, -⟩ := own_get (own_alloc w #[.int .i64 a, .int .i64 c] ta)
  refine .inr ⟨w.heap.size, 0, 2, rfl, z, Nat.le_refl _, by unfold maxLen; omega, fun j hj => ?_⟩
  have hj3 : j < 2 := hj
  show (w.alloc _).cell? _ = _
  rw [Nat.zero_add, hc j]
  rcases j with _ | _ | j
  · rfl
  · rfl
  · omega
theorem Later.undrew' {a b : World} (h : Later a.drew b) : Later a b := h.undrew
theorem val_one {env : Env} {lo : Nat} {w : World} {b : Nat} {tv : Value} {tod : Int} {fp rv fv wv : Value} {H : List Hd} {F : List Fl} {W : List Wt} {day : Int} {k : Nat} {s : Tm} {e : Ending} {w' : World} {R : Int × Option Q2} (hR : valT (env.get day) s = R) (h : ValEnd env lo w b tv tod fp rv fv wv H F W day [(k, s)] e w') :
    ∃ wv', StudyAt lo w' b tv tod fp rv fv wv' H F (W ++ if R.1 = 0 ∧ R.2.isSome = false then asksT env day s else []) ∧ S.LatB (fun k => k = b ∨ wv.ownBlock = some k) w w' ∧ (wv'.ownBlock = wv.ownBlock ∨ ∀ k, wv'.ownBlock = some k → w.heap.size ≤ k) ∧
      ∃ v' k', e = .returned (.tuple #[v', .bool k', .int .i64 R.1]) ∧ (R.1 = 0 → k' = R.2.isSome ∧ IsRats w' v' [(outN R, outD R)]) := by
  have hr : resL (env.get day) [(k, s)] = [R] := by simp [resL, hR]
  have he : errL [R] = R.1 := by
    unfold errL
    by_cases h0 : R.1 = 0 <;> simp [h0]
  have ha : allL [R] = R.2.isSome := by simp [allL]
  obtain ⟨wv', h1, h2, h3, v', k', h4, h5⟩ := h
  rw [hr, he] at h4 h5
  rw [ha] at h5
  refine ⟨wv', ?_, h2, h3, v', k', h4, h5⟩
  unfold askW at h1
  rw [hr, he, ha] at h1
  simpa using h1
theorem val_two {env : Env} {lo : Nat} {w : World} {b : Nat} {tv : Value} {tod : Int} {fp rv fv wv : Value} {H : List Hd} {F : List Fl} {W : List Wt} {day : Int} {k j : Nat} {s t : Tm} {e : Ending} {w' : World} {R U : Int × Option Q2} (hR : valT (env.get day) s = R) (hU : valT (env.get day) t = U) (h : ValEnd env lo w b tv tod fp rv fv wv H F W day [(k, s), (j, t)] e w') :
    ∃ wv', StudyAt lo w' b tv tod fp rv fv wv' H F (W ++ if (if R.1 = 0 then U.1 else R.1) = 0 ∧ (R.2.isSome && U.2.isSome) = false then asksT env day s ++ asksT env day t else []) ∧ S.LatB (fun k => k = b ∨ wv.ownBlock = some k) w w' ∧ (wv'.ownBlock = wv.ownBlock ∨ ∀ k, wv'.ownBlock = some k → w.heap.size ≤ k) ∧
      ∃ v' k', e = .returned (.tuple #[v', .bool k', .int .i64 (if R.1 = 0 then U.1 else R.1)]) ∧ ((if R.1 = 0 then U.1 else R.1) = 0 → k' = (R.2.isSome && U.2.isSome) ∧ IsRats w' v' [(outN R, outD R), (outN U, outD U)]) := by
  have hr : resL (env.get day) [(k, s), (j, t)] = [R, U] := by simp [resL, hR, hU]
  have he : errL [R, U] = if R.1 = 0 then U.1 else R.1 := by
    unfold errL
    by_cases h0 : R.1 = 0
    · by_cases h1 : U.1 = 0 <;> simp [h0, h1]
    · simp [h0]
  have ha : allL [R, U] = (R.2.isSome && U.2.isSome) := by simp [allL]
  obtain ⟨wv', h1, h2, h3, v', k', h4, h5⟩ := h
  rw [hr, he] at h4 h5
  rw [ha] at h5
  refine ⟨wv', ?_, h2, h3, v', k', h4, h5⟩
  unfold askW at h1
  rw [hr, he, ha] at h1
  simpa using h1
end Go.Proofs.YtkjabiabeemfhaaGreatDoor
end
section
/- denote: what is put behind, by a closure of a step's own -/
namespace Go.Proofs.YtkjabiabeemfhaaGreatDoor
open Go.RowKit
set_option maxRecDepth 100000

/-- One more is held. -/
def PutRest (lo : Nat) (w : World) (b : Nat) (tv : Value) (tod : Int) (fp rv fv wv : Value) (H : List Hd) (F : List Fl) (W : List Wt) (h : Hd) (w' : World) : Prop :=
  ∃ rv', StudyAt lo w' b tv tod fp rv' fv wv (H ++ [h]) F W ∧ S.LatB (fun k => k = b ∨ rv.ownBlock = some k) w w' ∧ (rv'.ownBlock = rv.ownBlock ∨ ∀ k, rv'.ownBlock = some k → w.heap.size ≤ k)
def PutEnd (lo : Nat) (w : World) (b : Nat) (tv : Value) (tod : Int) (fp rv fv wv : Value) (H : List Hd) (F : List Fl) (W : List Wt) (h : Hd) (e : Ending) (w' : World) : Prop :=
  e = .returned (.tuple #[]) ∧ PutRest lo w b tv tod fp rv fv wv H F W h w'
theorem PutRest.back {lo : Nat} {w w1 : World} {b : Nat} {tv : Value} {tod : Int} {fp rv fv wv : Value} {H : List Hd} {F : List Fl} {W : List Wt} {h : Hd} {w' : World} (hl : Later w w1) (hp : PutRest lo w1 b tv tod fp rv fv wv H F W h w') : PutRest lo w b tv tod fp rv fv wv H F W h w' := by
  obtain ⟨rv', h2, h3, h4⟩ := hp
  exact ⟨rv', h2, (S.LatB.of hl).trans h3, h4.imp id (fun f k hk => Nat.le_trans hl.size (f k hk))⟩
theorem sput_later {lo : Nat} {w : World} {b : Nat} {tv : Value} {tod : Int} {fp rv fv wv : Value} {H : List Hd} {F : List Fl} {W : List Wt} (hlo : lo ≤ w.heap.size) (hlen : H.length ≤ 1000000) (hst : StudyAt lo w b tv tod fp rv fv wv H F W) (h : Hd) (pl : Int) (hpl : (h.pl : Int) = pl) (W1 : World) (hl : Later w W1) :
    Calls Tryz.prog 92 #[.pointer (some ⟨b, 0, none⟩), .int .i64 pl, .int .i64 h.day, .agg #[.int .i64 h.n, .int .i64 h.d]] W1 (PutEnd lo W1 b tv tod fp rv fv wv H F W h) := by
  subst hpl
  exact sput_any lo W1 b tv tod fp rv fv wv H F W h (Nat.le_trans hlo hl.size) hlen (hst.later hl)
set_option maxHeartbeats 1600000 in
theorem sone1_any {lo : Nat} {w : World} {b : Nat} {tv : Value} {tod : Int} {fp rv fv wv : Value} {H : List Hd} {F : List Fl} {W : List Wt} (hlo : lo ≤ w.heap.size) (hlen : H.length ≤ 1000000) (hst : StudyAt lo w b tv tod fp rv fv wv H F W) (h : Hd) (A B D : Nat) (pls : List Int) (i : Nat) (hi : i < pls.length) (hp : (h.pl : Int) = pls[i]) (dv : Value) (cA : w.cell? ⟨A, 0, none⟩ = some (.pointer (some ⟨b, 0, none⟩))) (cD : w.cell? ⟨D, 0, none⟩ = some dv) (hI : IsInts w dv pls)
    (k1 : w.cell? ⟨B, 1, none⟩ = some (.int .i64 h.day)) (k2 : w.cell? ⟨B, 2, none⟩ = some (.int .i64 h.n)) (k3 : w.cell? ⟨B, 3, none⟩ = some (.int .i64 h.d)) :
    Calls Tryz.prog 132 #[.int .i64 (i : Int), .pointer (some ⟨A, 0, none⟩), .pointer (some ⟨D, 0, none⟩), .pointer (some ⟨B, 0, none⟩)] w (PutEnd lo w b tv tod fp rv fv wv H F W h) := by
  obtain ⟨db, do', dc, rfl, hdb, g⟩ := hI.full hi
  obtain ⟨N, hN⟩ : ∃ N, pls.length = N := ⟨_, rfl⟩
  rw [hN] at hi cD
  obtain ⟨P, hP⟩ : ∃ P, PutRest lo w b tv tod fp rv fv wv H F W h = P := ⟨_, rfl⟩
  have HPUT := Lib.hid (fun W1 (hl : Later w W1) => (sput_later hlo hlen hst h pls[i] hp W1 hl).mono (fun e w' he => show e = .returned (.tuple #[]) ∧ P w' from ⟨he.1, by rw [← hP]; exact he.2.back hl⟩))
  refine Calls.mono (R := fun e w' => e = .returned (.tuple #[]) ∧ P w') ?_ (fun e w' he => ⟨he.1, by rw [hP]; exact he.2⟩)
  obtain ⟨T, pl, day, n, d⟩ := h
  simp only at k1 k2 k3 HPUT
  obtain ⟨q, hq⟩ : ∃ q, pls[i] = q := ⟨_, rfl⟩
  rw [hq] at g HPUT
  have hiI : (i : Int) < N := by omega
  clear hst hI hP hp hq hlen hlo
  go_enter Tryz.func132, Tryz.ntmps132
  refine V.wp_region_plan 9 (.one [0, 1, 2, 3, 4, 5, 6, 7, 8] 9 (.done [])) (by kernel_rfl) (by kernel_rfl) (fun _ _ d _ _ h => by cases d <;> exact h) ?_
  repeat' (first
    | (refine plan_done (fun K hK => ?_); (first | (simp only [pick_cons, pick_nil, toList_some_append, List.getElem?_toArray, List.getElem?_cons_zero, List.getElem?_cons_succ]; repeat (go_big_quiet_step (fail))) | simp only [pick_nil]); refine wpQuiet_nil (hK _ ?_); clear hK K)
    | (refine plan_one (by rfl) (fun K hK => ?_); (first | (simp only [pick_cons, pick_nil, toList_some_append, List.getElem?_toArray, List.getElem?_cons_zero, List.getElem?_cons_succ]; repeat (go_big_quiet_step (fail))) | simp only [pick_nil]); refine wpQuiet_nil (hK _ ?_); clear hK K)
    | ((with_reducible refine at_list ?_); go_wp2_with ((go_at_call 92; go_must (refine (HPUT.out _ (by repeat (first | with_reducible exact Later.refl _ | with_reducible assumption | with_reducible refine Later.ofdrew ?_ | with_reducible refine Later.ofdrewN ?_ | with_reducible refine Later.setCell ?_ ?_ _ | with_reducible refine Later.alloc ?_ _ | with_reducible refine Later.drewN ?_ _ | with_reducible refine Later.drew ?_ | (with_reducible refine Later.trans ?_ (by assumption)) | (simp only [World.size_setCell, World.size_alloc, World.heap_drewN]; omega) | (simp; done) | (simp; omega)))).mono ?_; rintro e w9 ⟨rfl, hP9⟩))); first | refine behind_store (t := 9) (by decide) ?_ | refine behind (by repeat (first | with_reducible exact Later.refl _ | with_reducible assumption | with_reducible refine Later.ofdrew ?_ | with_reducible refine Later.ofdrewN ?_ | with_reducible refine Later.alloc ?_ _ | with_reducible refine Later.drewN ?_ _ | with_reducible refine Later.drew ?_ | (with_reducible refine Later.trans ?_ (by assumption)))) ?_))
  go_wp2
  go_end0
  exact ⟨rfl, hP9⟩
end Go.Proofs.YtkjabiabeemfhaaGreatDoor
end
section
/- term.Below: the places of the terms below a node -/
namespace Go.Proofs.YtkjabiabeemfhaaGreatDoor
open Go.RowKit
set_option maxRecDepth 100000
attribute [local go_sem] Oper.semAt_some

theorem wpListIn_push {F : Fence} {m : Nat} {P : Program} {w : World} {base : Nat} {e sz : Nat} {v : Value} {n : Nat} {xs : List Value} {ops : Array Oper} {rest : List Oper} {o : Oper} {a : Act} {Q : Exit → Act → World → Prop} {t bytes : Nat} {ta : TypeId} {news : Array Value}
    (T : SliceOf P t e sz bytes) (hM : w.ownsRow base e sz v n xs) (hbase : base ≤ w.heap.size) (hgd : o.guard = none) (s x : Operand)
    (ho : o.op = .call { callee := .builtin .append, args := #[s, x], argTypes := #[t, t] }) (hs : a.eval s = v) (c b : Nat) (hx : a.eval x = .slice (some ⟨b, 0, none⟩) 1 c) (hb : b = w.heap.size) (hl : news.size = sz) (h1 : ∀ u ∈ news.toList, u.oneCell' = true)
    (h63 : (n + 1) * bytes ≤ 140737488355328) (h64 : n + 1 ≤ maxLen)
    (h : ∀ v' w', w'.ownsRow base e sz v' (n + 1) (xs ++ news.toList) → (w.alloc (.cells news ta)).grownBy w' v.ownBlock → wpListIn F m P ops Q rest (a.put o.dst v') w') : wpListIn F m P ops Q (o :: rest) a (w.alloc (.cells news ta)) := by
  subst hb
  obtain ⟨i, z, t1, t2, t3, t4, t5, t6, t7⟩ := T
  have hc := (own_get (own_alloc w news ta)).2.1
  refine wpListIn_append_own _ hgd s x t ho base e i z sz bytes t1 t2 t3 t4 t5 t6 t7 v n xs hs (hM.alloc _) ⟨w.heap.size, 0, none⟩ 1 c news.toList hx (by rw [Nat.one_mul, Array.length_toList, hl]) ?_ h1 h64 h63 (by simp; omega) (fun v' w' a b _ => h v' w' a b)
  intro j u hj
  rw [add_plain, Nat.zero_add, hc j, ← Array.getElem?_toList, hj]
def placesF (k : Nat) (l : List Tm) (pre : List (Fin l.length)) : List Value := pre.map (fun x => Value.int .i64 (placeN k l x.1 : Int))
theorem placesF_all (k : Nat) (l : List Tm) : placesF k l (List.finRange l.length) = (placesI k l l.length).map (Value.int .i64) := by
  unfold placesF placesI
  rw [List.map_map]
  apply List.ext_getElem
  · simp
  · intro i h1 h2; simp
def BelowI (k : Nat) (l : List Tm) (n B Bt : Nat) (u : Value) (w : World) (pre : List (Fin l.length)) (W : World) : Prop :=
  (∃ v, Boxed W B 94 v ∧ W.ownsRow n 3 1 v pre.length (placesF k l pre) ∧ pre.length ≤ l.length) ∧ Boxed W Bt 22 u ∧ Below n w W
theorem belowI_own (k : Nat) (l : List Tm) {n B Bt : Nat} (u : Value) {w : World} {C : Nat} (hn : n ≤ w.heap.size) (hC : n ≤ C) : OwnFrom C (BelowI k l n B Bt u w) :=
  OwnFrom.and (Own.from (holdsRow_own n B 94 3 1 (fun pre : List (Fin l.length) => pre.length) (placesF k l) (fun pre _ => pre.length ≤ l.length)) C)
    (OwnFrom.and (Own.from (boxed_own Bt 22 (fun _ : List (Fin l.length) => u)) C) (ownFrom_below hn hC))

set_option maxHeartbeats 2000000 in
theorem tbelow_any (ts : List Nd) (hlen : ts.length ≤ 100000) (k : Nat) (x : Nd) (l : List Tm) (v : Value) (w : World) (hT : TmAt ts k (.node x l)) (hS : Shapes w) (hN : IsNodes w v ts) :
    Calls Tryz.prog 125 #[v, .int .i64 k] w fun e w' => ∃ v', e = .returned (.tuple #[v', .int .i64 0]) ∧ w'.ownsRow w.heap.size 3 1 v' l.length ((placesI k l l.length).map (Value.int .i64)) ∧ Later w w' := by
  obtain ⟨p, cp, rfl⟩ := hN.form
  have HK := Lib.hid (fun W => kids_make p ts.length cp (k : Int) W)
  have HZ := Lib.hid (tsize_any ts k (.node x l) _ w hlen hT hS hN)
  have hST := Lib.hid hS
  have hNT := Lib.hid hN
  have HT := Lib.hid hT
  obtain ⟨hr1, hr2, hr3, hr4⟩ := hT.root
  have hml := many_le x.op
  rw [← hr4] at hml
  clear hS hN hT hr1 hr2 hr3 hr4
  obtain ⟨Z, hZ⟩ : ∃ Z, ((Tm.node x l).size : Int) = Z := ⟨_, rfl⟩
  rw [hZ] at HZ
  clear hZ
  refine callsIn_wide.1 (callsIn_of_wp_marks (n := 9) Tryz.func125 rfl trivial ?_ rfl)
  simp only [Tryz.ntmps125, List.size_toArray, List.length_cons, List.length_nil, Nat.reduceAdd, Nat.reduceSub, Array.replicate_succ, Array.replicate_zero, List.push_toArray, List.append_toArray, List.nil_append, List.cons_append]
  gi_wp2_with (first | ((first | (refine ⟨trivial, ?_⟩; gi_at_call 167) | (refine ⟨trivial, fun hh => (by cases hh), ?_⟩; gi_at_call 167)); go_must (refine (callsIn_wide.2 HZ.out).mono ?_; rintro e w1 ⟨rfl, hb1⟩)) | ((first | (refine ⟨trivial, ?_⟩; gi_at_call 120) | (refine ⟨trivial, fun hh => (by cases hh), ?_⟩; gi_at_call 120)); go_must (refine (callsIn_wide.2 (HK.out _)).mono ?_; rintro e w2 ⟨rfl, rfl⟩)))
  have hO := Own.three (Later.refl (((w1.alloc (.cells #[.slice none 0 0] 94)).alloc (.cells #[.slice p ts.length cp] 22)).alloc (.cells #[.int .i64 k] 3)))
  have hbx : Boxed (((w1.alloc (.cells #[.slice none 0 0] 94)).alloc (.cells #[.slice p ts.length cp] 22)).alloc (.cells #[.int .i64 k] 3)) w1.heap.size 94 (.slice none 0 0) := ((Boxed.new w1 94 (.slice none 0 0)).alloc _).alloc _
  have hbt : Boxed (((w1.alloc (.cells #[.slice none 0 0] 94)).alloc (.cells #[.slice p ts.length cp] 22)).alloc (.cells #[.int .i64 k] 3)) (w1.heap.size + 1) 22 (.slice p ts.length cp) := by have := (Boxed.new (w1.alloc (.cells #[.slice none 0 0] 94)) 22 (.slice p ts.length cp)).alloc (.cells #[.int .i64 k] 3); rwa [World.size_alloc] at this
  have hLL : Later w (((w1.alloc (.cells #[.slice none 0 0] 94)).alloc (.cells #[.slice p ts.length cp] 22)).alloc (.cells #[.int .i64 k] 3)) := ((hb1.alloc _).alloc _).alloc _
  obtain ⟨W0, hW0⟩ : ∃ W0, (((w1.alloc (.cells #[.slice none 0 0] 94)).alloc (.cells #[.slice p ts.length cp] 22)).alloc (.cells #[.int .i64 k] 3)) = W0 := ⟨_, rfl⟩
  rw [hW0] at hO hbx hbt hLL ⊢
  have hzw : w1.heap.size + 1 + 1 < W0.heap.size := hO.2.2.1.1
  have hz1 := hb1.size
  have d1 := hO.2.1.2.1 0
  have d2 := hO.2.2.1.2.1 0
  have HLL := Lib.hid hLL
  have hzW := hLL.size
  have HI0 : Hid (BelowI k l w.heap.size w1.heap.size (w1.heap.size + 1) (.slice p ts.length cp) W0 [] W0) := Lib.hid ⟨⟨_, hbx, World.ownsRow_nil _ _ _ _, Nat.zero_le _⟩, hbt, Below.refl _ _⟩
  clear hW0 hO hbx hbt hLL
  refine wpIn_rangeFunc_ownF rfl (by omega) (gf := 166) (lb := #[.pointer (some ⟨w1.heap.size + 1 + 1, 0, none⟩), .pointer (some ⟨w1.heap.size + 1, 0, none⟩)]) rfl trivial (enters_of Tryz.func166 (by kernel_rfl) rfl)
    (kids_stops ts hlen k x l HT.out 8 (w1.heap.size + 1) (w1.heap.size + 1 + 1) (.slice p ts.length cp) w W0 hST.out hNT.out HLL.out d1 d2) kb_t (kb_b hzW (by simp; omega)) (Below.refl _ _) (fun _ => rfl)
    (BelowI k l w.heap.size w1.heap.size (w1.heap.size + 1) (.slice p ts.length cp) W0) (fun _ _ _ => False) (belowI_own k l _ hzW hzW) (fun _ _ _ _ _ hs _ _ => hs) HI0.out
    (fun i => { tmps := #[.slice p ts.length cp, .int .i64 k, undef, undef, .slice none 0 0, .int .i64 0, .int .i64 Z, .int .i64 0, .pointer (some ⟨w1.heap.size, 0, none⟩), undef, .int .i64 (placeN k l i.1 : Int), .tuple #[.int .i64 Z, .int .i64 0], .slice p ts.length cp, .int .i64 k, .tuple #[.int .i64 Z, .int .i64 0], .int .i64 Z, .int .i64 0, .int .i64 0, .bool false, undef, .slice p ts.length cp, .int .i64 k, .func (.func 166) #[] #[.pointer (some ⟨w1.heap.size + 1 + 1, 0, none⟩), .pointer (some ⟨w1.heap.size + 1, 0, none⟩)], .int .i64 (i.1 : Int), .int .i64 (placeN k l i.1 : Int), undef, undef, undef, undef, undef], defers := [] }) ?assign ?body ?done ?stop
  case assign =>
    intro ll i W K hK
    gi_wp2
    exact hK
  case body =>
    rintro ll pre i W ⟨⟨u, hbx, hrow, hpl⟩, hc, hB⟩ hlt
    have hcB := hbx.cell
    have hfB := hbx.frozen
    have hzB := hB.size
    obtain ⟨pu, cu, rfl⟩ := B.owns_form hrow
    have HROW := Lib.hid hrow
    have HBX := Lib.hid hbx
    have HS : Hid (placesF k l (pre ++ [i]) = placesF k l pre ++ [.int .i64 (placeN k l i.1 : Int)]) := Lib.hid (by simp [placesF])
    have HB := Lib.hid hB
    have HC := Lib.hid hc
    obtain ⟨m, hm⟩ : ∃ m, pre.length = m := ⟨_, rfl⟩
    have HM := Lib.hid hm
    rw [hm] at HROW HBX hcB hlt
    generalize (placeN k l i.1 : Int) = X at *
    clear hrow hbx hm hpl hB hc HI0 hST hNT HK HZ
    gi_wp2_with (gi_at_builtin; go_must (refine wpListIn_push (base := w.heap.size) sliceInt HROW.out (by omega) rfl _ _ rfl rfl 1 _ rfl (by simp) rfl (by simp [Value.oneCell']) (by omega) (by unfold maxLen; omega) ?_; intro v9 w9 k1 k2; obtain ⟨hx1, hx2, hx3, hx4, hx5⟩ := Boxed.appended HBX.out (by decide) HROW.out (by omega) (by omega) k1 k2; have hcx := hx1.cell; have hfx := hx1.frozen; obtain ⟨p9, c9, rfl⟩ := B.owns_form k1))
    have hcn := HC.out.not_row (by decide) HROW.out
    have hbt9 : Boxed w9 (w1.heap.size + 1) 22 (.slice p ts.length cp) := (HC.out.alloc _).kept k2 hcn
    have hbt10 : Boxed (w9.setCell ⟨w1.heap.size, 0, none⟩ (.slice p9 (m + 1) c9)) (w1.heap.size + 1) 22 (.slice p ts.length cp) := Boxed.other hbt9 (by omega) _
    refine ⟨hx4, ⟨hx5, fun b hb j => ?_⟩, ⟨_, hx2, ?_, ?_⟩, hbt10, HB.out.trans hx5⟩
    · obtain rfl : b = w1.heap.size + 1 := by simpa using hb
      have h1 : (w9.setCell ⟨w1.heap.size, 0, none⟩ (.slice p9 (m + 1) c9)).heap[w1.heap.size + 1]? = W.heap[w1.heap.size + 1]? := by
        rw [show W.heap[w1.heap.size + 1]? = _ from HC.out, show (w9.setCell ⟨w1.heap.size, 0, none⟩ (.slice p9 (m + 1) c9)).heap[w1.heap.size + 1]? = _ from hbt10]
      exact World.cell?_of_block (w := W) (a := ⟨w1.heap.size + 1, j, none⟩) h1
    · rw [List.length_append, HM.out, HS.out]; exact hx3
    · rw [List.length_append, HM.out]; simp; omega
  case done =>
    rintro D ys W hD rfl ⟨⟨u, hbx, hrow, hpl⟩, hc, hB⟩ hK
    rw [List.length_finRange, placesF_all] at hrow
    obtain ⟨pu, cu, rfl⟩ := B.owns_form hrow
    have hcB := hbx.cell
    have HROW := Lib.hid hrow
    have HB := Lib.hid hB
    clear hbx hrow hpl hc hB HI0 hST hNT HK HZ
    gi_wp2
    refine ⟨by simp, .inl ⟨_, _, rfl, run_takeDeferred hK, ?_⟩⟩
    refine ⟨.tuple #[.slice pu l.length cu, .int .i64 0], by simp [results, Tryz.results125, go_sem], _, rfl, ownsRow_putObj HROW.out _ hK rfl, ?_⟩
    exact Below.trans (Below.trans HLL.out HB.out) (Below.grown (Below.refl _ _) (grownBy_putObj' W D (.deferred none)) (by have := HB.out.size; omega) (fun k e => by cases e; omega))
  case stop =>
    rintro D c pre W _ _ h _
    exact h.elim
end Go.Proofs.YtkjabiabeemfhaaGreatDoor
end
section
/- facts: Choice -/
namespace Go.Proofs.YtkjabiabeemfhaaGreatDoor
open Go.RowKit
set_option maxRecDepth 100000

theorem zero_choice (w : World) : (zeroValue 152).run Tryz.prog w = .ok (.agg #[.int .i64 0, .int .i64 0, .int .i64 0]) w := by kernel_rfl
set_option maxHeartbeats 1600000 in
theorem choice_any (p m1 m2 : Nat) (fx : List ((Int × Int) × (Int × Int))) (ch : List ((Int × Int) × Int)) (k d : Int) (w : World) (hF : FactsAt w p m1 m2 fx ch) (hk : I64 k) (hd : I64 d) :
    Calls Tryz.prog 25 #[.pointer (some ⟨p, 0, none⟩), .int .i64 k, .int .i64 d] w fun e w' =>
      e = .returned (.tuple #[.int .i64 ((getA ch (k, d)).getD 0), .bool (getA ch (k, d)).isSome]) ∧ Later w w' := by
  obtain ⟨lit, hlit⟩ := place_key (k, d) hk hd
  have HL := Lib.hid (fun W (hl : Later w W) => map_lookup place_law placeV_inj Tryz.underlying146 (hF.x2.later hl) (k, d) hlit (zero_choice W))
  have g0 := hF.c1
  have z0 := World.block_lt_of_cell? _ _ g0
  obtain ⟨g, hg⟩ : ∃ g, getA ch (k, d) = g := ⟨_, rfl⟩
  have hrun : ∃ a b, ∀ W, Later w W → (Instr.lookup 146 (.map (some m2)) (.agg #[.int .i64 k, .int .i64 d]) true).run Tryz.prog W = .ok (.tuple #[.agg #[.int .i64 a, .int .i64 b, .int .i64 (g.getD 0)], .bool g.isSome]) W := by
    cases hga : getA ch (k, d) with
    | none => rw [← hg, hga]; exact ⟨0, 0, fun W hl => by have := HL.out W hl; rw [hga] at this; exact this⟩
    | some v => rw [← hg, hga]; exact ⟨k, d, fun W hl => by have := HL.out W hl; rw [hga] at this; exact this⟩
  obtain ⟨a, b, hrun⟩ := hrun
  rw [hg]
  generalize g.getD 0 = g1 at hrun ⊢
  generalize g.isSome = g2 at hrun ⊢
  clear HL hF hk hd hlit hg
  have hrun1 := hrun _ (Later.refl _)
  go_enter Tryz.func25, Tryz.ntmps25
  go_wp2
  go_ret2
  exact ⟨rfl, by repeat (first | with_reducible exact Later.refl _ | with_reducible assumption | with_reducible refine Later.ofdrew ?_ | with_reducible refine Later.ofdrewN ?_ | with_reducible refine Later.setCell ?_ ?_ _ | with_reducible refine Later.alloc ?_ _ | with_reducible refine Later.drewN ?_ _ | with_reducible refine Later.drew ?_ | (with_reducible refine Later.trans ?_ (by assumption)) | (simp only [World.size_setCell, World.size_alloc, World.heap_drewN]; omega) | (simp; done) | (simp; omega))⟩
end Go.Proofs.YtkjabiabeemfhaaGreatDoor
end
section
/- denote: what a step ends with -/
namespace Go.Proofs.YtkjabiabeemfhaaGreatDoor
open Go.RowKit
set_option maxRecDepth 100000

/-- What a step ends with. -/
def OneEnd (r : St) (w0 : World) (b : Nat) (tv : Value) (tod : Int) (fp : Value) (H : List Hd) (F : List Fl) (W : List Wt) (e : Ending) (w' : World) : Prop :=
  e = .returned (.int .i64 r.1) ∧ ∃ rv' fv' wv', StudyAt w0.heap.size w' b tv tod fp rv' fv' wv' (H ++ r.2.1) (F ++ r.2.2.1) (W ++ r.2.2.2) ∧ Later w0 w'
theorem one_end {x r : St} {w0 : World} {b : Nat} {tv : Value} {tod : Int} {fp rv' fv' wv' : Value} {H H' : List Hd} {F F' : List Fl} {W W' : List Wt} {w' : World} (hs : StudyAt w0.heap.size w' b tv tod fp rv' fv' wv' H' F' W') (hr : x = r) (e1 : H' = H ++ r.2.1) (e2 : F' = F ++ r.2.2.1) (e3 : W' = W ++ r.2.2.2) (hl : Later w0 w') :
    OneEnd x w0 b tv tod fp H F W (.returned (.int .i64 r.1)) w' := by subst hr e1 e2 e3; exact ⟨rfl, _, _, _, hs, hl⟩
theorem step14 (env : Env) (tod a b' vn vd : Int) (l : List Tm) (k : Nat) (day n d : Int) : stepT env tod ⟨14, a, b', vn, vd⟩ l k day n d = (0, if day ≤ a then kidH l k 0 a n d else [], [], []) := by simp [stepT]
theorem places_at {pl : Nat} {l : List Tm} {m i : Nat} (hi : i < m) : ∃ h : i < (placesI pl l m ++ [0]).length, (placesI pl l m ++ [0])[i] = (placeN pl l i : Int) := by
  have h1 : (placesI pl l m).length = m := placesI_length pl l m
  refine ⟨by rw [List.length_append]; omega, ?_⟩
  rw [List.getElem_append_left (by omega)]
  simp [placesI]
theorem owns_mono {w : World} {base base' : Nat} {e : TypeId} {sz : Nat} {v : Value} {n : Nat} {xs : List Value} (hb : base ≤ base') (h : w.ownsRow base' e sz v n xs) : w.ownsRow base e sz v n xs :=
  ⟨h.1, h.2.imp id (fun ⟨g, cap, cur, h1, h2, h3⟩ => ⟨g, cap, cur, h1, Nat.le_trans hb h2, h3⟩)⟩
end Go.Proofs.YtkjabiabeemfhaaGreatDoor
end
