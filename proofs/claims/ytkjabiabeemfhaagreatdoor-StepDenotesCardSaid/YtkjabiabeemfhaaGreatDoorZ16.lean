/- value.Needs: its walk -/
import Derived.Test.YtkjabiabeemfhaaGreatDoorZ15
import Derived.Shelf.SlSortCmp.Insertion
import Derived.Test.YtkjabiabeemfhaaGreatDoorZ13
import Derived.Test.YtkjabiabeemfhaaGreatDoorZ14
import Derived.ArgAppend
set_option linter.all false
set_option linter.all false
section
namespace Go.Proofs.YtkjabiabeemfhaaGreatDoor
open Go.RowKit Go.Sort
def ltF (x y : Fl) : Prop := x.day < y.day ∨ x.day = y.day ∧ (x.cur < y.cur ∨ x.cur = y.cur ∧ x.amt < y.amt)
def ltW (x y : Wt) : Prop := x.day < y.day ∨ x.day = y.day ∧ (bI x.cho < bI y.cho ∨ bI x.cho = bI y.cho ∧ x.key < y.key)
theorem first3 (a b c a' b' c' : Int) : (firstNz [Lib.compareInt a a', Lib.compareInt b b', Lib.compareInt c c'] < 0) ↔ (a < a' ∨ a = a' ∧ (b < b' ∨ b = b' ∧ c < c')) := by
 unfold firstNz firstNz firstNz firstNz Lib.compareInt
 repeat' split
 all_goals (first | omega | (simp_all <;> omega))
theorem ltF_iff (x y : Fl) : ltOf ordF x y = true ↔ ltF x y := by unfold ltOf ordF ltF; rw [decide_eq_true_iff]; exact first3 _ _ _ _ _ _
theorem ltW_iff (x y : Wt) : ltOf ordW x y = true ↔ ltW x y := by unfold ltOf ordW ltW; rw [decide_eq_true_iff]; exact first3 _ _ _ _ _ _
theorem bI_inj {a b : Bool} (h : bI a = bI b) : a = b := by cases a <;> cases b <;> first | rfl | (exact absurd h (by decide))
theorem not_lt {α : Type} {lt : α → α → Bool} {R : α → α → Prop} (h : ∀ x y, lt x y = true ↔ R x y) {x y : α} : lt x y = false ↔ ¬ R x y := by rw [← h]; simp
theorem swoF : SWO (ltOf ordF) where
 irrefl x := by rw [not_lt ltF_iff]; unfold ltF; omega
 trans x y z h1 h2 := by rw [ltF_iff] at *; unfold ltF at *; omega
 ntrans x y z h1 h2 := by rw [not_lt ltF_iff] at *; unfold ltF at *; omega
theorem swoW : SWO (ltOf ordW) where
 irrefl x := by rw [not_lt ltW_iff]; unfold ltW; omega
 trans x y z h1 h2 := by rw [ltW_iff] at *; unfold ltW at *; omega
 ntrans x y z h1 h2 := by rw [not_lt ltW_iff] at *; unfold ltW at *; omega
theorem totF (x y : Fl) (h1 : ltOf ordF x y = false) (h2 : ltOf ordF y x = false) : x = y := by
 rw [not_lt ltF_iff] at *
 unfold ltF at *
 obtain ⟨a, b, c⟩ := x
 obtain ⟨d, e, f⟩ := y
 simp only at *
 have : a = d := by omega
 have : b = e := by omega
 have : c = f := by omega
 simp only [*]
theorem totW (x y : Wt) (h1 : ltOf ordW x y = false) (h2 : ltOf ordW y x = false) : x = y := by
 rw [not_lt ltW_iff] at *
 unfold ltW at *
 obtain ⟨a, b, c⟩ := x
 obtain ⟨d, e, f⟩ := y
 simp only at *
 have : c = f := by omega
 have : bI a = bI d := by omega
 have := bI_inj this
 have : b = e := by omega
 simp only [*]
theorem wtCs_len (x : Wt) : (wtCs x).length = 3 := rfl
theorem wtCs_one (x : Wt) : ∀ u ∈ wtCs x, u.oneCell' = true := by
 intro u hu
 simp only [wtCs, List.mem_cons, List.not_mem_nil, or_false] at hu
 rcases hu with rfl | rfl | rfl <;> rfl
def sortL {α : Type} (cf : α → α → Int) (l : List α) : List α := l.mergeSort (fun x y => !(ltOf cf) y x)
theorem sortL_perm {α : Type} (cf : α → α → Int) (l : List α) : (sortL cf l).Perm l := List.mergeSort_perm _ _
theorem sortL_sorted {α : Type} {cf : α → α → Int} (hO : SWO (ltOf cf)) (hT : ∀ x y, (ltOf cf) x y = false → (ltOf cf) y x = false → x = y) (l : List α) : (sortL cf l).Pairwise (fun x y => ltOf cf y x = false) := by
 have h := List.pairwise_mergeSort (le := fun x y => !(ltOf cf) y x) (fun a b c h1 h2 => by simp at *; exact hO.ntrans c b a h2 h1) (fun a b => by
  cases h1 : ltOf cf b a with
  | false => rfl
  | true =>
   cases h2 : ltOf cf a b with
   | false => rfl
   | true => have := hO.trans a b a h2 h1; rw [hO.irrefl] at this; cases this) l
 exact h.imp (fun h => by simpa using h)
theorem order_unique {α : Type} {cf : α → α → Int} (hT : ∀ x y, (ltOf cf) x y = false → (ltOf cf) y x = false → x = y) {l m : List α} (h : l.Perm m) (hl : l.Pairwise (fun x y => ltOf cf y x = false)) (hm : m.Pairwise (fun x y => ltOf cf y x = false)) : l = m :=
 List.Perm.eq_of_pairwise (fun a b _ _ h1 h2 => hT a b h2 h1) hl hm h
end Go.Proofs.YtkjabiabeemfhaaGreatDoor
end
section
namespace Go.Proofs.YtkjabiabeemfhaaGreatDoor
open Go.RowKit
set_option maxRecDepth 100000
def hdCs (h : Hd) : List Value := [.int .i64 h.pl, .int .i64 h.day, .int .i64 h.n, .int .i64 h.d]
theorem hdCs_len (h : Hd) : (hdCs h).length = 4 := rfl
theorem hdInfo : (Tryz.prog.info? 185).map (fun i => (i.zero, i.size, i.bytes)) = some (some (.agg #[.int .i64 0, .int .i64 0, .int .i64 0, .int .i64 0]), 4, 32) := by kernel_rfl
theorem sliceHold : SliceOf Tryz.prog 103 185 4 32 := sliceOf_mk Tryz.underlying103 hdInfo rfl (by decide)
theorem wtInfo : (Tryz.prog.info? 46).map (fun i => (i.zero, i.size, i.bytes)) = some (some (.agg #[.bool false, .int .i64 0, .int .i64 0]), 3, 24) := by kernel_rfl
theorem sliceWait : SliceOf Tryz.prog 34 46 3 24 := sliceOf_mk Tryz.underlying34 wtInfo rfl (by decide)
structure StudyAt (lo : Nat) (w : World) (b : Nat) (tv : Value) (tod : Int) (fp rv fv wv : Value) (H : List Hd) (F : List Fl) (W : List Wt) : Prop where
 own : Own w [(b, #[tv, .int .i64 tod, fp, rv, fv, wv])]
 lob : lo ≤ b
 rest : B.Que lo 4 w rv H.length (H.flatMap hdCs)
 flows : B.Que lo 3 w fv F.length (F.flatMap flCs)
 waits : B.Que lo 3 w wv W.length (W.flatMap wtCs)
 rb : rv.ownBlock ≠ some b
 fb : fv.ownBlock ≠ some b
 wb : wv.ownBlock ≠ some b
 rf : B.Apart rv fv
 rw : B.Apart rv wv
 fw : B.Apart fv wv
section
variable {lo : Nat} {w w' : World} {b : Nat} {tv : Value} {tod : Int} {fp rv fv wv : Value} {H : List Hd} {F : List Fl} {W : List Wt}
theorem StudyAt.later (h : StudyAt lo w b tv tod fp rv fv wv H F W) (hb : Later w w') : StudyAt lo w' b tv tod fp rv fv wv H F W :=
 ⟨h.own.later hb, h.lob, h.rest.later hb, h.flows.later hb, h.waits.later hb, h.rb, h.fb, h.wb, h.rf, h.rw, h.fw⟩
theorem lat_base {Z : Nat → Prop} {w0 : World} (h : S.LatB Z w w') (hl : Later w0 w) (hZ : ∀ k, Z k → w0.heap.size ≤ k) : Later w0 w' :=
 ⟨h.os.trans hl.os, h.tape.trans hl.tape, h.output.trans hl.output, Nat.le_trans hl.size h.size, fun k hk => (h.block k (Nat.lt_of_lt_of_le hk hl.size) (fun e => Nat.lt_irrefl _ (Nat.lt_of_lt_of_le hk (hZ k e)))).trans (hl.block k hk)⟩
theorem lat_step {Z Z' : Nat → Prop} {a : World} (h : S.LatB Z a w) (hZ : ∀ k, Z' k → Z k ∨ a.heap.size ≤ k) (k : S.LatB Z' w w') : S.LatB Z a w' :=
 ⟨k.os.trans h.os, k.tape.trans h.tape, k.output.trans h.output, Nat.le_trans h.size k.size, fun i hi hs => (k.block i (Nat.lt_of_lt_of_le hi h.size) (fun e => (hZ i e).elim hs (fun h => by omega))).trans (h.block i hi hs)⟩
theorem StudyAt.put_rest {w1 w9 : World} {v9 : Value} {L' : List Hd} (hst : StudyAt lo w b tv tod fp rv fv wv H F W) (hl : Later w w1) (hg : w1.grownBy w9 rv.ownBlock) (h3 : v9.ownBlock = rv.ownBlock ∨ ∀ k, v9.ownBlock = some k → w.heap.size ≤ k) (hq : B.Que lo 4 w9 v9 L'.length (L'.flatMap hdCs)) :
  StudyAt lo (w9.setCell ⟨b, 3, none⟩ v9) b tv tod fp v9 fv wv L' F W ∧ S.LatB (fun k => k = b ∨ rv.ownBlock = some k) w (w9.setCell ⟨b, 3, none⟩ v9) := by
 have hz := hst.own.1.1
 have hnb : v9.ownBlock ≠ some b := by
  rcases h3 with h3 | h3
  ·rw [h3]; exact hst.rb
  ·intro e; have := h3 b e; omega
 have hown : Own w9 [(b, #[tv, .int .i64 tod, fp, rv, fv, wv])] := B.own_grown (hst.own.later hl) hg (fun z hz => by
  simp only [List.mem_cons, List.not_mem_nil, or_false] at hz
  subst hz
  exact hst.rb)
 have qflows := ((hst.flows.later hl).beside hg (fun k hk e => hst.rf k e hk)).set (k := b) (i := 3) hst.fb v9
 have qwaits := ((hst.waits.later hl).beside hg (fun k hk e => hst.rw k e hk)).set (k := b) (i := 3) hst.wb v9
 exact ⟨⟨B.own_at hown (by simp) v9, hst.lob, hq.set hnb v9, qflows, qwaits, hnb, hst.fb, hst.wb, (B.Que.apart hst.rf hst.flows h3), (B.Que.apart hst.rw hst.waits h3), hst.fw⟩,
  ((S.LatB.of hl).grown hg (fun k hk => .inr hk)).setCell (.inl (.inl rfl)) v9⟩
theorem StudyAt.put_flows {w1 w9 : World} {v9 : Value} {L' : List Fl} (hst : StudyAt lo w b tv tod fp rv fv wv H F W) (hl : Later w w1) (hg : w1.grownBy w9 fv.ownBlock) (h3 : v9.ownBlock = fv.ownBlock ∨ ∀ k, v9.ownBlock = some k → w.heap.size ≤ k) (hq : B.Que lo 3 w9 v9 L'.length (L'.flatMap flCs)) :
  StudyAt lo (w9.setCell ⟨b, 4, none⟩ v9) b tv tod fp rv v9 wv H L' W ∧ S.LatB (fun k => k = b ∨ fv.ownBlock = some k) w (w9.setCell ⟨b, 4, none⟩ v9) := by
 have hz := hst.own.1.1
 have hnb : v9.ownBlock ≠ some b := by
  rcases h3 with h3 | h3
  ·rw [h3]; exact hst.fb
  ·intro e; have := h3 b e; omega
 have hown : Own w9 [(b, #[tv, .int .i64 tod, fp, rv, fv, wv])] := B.own_grown (hst.own.later hl) hg (fun z hz => by
  simp only [List.mem_cons, List.not_mem_nil, or_false] at hz
  subst hz
  exact hst.fb)
 have qrest := ((hst.rest.later hl).beside hg (fun k hk e => hst.rf.symm k e hk)).set (k := b) (i := 4) hst.rb v9
 have qwaits := ((hst.waits.later hl).beside hg (fun k hk e => hst.fw k e hk)).set (k := b) (i := 4) hst.wb v9
 exact ⟨⟨B.own_at hown (by simp) v9, hst.lob, qrest, hq.set hnb v9, qwaits, hst.rb, hnb, hst.wb, (B.Que.apart hst.rf.symm hst.rest h3).symm, hst.rw, (B.Que.apart hst.fw hst.waits h3)⟩,
  ((S.LatB.of hl).grown hg (fun k hk => .inr hk)).setCell (.inl (.inl rfl)) v9⟩
theorem StudyAt.put_waits {w1 w9 : World} {v9 : Value} {L' : List Wt} (hst : StudyAt lo w b tv tod fp rv fv wv H F W) (hl : Later w w1) (hg : w1.grownBy w9 wv.ownBlock) (h3 : v9.ownBlock = wv.ownBlock ∨ ∀ k, v9.ownBlock = some k → w.heap.size ≤ k) (hq : B.Que lo 3 w9 v9 L'.length (L'.flatMap wtCs)) :
  StudyAt lo (w9.setCell ⟨b, 5, none⟩ v9) b tv tod fp rv fv v9 H F L' ∧ S.LatB (fun k => k = b ∨ wv.ownBlock = some k) w (w9.setCell ⟨b, 5, none⟩ v9) := by
 have hz := hst.own.1.1
 have hnb : v9.ownBlock ≠ some b := by
  rcases h3 with h3 | h3
  ·rw [h3]; exact hst.wb
  ·intro e; have := h3 b e; omega
 have hown : Own w9 [(b, #[tv, .int .i64 tod, fp, rv, fv, wv])] := B.own_grown (hst.own.later hl) hg (fun z hz => by
  simp only [List.mem_cons, List.not_mem_nil, or_false] at hz
  subst hz
  exact hst.wb)
 have qrest := ((hst.rest.later hl).beside hg (fun k hk e => hst.rw.symm k e hk)).set (k := b) (i := 5) hst.rb v9
 have qflows := ((hst.flows.later hl).beside hg (fun k hk e => hst.fw.symm k e hk)).set (k := b) (i := 5) hst.fb v9
 exact ⟨⟨B.own_at hown (by simp) v9, hst.lob, qrest, qflows, hq.set hnb v9, hst.rb, hst.fb, hnb, hst.rf, (B.Que.apart hst.rw.symm hst.rest h3).symm, (B.Que.apart hst.fw.symm hst.flows h3).symm⟩,
  ((S.LatB.of hl).grown hg (fun k hk => .inr hk)).setCell (.inl (.inl rfl)) v9⟩
theorem sliced_cut (p : Addr) (n cap : Nat) (h : 1 ≤ cap) : sliced (some p) 1 n cap 4 = .slice (some (if cap - 1 = 0 then p else p.add (1 * 4))) (n - 1) (cap - 1) := by
 unfold sliced
 by_cases hc : cap = 1
 ·subst hc; simp
 ·rw [if_neg hc, if_neg (by omega)]; rfl
theorem add_block (p : Addr) (k : Nat) : (p.add k).block = p.block := by unfold Addr.add; split <;> rfl
theorem que_pop {w : World} {lo : Nat} {p : Addr} {n cap : Nat} {h : Hd} {r : List Hd} (hq : B.Que lo 4 w (.slice (some p) n cap) n ((h :: r).flatMap hdCs)) (hn : n = r.length + 1) :
  1 ≤ cap ∧ n ≤ cap ∧ B.Que lo 4 w (sliced (some p) 1 n cap 4) r.length (r.flatMap hdCs) ∧ (sliced (some p) 1 n cap 4).ownBlock = some p.block := by
 have hcap : n ≤ cap := by
  rcases hq.2 with ⟨h1, _⟩ | ⟨g, o, c, h1, _, _, h4, _⟩
  ·cases h1
  ·cases h1; exact h4
 have h1 : 1 ≤ cap := by omega
 have hc := hq.cut (k := 1) (by omega)
 refine ⟨h1, hcap, ?_, ?_⟩
 ·rw [sliced_cut p n cap h1]
  have e1 : ((h :: r).flatMap hdCs).drop (1 * 4) = r.flatMap hdCs := by rw [List.flatMap_cons]; rfl
  have e2 : n - 1 = r.length := by omega
  rw [e1, e2] at hc
  rw [e2]
  exact hc
 ·rw [sliced_cut p n cap h1]
  simp only [Value.ownBlock]
  split
  ·rfl
  ·rw [add_block]
theorem StudyAt.cut {p : Addr} {n cap : Nat} {h : Hd} {r : List Hd} {w1 : World} (hst : StudyAt lo w b tv tod fp (.slice (some p) n cap) fv wv (h :: r) F W) (hn : n = r.length + 1) (hl : Later w w1) :
  StudyAt lo (w1.setCell ⟨b, 3, none⟩ (sliced (some p) 1 n cap 4)) b tv tod fp (sliced (some p) 1 n cap 4) fv wv r F W ∧ S.LatB (fun k => k = b) w (w1.setCell ⟨b, 3, none⟩ (sliced (some p) 1 n cap 4)) := by
 have hq := hst.rest
 rw [show (h :: r).length = n from by rw [hn]; rfl] at hq
 obtain ⟨-, -, h3, h4⟩ := que_pop hq hn
 have hb : (Value.slice (some p) n cap).ownBlock = some p.block := rfl
 have hnb : (sliced (some p) 1 n cap 4).ownBlock ≠ some b := by rw [h4, ← hb]; exact hst.rb
 have hs := hst.later hl
 have hap : ∀ {u : Value}, B.Apart (.slice (some p) n cap) u → B.Apart (sliced (some p) 1 n cap 4) u := fun ha k hk => ha k (by rw [hb, ← h4]; exact hk)
 exact ⟨⟨B.own_at hs.own (by simp) _, hst.lob, (h3.later hl).set hnb _, hs.flows.set hst.fb _, hs.waits.set hst.wb _, hnb, hst.fb, hst.wb, hap hst.rf, hap hst.rw, hst.fw⟩, S.LatB.setCell (S := fun k => k = b) (S.LatB.of hl) (.inl rfl) _⟩
end
namespace B
theorem news_at {w : World} {ta : TypeId} (news : Array Value) : ∀ j u, news.toList[j]? = some u → (w.alloc (.cells news ta)).drew.cell? ((⟨w.heap.size, 0, none⟩ : Addr).add j) = some u := by
 intro j u hj
 have hc := (own_get (own_alloc w news ta)).2.1 j
 rw [add_plain, Nat.zero_add]
 rw [← Array.getElem?_toList] at hc
 exact hc.trans hj
theorem wpList_quePushD {P : Program} {w : World} {e sz base : Nat} {v : Value} {n : Nat} {xs : List Value} {ops : Array Oper} {rest : List Oper} {o : Oper} {a : Act} {Q : Exit → Act → World → Prop} {t bytes : Nat} {ta : TypeId} (news : Array Value) (T : SliceOf P t e sz bytes) (hM : Que base sz w v n xs) (hbase : base ≤ w.heap.size) (hgd : o.guard = none) (s x : Operand)
  (ho : o.op = .call { callee := .builtin .append, args := #[s, x], argTypes := #[t, t] }) (hs : a.eval s = v) (c b : Nat) (hx : a.eval x = .slice (some ⟨b, 0, none⟩) 1 c) (hb : b = w.heap.size) (hl : news.size = sz) (h1 : ∀ u ∈ news.toList, u.oneCell' = true)
  (h63 : (n + 1) * bytes ≤ 140737488355328) (h64 : n + 1 ≤ maxLen)
  (h : ∀ v' w', Que base sz w' v' (n + 1) (xs ++ news.toList) → (w.alloc (.cells news ta)).drew.grownBy w' v.ownBlock → (v'.ownBlock = v.ownBlock ∨ ∀ k, v'.ownBlock = some k → w.heap.size ≤ k) → wpList P ops Q rest (a.put o.dst v') w') : wpList P ops Q (o :: rest) a (w.alloc (.cells news ta)).drew := by
 subst hb
 refine wpList_que T (hM.later (((Later.refl _).alloc _).drew)) ?_ hgd s x ho hs ⟨w.heap.size, 0, Option.none⟩ 1 c news.toList hx (by rw [Nat.one_mul, Array.length_toList, hl]) (news_at news) h1 h63 h64 (fun v' w' a b c => h v' w' a b (c.imp id (fun h k hk => ?_)))
 ·exact Nat.le_trans hbase (((Later.refl w).alloc _).drew).size
 ·exact Nat.le_trans (((Later.refl w).alloc _).drew).size (h k hk)
end B
set_option maxHeartbeats 1600000 in
theorem sput_any (lo : Nat) (w : World) (b : Nat) (tv : Value) (tod : Int) (fp rv fv wv : Value) (H : List Hd) (F : List Fl) (W : List Wt) (h : Hd) (hlo : lo ≤ w.heap.size) (hlen : H.length ≤ 1000000) (hst : StudyAt lo w b tv tod fp rv fv wv H F W) :
  Calls Tryz.prog 92 #[.pointer (some ⟨b, 0, none⟩), .int .i64 h.pl, .int .i64 h.day, .agg #[.int .i64 h.n, .int .i64 h.d]] w fun e w' =>
   e = .returned (.tuple #[]) ∧ ∃ rv', StudyAt lo w' b tv tod fp rv' fv wv (H ++ [h]) F W ∧ S.LatB (fun k => k = b ∨ rv.ownBlock = some k) w w' ∧ (rv'.ownBlock = rv.ownBlock ∨ ∀ k, rv'.ownBlock = some k → w.heap.size ≤ k) := by
 obtain ⟨T, pl, day, n, d⟩ := h
 show Calls _ _ #[_, .int .i64 pl, .int .i64 day, .agg #[.int .i64 n, .int .i64 d]] _ _
 obtain ⟨K, hK⟩ : ∃ K, H.length = K := ⟨_, rfl⟩
 obtain ⟨rp, rc, hr⟩ := hst.rest.form
 have HST := Lib.hid hst
 rw [hK] at hr hlen
 have HK := Lib.hid hK
 have hrb := hst.rb
 obtain ⟨⟨z, c, f⟩, -⟩ := id hst.own
 clear hst hK
 subst hr
 have c3 : w.cell? ⟨b, 3, none⟩ = some (.slice rp K rc) := c 3
 have f3 : w.frozen? ⟨b, 3, none⟩ = false := f 3 (by simp)
 clear c f
 go_enter Tryz.func92, Tryz.ntmps92
 go_upto_region 1 with (fail)
 refine wp_opaque (fun W1 hb1 => ?_)
 have hO1 := Own.one hb1
 have hw1 := hb1.un1
 clear hb1
 obtain ⟨⟨z7, c7, f7⟩, -⟩ := id hO1
 have hz1 := hw1.size
 replace c3 := ((bcell hw1).1 _ 3 z).trans c3
 replace f3 := ((bcell hw1).2 _ 3 z).trans f3
 have HS1 := Lib.hid (HST.out.later hw1)
 have hne : ¬ (Value.slice rp K rc).ownBlock = some w.heap.size := fun e => by have := HST.out.rest.lo _ e; omega
 have hzb : b < W1.heap.size := Nat.lt_of_lt_of_le z hz1
 have HL : Hid (H.length = K ∧ K ≤ 1000000) := Lib.hid ⟨HK.out, hlen⟩
 have HF : Hid (∀ z ∈ [(b, (#[tv, .int .i64 tod, fp, .slice rp K rc, fv, wv] : Array Value))], (Value.slice rp K rc).ownBlock ≠ some z.1) := Lib.hid (fun z hz => by
  simp only [List.mem_cons, List.not_mem_nil, or_false] at hz
  subst hz
  exact hrb)
 have HX := HST
 clear HST HK hO1
 refine S.wp_region_plan (S := (fun k => (Value.slice rp K rc).ownBlock = some k)) 13 (.two [0, 1, 5, 6, 7, 8] 2 (.one [3, 4] 9 (.one [] 10 (.one [] 11 (.one [12] 13 (.done []))))) 9 (.one [] 2 (.one [3, 4] 10 (.one [] 11 (.one [12] 13 (.done [])))))) (by kernel_rfl) (by kernel_rfl) (fun _ _ d _ _ h => by cases d <;> exact h) ?_
 repeat' (first
  | ((first | refine S.plan_done (fun K hK => ?_) | refine S.plan_one (by rfl) (fun K hK => ?_)); (first | (simp only [zq9]; repeat (go_big_quiet_step (fail))) | simp only [pick_nil]); refine wpQuiet_nil (hK _ ?_); clear hK K)
  | (refine S.plan_two (by rfl) (by rfl) (fun K hK => ?_); (first | (simp only [zq9]; repeat (go_big_quiet_step (fail))) | simp only [pick_nil]); refine wpQuiet_nil (hK _ ?_); clear hK K; refine ⟨?_, ?_⟩)
  | ((with_reducible refine at_list ?_); (try simp only [List.getElem_toArray, List.getElem_cons_succ, List.getElem_cons_zero]); go_wp2_with ((at_builtin; go_must (refine B.wpList_quePushD (base := lo) (n := K) (xs := H.flatMap hdCs) #[.int .i64 pl, .int .i64 day, .int .i64 n, .int .i64 d] sliceHold (HL.out.1 ▸ HS1.out.rest) (Nat.le_trans hlo hz1) rfl _ _ rfl rfl 1 W1.heap.size rfl rfl rfl (by simp [Value.oneCell']) (by have := HL.out; omega) (by have := HL.out; unfold maxLen; omega) ?_; intro v9 w9 h1 h2 h3; obtain ⟨p8, c8, rfl⟩ := B.Que.form h1; have hS9 := S.LatB.grown (S := fun k => (Value.slice rp K rc).ownBlock = some k) (S.LatB.refl _) h2 (fun k hk => hk); have hO9 := B.own_grown (HS1.out.own.later (((Later.refl _).alloc _).drew)) h2 HF.out; have hc9 : w9.cell? ⟨b, 3, none⟩ = some (.slice rp K rc) := hO9.1.2.1 3; have hf9 : w9.frozen? ⟨b, 3, none⟩ = false := hO9.1.2.2 3 (by simp); have HO9 := Lib.hid hO9; clear hO9))); first | refine S.behind_store (t := 13) (by decide) ?_ | refine S.behind (by repeat (first | with_reducible exact S.LatB.refl _ | with_reducible assumption | with_reducible refine S.LatB.ofdrew ?_ | with_reducible refine S.LatB.drew ?_ | with_reducible refine S.LatB.alloc ?_ _ | (with_reducible refine S.LatB.of ?_))) ?_))
 all_goals
  go_wp2
  go_end0
  refine ⟨rfl, .slice p8 (K + 1) c8, ?_⟩
  have hx := HX.out.put_rest ((hw1.alloc _).drew) h2 (L' := H ++ [⟨T, pl, day, n, d⟩]) (h3.imp id (fun h k hk => Nat.le_trans hz1 (h k hk))) (by rw [List.flatMap_append, List.length_append, HL.out.1]; exact h1)
  exact ⟨hx.1, hx.2, h3.imp id (fun h k hk => Nat.le_trans hz1 (h k hk))⟩
end Go.Proofs.YtkjabiabeemfhaaGreatDoor
end
section
namespace Go.Proofs.YtkjabiabeemfhaaGreatDoor
open Go.RowKit
set_option maxRecDepth 100000
structure TurnAt (lo : Nat) (w : World) (b : Nat) (tv : Value) (tod : Int) (fp nv kv fv wv : Value) (H K : List Hd) (F : List Fl) (W : List Wt) : Prop where
 own : Own w [(b, #[nv, kv, fv, wv, tv, .int .i64 tod, fp])]
 lob : lo ≤ b
 next : B.Que lo 4 w nv H.length (H.flatMap hdCs)
 kept : B.Que lo 4 w kv K.length (K.flatMap hdCs)
 flows : B.Que lo 3 w fv F.length (F.flatMap flCs)
 waits : B.Que lo 3 w wv W.length (W.flatMap wtCs)
 nvb : nv.ownBlock ≠ some b
 kvb : kv.ownBlock ≠ some b
 fvb : fv.ownBlock ≠ some b
 wvb : wv.ownBlock ≠ some b
 nk : B.Apart nv kv
 nf : B.Apart nv fv
 nw : B.Apart nv wv
 kf : B.Apart kv fv
 kw : B.Apart kv wv
 fw : B.Apart fv wv
section
variable {lo : Nat} {w w' : World} {b : Nat} {tv : Value} {tod : Int} {fp nv kv fv wv : Value} {H K : List Hd} {F : List Fl} {W : List Wt}
theorem TurnAt.later (h : TurnAt lo w b tv tod fp nv kv fv wv H K F W) (hb : Later w w') : TurnAt lo w' b tv tod fp nv kv fv wv H K F W :=
 ⟨h.own.later hb, h.lob, h.next.later hb, h.kept.later hb, h.flows.later hb, h.waits.later hb, h.nvb, h.kvb, h.fvb, h.wvb, h.nk, h.nf, h.nw, h.kf, h.kw, h.fw⟩
theorem TurnAt.put_next {w1 w9 : World} {v9 : Value} {L' : List Hd} (hst : TurnAt lo w b tv tod fp nv kv fv wv H K F W) (hl : Later w w1) (hg : w1.grownBy w9 nv.ownBlock) (h3 : v9.ownBlock = nv.ownBlock ∨ ∀ k, v9.ownBlock = some k → w.heap.size ≤ k) (hq : B.Que lo 4 w9 v9 L'.length (L'.flatMap hdCs)) :
  TurnAt lo (w9.setCell ⟨b, 0, none⟩ v9) b tv tod fp v9 kv fv wv L' K F W ∧ S.LatB (fun k => k = b ∨ nv.ownBlock = some k) w (w9.setCell ⟨b, 0, none⟩ v9) := by
 have hz := hst.own.1.1
 have hnb : v9.ownBlock ≠ some b := by
  rcases h3 with h3 | h3
  ·rw [h3]; exact hst.nvb
  ·intro e; have := h3 b e; omega
 have hown : Own w9 [(b, #[nv, kv, fv, wv, tv, .int .i64 tod, fp])] := B.own_grown (hst.own.later hl) hg (fun z hz => by
  simp only [List.mem_cons, List.not_mem_nil, or_false] at hz
  subst hz
  exact hst.nvb)
 have qkept := ((hst.kept.later hl).beside hg (fun k hk e => hst.nk k e hk)).set (k := b) (i := 0) hst.kvb v9
 have qflows := ((hst.flows.later hl).beside hg (fun k hk e => hst.nf k e hk)).set (k := b) (i := 0) hst.fvb v9
 have qwaits := ((hst.waits.later hl).beside hg (fun k hk e => hst.nw k e hk)).set (k := b) (i := 0) hst.wvb v9
 exact ⟨⟨B.own_at hown (by simp) v9, hst.lob, hq.set hnb v9, qkept, qflows, qwaits, hnb, hst.kvb, hst.fvb, hst.wvb, (B.Que.apart hst.nk hst.kept h3), (B.Que.apart hst.nf hst.flows h3), (B.Que.apart hst.nw hst.waits h3), hst.kf, hst.kw, hst.fw⟩,
  ((S.LatB.of hl).grown hg (fun k hk => .inr hk)).setCell (.inl (.inl rfl)) v9⟩
theorem TurnAt.put_kept {w1 w9 : World} {v9 : Value} {L' : List Hd} (hst : TurnAt lo w b tv tod fp nv kv fv wv H K F W) (hl : Later w w1) (hg : w1.grownBy w9 kv.ownBlock) (h3 : v9.ownBlock = kv.ownBlock ∨ ∀ k, v9.ownBlock = some k → w.heap.size ≤ k) (hq : B.Que lo 4 w9 v9 L'.length (L'.flatMap hdCs)) :
  TurnAt lo (w9.setCell ⟨b, 1, none⟩ v9) b tv tod fp nv v9 fv wv H L' F W ∧ S.LatB (fun k => k = b ∨ kv.ownBlock = some k) w (w9.setCell ⟨b, 1, none⟩ v9) := by
 have hz := hst.own.1.1
 have hnb : v9.ownBlock ≠ some b := by
  rcases h3 with h3 | h3
  ·rw [h3]; exact hst.kvb
  ·intro e; have := h3 b e; omega
 have hown : Own w9 [(b, #[nv, kv, fv, wv, tv, .int .i64 tod, fp])] := B.own_grown (hst.own.later hl) hg (fun z hz => by
  simp only [List.mem_cons, List.not_mem_nil, or_false] at hz
  subst hz
  exact hst.kvb)
 have qnext := ((hst.next.later hl).beside hg (fun k hk e => hst.nk.symm k e hk)).set (k := b) (i := 1) hst.nvb v9
 have qflows := ((hst.flows.later hl).beside hg (fun k hk e => hst.kf k e hk)).set (k := b) (i := 1) hst.fvb v9
 have qwaits := ((hst.waits.later hl).beside hg (fun k hk e => hst.kw k e hk)).set (k := b) (i := 1) hst.wvb v9
 exact ⟨⟨B.own_at hown (by simp) v9, hst.lob, qnext, hq.set hnb v9, qflows, qwaits, hst.nvb, hnb, hst.fvb, hst.wvb, (B.Que.apart hst.nk.symm hst.next h3).symm, hst.nf, hst.nw, (B.Que.apart hst.kf hst.flows h3), (B.Que.apart hst.kw hst.waits h3), hst.fw⟩,
  ((S.LatB.of hl).grown hg (fun k hk => .inr hk)).setCell (.inl (.inl rfl)) v9⟩
theorem TurnAt.put_flows {w1 w9 : World} {v9 : Value} {L' : List Fl} (hst : TurnAt lo w b tv tod fp nv kv fv wv H K F W) (hl : Later w w1) (hg : w1.grownBy w9 fv.ownBlock) (h3 : v9.ownBlock = fv.ownBlock ∨ ∀ k, v9.ownBlock = some k → w.heap.size ≤ k) (hq : B.Que lo 3 w9 v9 L'.length (L'.flatMap flCs)) :
  TurnAt lo (w9.setCell ⟨b, 2, none⟩ v9) b tv tod fp nv kv v9 wv H K L' W ∧ S.LatB (fun k => k = b ∨ fv.ownBlock = some k) w (w9.setCell ⟨b, 2, none⟩ v9) := by
 have hz := hst.own.1.1
 have hnb : v9.ownBlock ≠ some b := by
  rcases h3 with h3 | h3
  ·rw [h3]; exact hst.fvb
  ·intro e; have := h3 b e; omega
 have hown : Own w9 [(b, #[nv, kv, fv, wv, tv, .int .i64 tod, fp])] := B.own_grown (hst.own.later hl) hg (fun z hz => by
  simp only [List.mem_cons, List.not_mem_nil, or_false] at hz
  subst hz
  exact hst.fvb)
 have qnext := ((hst.next.later hl).beside hg (fun k hk e => hst.nf.symm k e hk)).set (k := b) (i := 2) hst.nvb v9
 have qkept := ((hst.kept.later hl).beside hg (fun k hk e => hst.kf.symm k e hk)).set (k := b) (i := 2) hst.kvb v9
 have qwaits := ((hst.waits.later hl).beside hg (fun k hk e => hst.fw k e hk)).set (k := b) (i := 2) hst.wvb v9
 exact ⟨⟨B.own_at hown (by simp) v9, hst.lob, qnext, qkept, hq.set hnb v9, qwaits, hst.nvb, hst.kvb, hnb, hst.wvb, hst.nk, (B.Que.apart hst.nf.symm hst.next h3).symm, hst.nw, (B.Que.apart hst.kf.symm hst.kept h3).symm, hst.kw, (B.Que.apart hst.fw hst.waits h3)⟩,
  ((S.LatB.of hl).grown hg (fun k hk => .inr hk)).setCell (.inl (.inl rfl)) v9⟩
theorem TurnAt.put_waits {w1 w9 : World} {v9 : Value} {L' : List Wt} (hst : TurnAt lo w b tv tod fp nv kv fv wv H K F W) (hl : Later w w1) (hg : w1.grownBy w9 wv.ownBlock) (h3 : v9.ownBlock = wv.ownBlock ∨ ∀ k, v9.ownBlock = some k → w.heap.size ≤ k) (hq : B.Que lo 3 w9 v9 L'.length (L'.flatMap wtCs)) :
  TurnAt lo (w9.setCell ⟨b, 3, none⟩ v9) b tv tod fp nv kv fv v9 H K F L' ∧ S.LatB (fun k => k = b ∨ wv.ownBlock = some k) w (w9.setCell ⟨b, 3, none⟩ v9) := by
 have hz := hst.own.1.1
 have hnb : v9.ownBlock ≠ some b := by
  rcases h3 with h3 | h3
  ·rw [h3]; exact hst.wvb
  ·intro e; have := h3 b e; omega
 have hown : Own w9 [(b, #[nv, kv, fv, wv, tv, .int .i64 tod, fp])] := B.own_grown (hst.own.later hl) hg (fun z hz => by
  simp only [List.mem_cons, List.not_mem_nil, or_false] at hz
  subst hz
  exact hst.wvb)
 have qnext := ((hst.next.later hl).beside hg (fun k hk e => hst.nw.symm k e hk)).set (k := b) (i := 3) hst.nvb v9
 have qkept := ((hst.kept.later hl).beside hg (fun k hk e => hst.kw.symm k e hk)).set (k := b) (i := 3) hst.kvb v9
 have qflows := ((hst.flows.later hl).beside hg (fun k hk e => hst.fw.symm k e hk)).set (k := b) (i := 3) hst.fvb v9
 exact ⟨⟨B.own_at hown (by simp) v9, hst.lob, qnext, qkept, qflows, hq.set hnb v9, hst.nvb, hst.kvb, hst.fvb, hnb, hst.nk, hst.nf, (B.Que.apart hst.nw.symm hst.next h3).symm, hst.kf, (B.Que.apart hst.kw.symm hst.kept h3).symm, (B.Que.apart hst.fw.symm hst.flows h3).symm⟩,
  ((S.LatB.of hl).grown hg (fun k hk => .inr hk)).setCell (.inl (.inl rfl)) v9⟩
end
end Go.Proofs.YtkjabiabeemfhaaGreatDoor
end
section
namespace Go.Proofs.YtkjabiabeemfhaaGreatDoor
open Go.RowKit
set_option maxRecDepth 100000
def wtF (x : Wt) : Nat → Value
 | 0 => .bool x.cho
 | 1 => .int .i64 x.key
 | _ => .int .i64 x.day
theorem wtCs_get (x : Wt) (j : Nat) (hj : j < 3) : (wtCs x)[j]? = some (wtF x j) := by
 rcases j with _ | _ | _ | j
 ·rfl
 ·rfl
 ·rfl
 ·omega
abbrev IsWaits (w : World) (v : Value) (l : List Wt) : Prop := IsRow 3 wtF w v l
theorem keyB_take (op op' : Int) (l : List Nd) (j i : Nat) (hi : i < l.length) : keyB op op' (l.take (i + 1)) j = (keyB op op' (l.take i) j || decide ((l[i].op = op ∨ l[i].op = op') ∧ l[i].a = (j : Int))) := by
 unfold keyB
 rw [List.take_succ_eq_append_getElem hi, List.any_append]
 simp
set_option maxHeartbeats 1600000 in
theorem tsize_any (ts : List Nd) (j : Nat) (s : Tm) (v : Value) (w : World) (hlen : ts.length ≤ 100000) (hs : TmAt ts j s) (hS : Shapes w) (hN : IsNodes w v ts) :
  Calls Tryz.prog 167 #[v, .int .i64 j] w fun e w' => e = .returned (.tuple #[.int .i64 (s.size : Int), .int .i64 0]) ∧ Later w w' := by
 have hle := hs.le
 have hp := s.size_pos
 have HE := Lib.hid (fun W (hl : Later w W) => end_any ts hlen _ j v W (Nat.le_refl _) (by omega) (hS.later hl) (hN.later hl))
 rw [hs.end_] at HE
 have ho : optI (some (j + s.size)) = ((j + s.size : Nat) : Int) := rfl
 rw [ho] at HE
 obtain ⟨p0, c0, rfl⟩ := hN.form
 generalize ts.length = L at *
 generalize s.size = z at *
 obtain ⟨q, hq⟩ : ∃ q, j + z = q := ⟨_, rfl⟩
 rw [hq] at HE hle
 clear hN hS hs ho
 have hzq : (z : Int) = (q : Int) - (j : Int) := by omega
 rw [hzq]
 have HQ := Lib.hid hq
 have hjq : j < q := by omega
 clear hq hzq
 go_enter Tryz.func167, Tryz.ntmps167
 go_wp2_with (go_at_call 78; go_must (refine (HE.out _ (by repeat (first | with_reducible (first | exact zq1 _ | assumption | refine zq2 ?_ | refine zq4 ?_ ?_ _ | refine zq5 ?_ _ | refine zq6 ?_ _ | refine zq7 ?_ | refine zq8 ?_ (by assumption)) | (simp only [zq10]; omega) | (simp; done) | (simp; omega)))).mono ?_; rintro e w2 ⟨rfl, hb2⟩))
 go_ret2
 exact ⟨rfl, hb2⟩
theorem nodeInfo : (Tryz.prog.info? 61).map (fun i => (i.zero, i.size, i.bytes)) = some (some (.agg #[.int .i64 0, .int .i64 0, .int .i64 0, .int .i64 0, .int .i64 0]), 5, 40) := by kernel_rfl
theorem sliceNode : SliceOf Tryz.prog 22 61 5 40 := sliceOf_mk Tryz.underlying22 nodeInfo rfl (by decide)
theorem ndCs_cells (x : Nd) : ∀ u ∈ ndCs x, u.oneCell' = true := by
 intro u hu
 simp only [ndCs, List.mem_cons, List.not_mem_nil, or_false] at hu
 rcases hu with rfl | rfl | rfl | rfl | rfl <;> rfl
def flagsV (l : List Nd) : List Value := (List.range 64).map (fun k => .bool (keyB 2 2 l k))
theorem flagsV_get (l : List Nd) {k : Nat} (h : k < 64) : (flagsV l)[k]? = some (.bool (keyB 2 2 l k)) := by simp [flagsV, h]
theorem flagsV_len (l : List Nd) : (flagsV l).length = 64 := by simp [flagsV]
theorem flagsV_skip {l : List Nd} {i : Nat} (hi : i < l.length) (h : l[i].op ≠ 2) : flagsV (l.take (i + 1)) = flagsV (l.take i) := by
 unfold flagsV
 refine List.map_congr_left (fun k _ => ?_)
 rw [keyB_take _ _ _ _ _ hi]
 simp [h]
theorem flagsV_set {l : List Nd} {i k : Nat} (hi : i < l.length) (h : l[i].op = 2) (ha : l[i].a = (k : Int)) (hk : k < 64) : (flagsV (l.take i)).set k (.bool true) = flagsV (l.take (i + 1)) := by
 apply List.ext_getElem?
 intro m
 by_cases hm : m < 64
 ·rw [List.getElem?_set, flagsV_get _ hm, flagsV_get _ hm, flagsV_len, keyB_take 2 2 l m i hi]
  by_cases e : k = m
  ·subst e; simp [h, ha, hk]
  ·rw [if_neg e]
   have : ¬ ((k : Int) = (m : Int)) := by omega
   simp [ha, this]
 ·rw [List.getElem?_eq_none (by rw [List.length_set, flagsV_len]; omega), List.getElem?_eq_none (by rw [flagsV_len]; omega)]
theorem nodes_cut {w : World} {v : Value} {ts : List Nd} (hN : IsNodes w v ts) {j q : Nat} (hj : j < q) (hq : q ≤ ts.length) :
  ∃ b o cap, v = .slice (some ⟨b, o, none⟩) ts.length cap ∧ q ≤ cap ∧ IsNodes w (.slice (some ⟨b, o + j * 5, none⟩) (q - j) (cap - j)) ((ts.drop j).take (q - j)) := by
 rcases hN with ⟨_, rfl⟩ | ⟨b, o, cap, h1, h2, h3, h4, h5⟩
 ·simp at hq; omega
 ·have hl : ((ts.drop j).take (q - j)).length = q - j := by simp; omega
  refine ⟨b, o, cap, h1, by omega, .inr ⟨b, o + j * 5, cap - j, by rw [hl], h2, by rw [hl]; omega, by omega, fun i hi k hk => ?_⟩⟩
  rw [hl] at hi
  have := h5 (j + i) (by omega) k hk
  rw [show o + j * 5 + i * 5 + k = o + (j + i) * 5 + k by rw [Nat.add_mul]; omega, this]
  simp
theorem cut_run (b o L cp j n : Nat) (hn : 0 < n) (hc : j + n ≤ cp) (W : World) : (Instr.slice 22 (.slice (some ⟨b, o, none⟩) L cp) (some (.int .i64 (j : Int))) (some (.int .i64 ((j + n : Nat) : Int))) none).run Tryz.prog W = .ok (.slice (some ⟨b, o + j * 5, none⟩) n (cp - j)) W := by
 rw [run_slice_lh _ _ _ _ _ (by kernel_rfl) _ _ _ _ (by omega) (by omega) (by omega)]
 have e : (sizeOf (Tryz.prog.elem 22)).run Tryz.prog W = .ok 5 W := by kernel_rfl
 rw [e]
 simp only [Result.andThen, sliced, Int.toNat_natCast]
 rw [if_neg (by omega), Nat.add_sub_cancel_left]
 simp only [Option.map]
 rw [add_plain]
set_option maxHeartbeats 1600000 in
theorem vneeds_bad (ts : List Nd) (hlen : ts.length ≤ 100000) (hok : ∀ x ∈ ts, x.ok) (k : Int) (v : Value) (w : World) (h0 : wrongV ts k ≠ 0) (hS : Shapes w) (hN : IsNodes w v ts) :
  Calls Tryz.prog 172 #[v, .int .i64 k] w fun e w' => e = .returned (.tuple #[.slice none 0 0, .int .i64 (wrongV ts k)]) ∧ Later w w' := by
 have HR := Lib.hid (fun W (hl : Later w W) => right_any ts hlen hok v k W (hS.later hl) (hN.later hl))
 obtain ⟨E, hE⟩ : ∃ E, wrongV ts k = E := ⟨_, rfl⟩
 rw [hE] at HR h0 ⊢
 have he1 : (E == 0) = false := by simpa using h0
 have he2 : (E != 0) = true := by simpa using h0
 obtain ⟨p0, c0, rfl⟩ := hN.form
 generalize ts.length = L at *
 clear hN hS hok h0 hE
 go_enter Tryz.func172, Tryz.ntmps172
 go_wp2_with (go_at_call 187; go_must (refine (HR.out _ (by repeat (first | with_reducible (first | exact zq1 _ | assumption | refine zq2 ?_ | refine zq4 ?_ ?_ _ | refine zq5 ?_ _ | refine zq6 ?_ _ | refine zq7 ?_ | refine zq8 ?_ (by assumption)) | (simp only [zq10]; omega) | (simp; done) | (simp; omega)))).mono ?_; rintro e w2 ⟨rfl, hb2⟩))
 go_ret2
 exact ⟨rfl, hb2⟩
set_option maxHeartbeats 3200000 in
theorem vneeds_own (ts : List Nd) (hlen : ts.length ≤ 100000) (hok : ∀ x ∈ ts, x.ok) (j : Nat) (s : Tm) (v : Value) (w : World) (h0 : wrongV ts (j : Nat) = 0) (hs : TmAt ts j s) (hf : ∀ x ∈ s.flat, x.op = 2 → 0 ≤ x.a ∧ x.a < 64) (hS : Shapes w) (hN : IsNodes w v ts) :
  Calls Tryz.prog 172 #[v, .int .i64 j] w fun e w' => ∃ v', e = .returned (.tuple #[v', .int .i64 0]) ∧ IsInts w' v' (keysI 2 2 s.flat) ∧ Later w w' ∧ ∀ k, v'.ownBlock = some k → w.heap.size ≤ k := by
 have hle := hs.le
 have hp := s.size_pos
 have HR := Lib.hid (fun W (hl : Later w W) => right_any ts hlen hok v j W (hS.later hl) (hN.later hl))
 rw [h0] at HR
 have HZ := Lib.hid (fun W (hl : Later w W) => tsize_any ts j s v W hlen hs (hS.later hl) (hN.later hl))
 obtain ⟨b, o, cp, rfl, hq, hN2⟩ := nodes_cut hN (j := j) (q := j + s.size) (by omega) hle
 have hfl : (ts.drop j).take (j + s.size - j) = s.flat := by
  rw [Nat.add_sub_cancel_left]
  obtain ⟨r, hr⟩ := hs.2
  rw [← hr, ← Tm.size_flat s, List.take_left]
 rw [hfl, Nat.add_sub_cancel_left] at hN2
 have hll : s.flat.length = s.size := Tm.size_flat s
 obtain ⟨l, hl⟩ : ∃ l, s.flat = l := ⟨_, rfl⟩
 rw [hl] at hN2 hf hll ⊢
 generalize s.size = n at *
 generalize ts.length = L at *
 clear hN hS hok h0 hs hl hfl
 have hsl := fun W => cut_run b o L cp j n hp hq W
 obtain ⟨q, hqe⟩ : ∃ q, j + n = q := ⟨_, rfl⟩
 rw [hqe] at hsl hq hle
 have hqi : (j : Int) + (n : Int) = (q : Int) := by omega
 clear hqe
 go_enter Tryz.func172, Tryz.ntmps172
 go_upto_region 5 with (go_at_call 187; go_must (refine (HR.out _ (by repeat (first | with_reducible (first | exact zq1 _ | assumption | refine zq2 ?_ | refine zq4 ?_ ?_ _ | refine zq5 ?_ _ | refine zq6 ?_ _ | refine zq7 ?_ | refine zq8 ?_ (by assumption)) | (simp only [zq10]; omega) | (simp; done) | (simp; omega)))).mono ?_; rintro e w2 ⟨rfl, hb2⟩))
 refine wp_opaque (fun w3 hb3 => ?_)
 have hO3 := Own.one hb3
 have hl3 := hb2.trans hb3.un1
 have hBw : w.heap.size ≤ w2.heap.size := Later.size hb2
 obtain ⟨B, hB⟩ : ∃ B, w2.heap.size = B := ⟨_, rfl⟩
 rw [hB] at hO3 hBw ⊢
 have hO3 : Own w3 [(B, (flagsV []).toArray)] := hO3
 clear hb2 hb3 hB HR
 go_upto_region 6 with (go_at_call 167; go_must (refine (HZ.out _ hl3).mono ?_; rintro e w4 ⟨rfl, hb4⟩))
 have HO4 := Lib.hid (hO3.later hb4)
 have hl4 := hl3.trans hb4
 clear hO3 hl3 hb4 HZ
 have HN2 := Lib.hid hN2
 clear hN2
 go_upto_region 7 with (fail)
 clear hsl
 go_loopw [34] (fun s34 wr => ∃ i : Nat, i ≤ n ∧ s34 = .int .i64 i ∧ Later w wr ∧ Hid (Own wr [(B, (flagsV (l.take i)).toArray)])) (fun s34 _ => n - (intOf s34).toNat)
 case atStart => exact ⟨0, Nat.zero_le _, rfl, hl4, HO4⟩
 case round =>
  obtain ⟨i, hi, rfl, hlat, hO⟩ := hrel
  clear hl4 HO4
  by_cases hlt : i < n
  ·have hil : i < l.length := by omega
   obtain ⟨b', o', cp', hv, hb', -, g0, g1, g2, g3, g4⟩ := (HN2.out.later hlat).full hil
   rw [hll] at hv
   cases hv
   have hskip := flagsV_skip hil
   have hset : l[i].op = 2 → ∃ k : Nat, l[i].a = k ∧ k < 64 ∧ (flagsV (l.take i)).set k (.bool true) = flagsV (l.take (i + 1)) := fun h => by
    have h3 := hf _ (List.getElem_mem hil) h
    exact ⟨(l[i].a).toNat, by omega, by omega, flagsV_set hil h (by omega) (by omega)⟩
   obtain ⟨x, hx⟩ : ∃ x, l[i] = x := ⟨_, rfl⟩
   rw [hx] at g0 g1 g2 g3 g4 hskip hset
   obtain ⟨xo, xa, xb, xn, xd⟩ := x
   simp only at g0 g1 g2 g3 g4 hskip hset
   have HSK := Lib.hid hskip
   have HST := Lib.hid hset
   clear hskip hset hx HN2 hf
   go_upto_region 9 with (fail)
   refine wp_opaque (fun wk hbk => ?_)
   have hOk := Own.one hbk
   have hlk : Later wr wk := hbk.un1
   obtain ⟨zk, dk, -⟩ := own_get hOk
   have hOB := hO.out.later hlk
   clear g0 g1 g2 g3 g4 hbk hO
   by_cases h2 : xo = 2
   ·subst h2
    obtain ⟨k, rfl, hk64, hst⟩ := HST.out rfl
    have HQ := Lib.hid hst
    obtain ⟨zB, dB, fB⟩ := own_get hOB
    have dBk := dB k
    have fBk := fB k (by simp [flagsV_len]; exact hk64)
    rw [List.getElem?_toArray, flagsV_get _ hk64] at dBk
    have HOB := Lib.hid hOB
    clear hst hOB dB fB HST HSK
    go_wp2
    go_roundw
    case rel => exact ⟨i + 1, by omega, by go_num, (hlat.trans hlk).putCell hBw _, Lib.hid (by rw [← HQ.out]; exact own_set_row HOB.out (by rw [flagsV_len]; exact hk64))⟩
    case measure => simp [intOf]; omega
   ·have e1 : (xo == 2) = false := by simpa using h2
    have HOB := Lib.hid hOB
    clear hOB HST
    go_wp2
    go_roundw
    case rel => exact ⟨i + 1, by omega, by go_num, hlat.trans hlk, Lib.hid (by rw [HSK.out h2]; exact HOB.out)⟩
    case measure => simp [intOf]; omega
  ·obtain rfl : i = n := by omega
   have hfin : l.take i = l := List.take_of_length_le (by omega)
   have hO1 := hO.out
   rw [hfin] at hO1
   have hget : ∀ k, k < 64 → ((flagsV l).toArray)[k]? = some (.bool (keyB 2 2 l k)) := fun k hk => by rw [List.getElem?_toArray, flagsV_get _ hk]
   have hsz : ((flagsV l).toArray).size = 64 := by simp [flagsV_len]
   obtain ⟨A, hA⟩ : ∃ A, (flagsV l).toArray = A := ⟨_, rfl⟩
   rw [hA] at hO1 hget hsz
   obtain ⟨t', fr, hrow⟩ := row_of_own1 hO1 (by omega)
   have HG := Lib.hid hget
   have HU := Lib.hid (fun m => keysU_succ 2 2 l m)
   clear hget hA hO hO1 hfin HN2 hf hlt
   go_wp2_with (refine wpList_load_row rfl 292 _ rfl B rfl t' _ fr _ hrow Tryz.underlying292 rfl (by rw [hsz]; kernel_rfl) ?_)
   clear hrow
   go_loopw [12, 46] (fun s12 s46 ws => ∃ (m : Nat) (xs : List Int), m ≤ 64 ∧ s46 = .int .i64 m ∧ Hid (xs = keysU 2 2 l m) ∧ xs.length ≤ m ∧ Mine w 3 1 ws s12 xs.length (xs.map (Value.int .i64))) (fun _ s46 _ => 64 - (intOf s46).toNat)
   case atStart => exact ⟨0, [], Nat.zero_le _, rfl, Lib.hid rfl, Nat.le_refl _, Mine.nil hlat⟩
   case round =>
    obtain ⟨m, xs, hm, rfl, hxs, hxl, hM⟩ := hrel
    obtain ⟨p', cp', rfl⟩ := hM.form
    have HM := Lib.hid hM
    clear hM
    by_cases hlt : m < 64
    ·have hg := HG.out m hlt
     have hu := HU.out m
     rw [← hxs.out] at hu
     obtain ⟨bv, hbv⟩ : ∃ bv, keyB 2 2 l m = bv := ⟨_, rfl⟩
     rw [hbv] at hg hu
     have HN := Lib.hid hu
     clear hu hbv
     cases bv
     ·have HX : Hid (xs = keysU 2 2 l (m + 1)) := Lib.hid (by rw [HN.out]; simp)
      go_wp2_with (refine wpList_idx (run_index_agg 292 _ 64 A m (.bool false) _ Tryz.underlying292 hlt hg (fun W => by kernel_rfl) (fun W => by kernel_rfl)) rfl rfl rfl rfl ?_)
      go_roundw
      case rel => exact ⟨m + 1, xs, by omega, by go_num, HX, by omega, HM.out⟩
      case measure => simp [intOf]; omega
     ·have HX : Hid (xs ++ [(m : Int)] = keysU 2 2 l (m + 1)) := Lib.hid (by rw [HN.out]; simp)
      go_wp2_with (first
       | refine wpList_idx (run_index_agg 292 _ 64 A m (.bool true) _ Tryz.underlying292 hlt hg (fun W => by kernel_rfl) (fun W => by kernel_rfl)) rfl rfl rfl rfl ?_
       | (at_builtin; go_must (refine wpList_push sliceInt HM.out rfl _ _ rfl rfl 1 rfl rfl (by simp [Value.oneCell']) (by omega) (by unfold maxLen; omega) ?_; intro v5 w3 hM3 hg3)))
      go_roundw
      case rel => exact ⟨m + 1, xs ++ [(m : Int)], by omega, by go_num, HX, by simp; omega, by rw [List.length_append, List.map_append]; exact hM3⟩
      case measure => simp [intOf]; omega
    ·obtain rfl : m = 64 := by omega
     go_wp2
     go_ret2
     have h2 : xs = keysI 2 2 l := hxs.out
     exact ⟨_, rfl, by rw [← h2]; exact HM.out.ints.1, HM.out.lat, fun k hk => (HM.out.1.lt k hk).1⟩
end Go.Proofs.YtkjabiabeemfhaaGreatDoor
end
