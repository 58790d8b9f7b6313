/- money as a text: digits; what Trim leaves -/
import Derived.Test.YtckeaibamgkegaaDoorCashQ
import Derived.Test.YtckeaibamgkegaaDoorCashB
set_option linter.all false
namespace Go.Proofs.YtckeaibamgkegaaDoor
open Go.RowKit
set_option maxRecDepth 100000

theorem drop_nil (p : UInt8 → Bool) (l : List UInt8) : l.dropWhile p = [] ↔ ∀ x ∈ l, p x = true := by
  induction l with
  | nil => simp
  | cons a r ih =>
    by_cases h : p a = true
    · rw [List.dropWhile_cons_of_pos h, ih]
      constructor
      · intro h1 x hx
        rcases List.mem_cons.1 hx with rfl | hx
        · exact h
        · exact h1 x hx
      · intro h1 x hx; exact h1 x (List.mem_cons_of_mem _ hx)
    · rw [List.dropWhile_cons_of_neg h]
      constructor
      · intro e; cases e
      · intro h1; exact absurd (h1 a (List.mem_cons_self ..)) h
theorem drop_sub (p : UInt8 → Bool) (l : List UInt8) {x : UInt8} (h : x ∈ l.dropWhile p) : x ∈ l := (List.dropWhile_sublist p).mem h
theorem take_imp (p : UInt8 → Bool) (l : List UInt8) {x : UInt8} (h : x ∈ l.takeWhile p) : p x = true := by
  induction l with
  | nil => simp at h
  | cons a r ih =>
    by_cases ha : p a = true
    · rw [List.takeWhile_cons_of_pos ha] at h
      rcases List.mem_cons.1 h with rfl | h
      · exact ha
      · exact ih h
    · rw [List.takeWhile_cons_of_neg ha] at h; cases h
theorem trim_nil (l cs : List UInt8) : Lib.trimS l cs = [] ↔ ∀ x ∈ l, cs.contains x = true := by
  unfold Lib.trimS Lib.trimLeftS Lib.trimRightS
  rw [drop_nil]
  constructor
  · intro h x hx
    have hsplit := List.takeWhile_append_dropWhile (p := (cs.contains ·)) (l := l.reverse)
    have hx2 : x ∈ l.reverse := List.mem_reverse.2 hx
    rw [← hsplit] at hx2
    rcases List.mem_append.1 hx2 with h1 | h1
    · exact take_imp _ _ h1
    · exact h x (List.mem_reverse.2 h1)
  · intro h x hx
    have := List.mem_reverse.1 hx
    exact h x (List.mem_reverse.1 (drop_sub _ _ this))
theorem cs_dig (x : UInt8) : ([48, 49, 50, 51, 52, 53, 54, 55, 56, 57] : List UInt8).contains x = digB x := by
  have h : ∀ n : Fin 256, ([48, 49, 50, 51, 52, 53, 54, 55, 56, 57] : List UInt8).contains (UInt8.ofNat n.val) = digB (UInt8.ofNat n.val) := by decide +kernel
  have := h ⟨x.toNat, x.toNat_lt⟩
  simpa using this
theorem trim_digs (l : List UInt8) : Lib.trimS l [48, 49, 50, 51, 52, 53, 54, 55, 56, 57] = [] ↔ l.all digB = true := by
  rw [trim_nil, List.all_eq_true]
  simp only [cs_dig]
theorem val_nought (l : List UInt8) (h : l.all digB = true) : Lib.trimS l [48] = [] ↔ valD 0 l = 0 := by
  rw [trim_nil]
  have key : ∀ (l : List UInt8) (acc : Nat), l.all digB = true → (valD acc l = 0 ↔ acc = 0 ∧ ∀ x ∈ l, x = 48) := by
    intro l
    induction l with
    | nil => intro acc _; simp [valD]
    | cons c r ih =>
      intro acc hd
      rw [List.all_cons, Bool.and_eq_true] at hd
      have hc := of_decide_eq_true hd.1
      rw [valD_cons, ih _ hd.2]
      constructor
      · rintro ⟨h1, h2⟩
        refine ⟨by omega, fun x hx => ?_⟩
        rcases List.mem_cons.1 hx with rfl | hx
        · exact UInt8.toNat_inj.1 (by show x.toNat = 48; omega)
        · exact h2 x hx
      · rintro ⟨h1, h2⟩
        refine ⟨?_, fun x hx => h2 x (List.mem_cons_of_mem _ hx)⟩
        have := h2 c (List.mem_cons_self ..)
        rw [h1, this]; rfl
  rw [key l 0 h]
  constructor
  · intro h1
    exact ⟨rfl, fun x hx => by have := h1 x hx; simpa using this⟩
  · rintro ⟨_, h1⟩ x hx
    rw [h1 x hx]; rfl
theorem ctrim_any (s cs : List UInt8) (hs : s.length ≤ 1000) (hcs : cs.length ≤ 100) (hasc : cs.all (fun b => decide (b.toNat < 128)) = true) (w : World) :
    Calls Tryd.prog 41 #[.string ⟨s.toArray⟩, .string ⟨cs.toArray⟩] w fun e w' => e = .returned (.string ⟨(Lib.trimS s cs).toArray⟩) ∧ Later w w' := by
  have h := Any.strings_Trim_laid Tryd.lays160 (by kernel_rfl) ⟨s.toArray⟩ ⟨cs.toArray⟩ w (by rw [ba_len]; omega) (by rw [ba_len]; omega) (fun j b hb => by
    rw [ba_list] at hb
    exact of_decide_eq_true (List.all_eq_true.1 hasc b (List.mem_of_getElem? hb)))
  rw [ba_list, ba_list] at h
  exact h
theorem ba_nil_beq (l : List UInt8) (b : Bool) (h : decide (l = []) = b) : (l == []) = b := by
  rw [← h, Bool.eq_iff_iff, beq_iff_eq, decide_eq_true_eq]

set_option maxHeartbeats 800000 in
theorem cdigits_any (s : List UInt8) (hs : s.length ≤ 1000) (w : World) :
    Calls Tryd.prog 40 #[.string ⟨s.toArray⟩] w fun e w' => e = .returned (.bool (!s.isEmpty && s.all digB)) ∧ Later w w' := by
  have HT := Lib.hid (fun W => ctrim_any s [48, 49, 50, 51, 52, 53, 54, 55, 56, 57] hs (by simp) (by decide) W)
  have hd := trim_digs s
  cases s with
  | nil =>
    clear HT hd
    go_enter Tryd.func40, Tryd.ntmps40
    go_wp2
    go_ret
    exact ⟨rfl, Later.refl _⟩
  | cons x r =>
    obtain ⟨L, hL⟩ : ∃ L, x :: r = L := ⟨_, rfl⟩
    have hne : L ≠ [] := by rw [← hL]; simp
    have he : L.isEmpty = false := by rw [← hL]; rfl
    rw [hL] at HT hd ⊢
    rw [he]
    clear hL
    obtain ⟨T, hT⟩ : ∃ T, Lib.trimS L [48, 49, 50, 51, 52, 53, 54, 55, 56, 57] = T := ⟨_, rfl⟩
    rw [hT] at HT hd
    clear hT
    by_cases ht : T = []
    · rw [hd.1 ht]
      subst ht
      clear hd hs
      go_enter Tryd.func40, Tryd.ntmps40
      go_wp2_with (go_at_call 41; go_must (refine (HT.out _).mono ?_; rintro e w1 ⟨rfl, hb1⟩))
      go_ret
      exact ⟨rfl, by repeat (first | with_reducible exact Later.refl _ | with_reducible assumption | with_reducible refine Later.ofdrew ?_ | with_reducible refine Later.ofdrewN ?_ | with_reducible refine Later.setCell ?_ ?_ _ | with_reducible refine Later.alloc ?_ _ | with_reducible refine Later.drewN ?_ _ | with_reducible refine Later.drew ?_ | (with_reducible refine Later.trans ?_ (by assumption)) | (simp only [World.size_setCell, World.size_alloc, World.heap_drewN]; omega) | (simp; done) | (simp; omega))⟩
    · have hf : L.all digB = false := by
        rw [Bool.eq_false_iff]; exact fun e => ht (hd.2 e)
      rw [hf]
      have hTe : T.isEmpty = false := by cases T with | nil => exact absurd rfl ht | cons _ _ => rfl
      clear hd hs hf
      go_enter Tryd.func40, Tryd.ntmps40
      go_wp2_with (go_at_call 41; go_must (refine (HT.out _).mono ?_; rintro e w1 ⟨rfl, hb1⟩))
      go_ret
      exact ⟨rfl, by repeat (first | with_reducible exact Later.refl _ | with_reducible assumption | with_reducible refine Later.ofdrew ?_ | with_reducible refine Later.ofdrewN ?_ | with_reducible refine Later.setCell ?_ ?_ _ | with_reducible refine Later.alloc ?_ _ | with_reducible refine Later.drewN ?_ _ | with_reducible refine Later.drew ?_ | (with_reducible refine Later.trans ?_ (by assumption)) | (simp only [World.size_setCell, World.size_alloc, World.heap_drewN]; omega) | (simp; done) | (simp; omega))⟩
end Go.Proofs.YtckeaibamgkegaaDoor
