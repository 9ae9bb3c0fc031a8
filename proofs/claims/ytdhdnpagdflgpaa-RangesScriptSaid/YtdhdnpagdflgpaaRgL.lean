/- RangesBits: what its states are, in plain words. -/
import Derived.Test.YtdhdnpagdflgpaaRgJ
import Derived.WalkSmall
namespace Go.Proofs.Ytdhdnpagdflgpaa
open Go.RowKit

def bt (y : Int) (n : Nat) : Bool := y / 2 ^ n % 2 == 1
theorem bt_val (y : Int) (n : Nat) (h0 : 0 ≤ y) (h1 : y ≤ 18446744073709551615) : bits BinOp.and IntKind.u64 (y / 2 ^ n) 1 = if bt y n then 1 else 0 := by
  have hp : (0 : Int) < 2 ^ n := Int.pow_pos (by omega)
  have h2 : 0 ≤ y / 2 ^ n := Int.ediv_nonneg h0 (by omega)
  have h3 : y / 2 ^ n ≤ y := Int.ediv_le_self _ h0
  rw [and_one_u64 _ h2 (by omega)]
  unfold bt
  split
  · rename_i h; exact beq_iff_eq.1 h
  · rename_i h
    have : ¬ y / 2 ^ n % 2 = 1 := by simpa using h
    omega
theorem bt_zero (y : Int) (h0 : 0 ≤ y) (h1 : y ≤ 18446744073709551615) : (∀ x, x < 64 → bt y x = false) ↔ y = 0 := by
  constructor
  · intro h
    obtain ⟨Y, rfl⟩ := Int.eq_ofNat_of_zero_le h0
    have : Y = 0 := by
      apply Nat.eq_of_testBit_eq
      intro i
      rw [Nat.zero_testBit]
      rcases Nat.lt_or_ge i 64 with hi | hi
      · have := h i hi
        unfold bt at this
        rw [Nat.testBit_eq_decide_div_mod_eq, decide_eq_false_iff_not]
        intro e
        rw [beq_eq_false_iff_ne] at this
        apply this
        have e2 : ((Y / 2 ^ i % 2 : Nat) : Int) = 1 := by rw [e]; rfl
        rw [← e2]
        simp
      · refine Nat.testBit_lt_two_pow (Nat.lt_of_lt_of_le (show Y < 2 ^ 64 by omega) (Nat.pow_le_pow_right (by omega) hi))
    rw [this]; rfl
  · rintro rfl x _
    unfold bt
    rw [Int.zero_ediv]; rfl

theorem rok_len : ∀ (l : List Rg) (h : Nat), Rok l → (∀ r ∈ l, r.hi ≤ h) → 2 * l.length ≤ h + 2
  | [], _, _, _ => by simp
  | [a], h, _, _ => by simp
  | a :: b :: t, h, ho, hh => by
    obtain ⟨h1, h2, h3⟩ := ho.cons
    have hb := h2 b (by simp)
    have ha := hh a (by simp)
    have := rok_len (b :: t) (h - 2) h3 (fun r hr => by have := h2 r hr; omega)
    simp only [List.length_cons] at this ⊢
    omega

structure Bt (s : Rs) (T : Nat → Bool) : Prop where
  ok : s.Ok
  most : s.most = 33
  floor : s.floor = 0
  mem : ∀ x, rmem s.l x = T x
  lt : ∀ x, T x = true → x < 64
theorem Bt.start : Bt (rsnew 33) (fun _ => false) := ⟨rsnew_ok 33, rfl, rfl, fun _ => rfl, fun _ h => by cases h⟩
theorem Bt.has {s : Rs} {T : Nat → Bool} (h : Bt s T) (x : Nat) : s.has x = T x := by
  unfold Rs.has; rw [h.floor, decide_eq_false (by omega), Bool.false_or, h.mem]
theorem Bt.add {s : Rs} {T : Nat → Bool} (h : Bt s T) (n : Nat) (hn : n < 64) (hT : T n = false) : Bt (s.add n) (fun x => T x || decide (x = n)) := by
  have hh : s.has n = false := by rw [h.has]; exact hT
  obtain ⟨a1, a2, a3, a4, a5, a6⟩ := Rs.add_ok h.ok hh (by omega) (by rw [h.most]; omega)
  have hn2 : rmem s.l n = false := by rw [h.mem]; exact hT
  obtain ⟨k1, k2⟩ := radd_ok h.ok.ok hn2
  have hl := rok_len (radd s.l n) 63 k1 (fun r hr => by
    have := (k2 r.hi).symm.trans ((rmem_iff _ _).2 ⟨r, hr, k1.le r hr, Nat.le_refl _⟩)
    rw [Bool.or_eq_true, decide_eq_true_eq, h.mem] at this
    rcases this with h1 | h1
    · have := h.lt _ h1; omega
    · omega)
  obtain ⟨f1, f2⟩ := a5 (by rw [h.most]; omega)
  refine ⟨a1, by rw [a4]; exact h.most, by rw [f1]; exact h.floor, fun x => by rw [f2, k2, h.mem], fun x hx => ?_⟩
  rw [Bool.or_eq_true, decide_eq_true_eq] at hx
  rcases hx with hx | hx
  · exact h.lt x hx
  · omega
theorem Bt.eq {s : Rs} {T T' : Nat → Bool} (h : Bt s T) (he : ∀ x, T x = T' x) : Bt s T' := ⟨h.ok, h.most, h.floor, fun x => by rw [h.mem, he], fun x hx => h.lt x (by rw [he]; exact hx)⟩

/-- What is in after so many rounds. -/
def bT (y : Int) (f i x : Nat) : Bool := decide (x < 64) && (bt y x && decide ((x + 64 - f) % 64 < i))
theorem bT_zero (y : Int) (f x : Nat) : bT y f 0 x = false := by simp [bT]
theorem bT_new (y : Int) (f i n : Nat) (hf : f < 64) (hi : i < 64) (hn : (f + i) % 64 = n) : bT y f i n = false := by
  unfold bT
  rw [decide_eq_false (show ¬ (n + 64 - f) % 64 < i by omega)]
  simp
theorem bT_yes (y : Int) (f i n : Nat) (hf : f < 64) (hi : i < 64) (hn : (f + i) % 64 = n) (hb : bt y n = true) (x : Nat) : (bT y f i x || decide (x = n)) = bT y f (i + 1) x := by
  unfold bT
  by_cases hx : x = n
  · subst hx
    rw [decide_eq_true (show x < 64 by omega), hb, decide_eq_true (show (x + 64 - f) % 64 < i + 1 by omega)]
    simp
  · rw [decide_eq_false hx, Bool.or_false]
    by_cases h64 : x < 64
    · have : ((x + 64 - f) % 64 < i) ↔ ((x + 64 - f) % 64 < i + 1) := by omega
      rw [decide_eq_decide.2 this]
    · rw [decide_eq_false h64]; simp
theorem bT_no (y : Int) (f i n : Nat) (hf : f < 64) (hi : i < 64) (hn : (f + i) % 64 = n) (hb : bt y n = false) (x : Nat) : bT y f i x = bT y f (i + 1) x := by
  unfold bT
  by_cases hx : x = n
  · subst hx; rw [hb]; simp
  · by_cases h64 : x < 64
    · have : ((x + 64 - f) % 64 < i) ↔ ((x + 64 - f) % 64 < i + 1) := by omega
      rw [decide_eq_decide.2 this]
    · rw [decide_eq_false h64]; simp
def bE (y : Int) (x : Nat) : Bool := decide (x < 64) && bt y x
theorem bT_end (y : Int) (f x : Nat) : bT y f 64 x = bE y x := by
  unfold bT bE
  rw [decide_eq_true (show (x + 64 - f) % 64 < 64 by omega), Bool.and_true]

/-- 'want', from n on. -/
structure Wt (T : Nat → Bool) (W : List Rg) (n : Nat) : Prop where
  ok : Rok W
  mem : ∀ x, rmem W x = (T x && decide (n ≤ x))
theorem Wt.lo {T : Nat → Bool} {W : List Rg} {n : Nat} (h : Wt T W n) : ∀ r ∈ W, n ≤ r.lo := by
  intro r hr
  have := (h.mem r.lo).symm.trans ((rmem_iff _ _).2 ⟨r, hr, Nat.le_refl _, h.ok.le r hr⟩)
  simp at this; exact this.2
theorem Wt.skip {T : Nat → Bool} {W : List Rg} {n : Nat} (h : Wt T W (n + 1)) (hT : T n = false) : Wt T W n := ⟨h.ok, fun x => by
  rw [h.mem]
  by_cases hx : x = n
  · subst hx; rw [hT]; rfl
  · have : (n + 1 ≤ x) ↔ (n ≤ x) := by omega
    rw [decide_eq_decide.2 this]⟩
theorem Wt.join {T : Nat → Bool} {V : List Rg} {r : Rg} {n : Nat} (h : Wt T (V ++ [r]) (n + 1)) (hr : r.lo = n + 1) (hT : T n = true) : Wt T (V ++ [⟨n, r.hi⟩]) n := by
  obtain ⟨k1, k2, k3⟩ := rok_append.1 h.ok
  have hrr := k2.le r (by simp)
  refine ⟨rok_append.2 ⟨k1, Rok.mk_cons Rok.nil (by simp only; omega) (by simp), fun a ha b hb => ?_⟩, fun x => ?_⟩
  · have := k3 a ha r (by simp)
    simp at hb; subst hb; exact this
  · have hm := h.mem x
    rw [rmem_append] at hm ⊢
    have e1 : rmem [r] x = (decide (r.lo ≤ x) && decide (x ≤ r.hi)) := by simp [rmem, Rg.has]
    have e2 : rmem [(⟨n, r.hi⟩ : Rg)] x = (decide (n ≤ x) && decide (x ≤ r.hi)) := by simp [rmem, Rg.has]
    rw [e1] at hm
    rw [e2]
    by_cases hx : x = n
    · subst hx
      rw [hT, decide_eq_true (Nat.le_refl x), decide_eq_true (show x ≤ r.hi by omega)]; simp
    · have : (r.lo ≤ x) ↔ (n ≤ x) := by omega
      have h2 : (n + 1 ≤ x) ↔ (n ≤ x) := by omega
      rw [decide_eq_decide.2 this, decide_eq_decide.2 h2] at hm
      exact hm
theorem Wt.push {T : Nat → Bool} {W : List Rg} {n : Nat} (h : Wt T W (n + 1)) (hl : ∀ r, W.getLast? = some r → r.lo ≠ n + 1) (hT : T n = true) : Wt T (W ++ [⟨n, n⟩]) n := by
  refine ⟨rok_append.2 ⟨h.ok, Rok.mk_cons Rok.nil (Nat.le_refl _) (by simp), fun a ha b hb => ?_⟩, fun x => ?_⟩
  · simp at hb; subst hb
    have hlo := h.lo a ha
    rcases List.eq_nil_or_concat W with rfl | ⟨V, r, rfl⟩
    · cases ha
    · have hne := hl r (by simp)
      simp only [List.concat_eq_append] at ha h
      have hrlo := h.lo r (by simp)
      rcases List.mem_append.1 ha with ha | ha
      · have := (rok_append.1 h.ok).2.2 a ha r (by simp)
        have := h.ok.le r (by simp)
        simp only; omega
      · simp at ha; subst ha; simp only; omega
  · rw [rmem_append, h.mem]
    have e2 : rmem [(⟨n, n⟩ : Rg)] x = (decide (n ≤ x) && decide (x ≤ n)) := by simp [rmem, Rg.has]
    rw [e2]
    by_cases hx : x = n
    · subst hx; rw [hT]; simp
    · have h2 : (n + 1 ≤ x) ↔ (n ≤ x) := by omega
      rw [decide_eq_decide.2 h2]
      have : (decide (n ≤ x) && decide (x ≤ n)) = false := by
        rw [Bool.and_eq_false_iff, decide_eq_false_iff_not, decide_eq_false_iff_not]; omega
      rw [this, Bool.or_false]
theorem bE_lt (y : Int) (x : Nat) (h : bE y x = true) : x < 64 := by unfold bE at h; simp at h; exact h.1
theorem Wt.start (y : Int) : Wt (bE y) [] 64 := ⟨Rok.nil, fun x => by
  by_cases h : x < 64
  · rw [decide_eq_false (by omega), Bool.and_false]; rfl
  · have : bE y x = false := by unfold bE; rw [decide_eq_false h]; rfl
    rw [this]; rfl⟩
theorem Wt.done {y : Int} {W : List Rg} {s : Rs} (h : Wt (bE y) W 0) (hs : Bt s (bE y)) : s.l = W := rok_ext _ _ hs.ok.ok h.ok (fun x => by rw [hs.mem, h.mem]; simp)
theorem Bt.empty {y : Int} {s : Rs} (hs : Bt s (bE y)) (h0 : 0 ≤ y) (h1 : y ≤ 18446744073709551615) : (!s.l.isEmpty) = (y != 0) := by
  rcases hl : s.l with _ | ⟨r, t⟩
  · have : y = 0 := (bt_zero y h0 h1).1 (fun x hx => by
      have := hs.mem x
      rw [hl] at this
      unfold bE at this
      rw [decide_eq_true hx, Bool.true_and] at this
      exact this.symm)
    rw [this]; rfl
  · have : y ≠ 0 := by
      rintro rfl
      have h2 := (rmem_iff s.l r.lo).2 ⟨r, by rw [hl]; simp, Nat.le_refl _, hs.ok.ok.le r (by rw [hl]; simp)⟩
      rw [hs.mem] at h2
      unfold bE at h2
      rw [Bool.and_eq_true] at h2
      rw [((bt_zero 0 (by omega) (by omega)).2 rfl) r.lo (of_decide_eq_true h2.1)] at h2
      cases h2.2
    rw [show (y != 0) = true from bne_iff_ne.2 this]; rfl
end Go.Proofs.Ytdhdnpagdflgpaa
