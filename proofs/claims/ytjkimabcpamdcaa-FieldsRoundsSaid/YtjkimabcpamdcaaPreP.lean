/- Plain laws of numbers and texts behind bits: what is laid is read as it was, whatever stands behind; cut anywhere it is too short. -/
import Derived.Test.YtjkimabcpamdcaaPreB
namespace Go.Proofs.Ytjkimabcpamdcaa
open Go.RowKit

theorem byte_val (n : Int) (h0 : 0 ≤ n) (h : n ≤ 255) : ((UInt8.ofNat n.toNat).toNat : Int) = n := ofNat_val n h0 h
theorem shift_succ (k : Nat) (hk : 1 ≤ k) : (2 : Int) ^ (7 * (k + 1 - 1)) = 2 ^ (7 * (k - 1)) * 128 := by
  rw [show 7 * (k + 1 - 1) = 7 * (k - 1) + 7 from by omega, Int.pow_add]; rfl
theorem mul_split (m S : Int) : m % 128 * S + m / 128 * (S * 128) = m * S := by
  have h := Int.emod_add_mul_ediv m 128
  have e : m / 128 * (S * 128) = 128 * (m / 128) * S := by
    rw [Int.mul_comm S 128, ← Int.mul_assoc, Int.mul_comm (m / 128) 128]
  rw [e, ← Int.add_mul]; rw [h]
theorem ploop_cont (g : Nat) : ∀ (f k : Nat) (N m : Int) (t : List UInt8), f + k = 10 → 1 ≤ k → k ≤ 9 → 0 ≤ N → 0 ≤ m → m < 128 ^ (g + 1) → N + m * 2 ^ (7 * (k - 1)) ≤ 4611686018427387903 →
    ploop f k N (pcont g m ++ t) = (N + m * 2 ^ (7 * (k - 1)), (k : Int) + (pcont g m).length, 0) := by
  induction g with
  | zero =>
    intro f k N m t hf hk1 hk9 hN hm hmg hb
    obtain ⟨f, rfl⟩ : ∃ j, f = j + 1 := ⟨f - 1, by omega⟩
    have hm1 : m < 128 := by simpa using hmg
    have hv := byte_val m hm (by omega)
    simp only [pcont, List.cons_append, List.nil_append, ploop, hv]
    rw [Int.emod_eq_of_lt hm hm1, if_neg (by omega), if_pos (by omega)]
    simp
  | succ g ih =>
    intro f k N m t hf hk1 hk9 hN hm hmg hb
    obtain ⟨f, rfl⟩ : ∃ j, f = j + 1 := ⟨f - 1, by omega⟩
    by_cases hm1 : m < 128
    · have hv := byte_val m hm (by omega)
      rw [pcont_last _ m hm1]
      simp only [List.cons_append, List.nil_append, ploop, hv]
      rw [Int.emod_eq_of_lt hm hm1, if_neg (by omega), if_pos (by omega)]
      simp
    · rw [pcont_more g m hm hm1]
      have hv := byte_val (m % 128 + 128) (by omega) (by omega)
      have hS := shift_bd k (by omega)
      have hs := mul_split m (2 ^ (7 * (k - 1)))
      have hq : 0 ≤ m / 128 * (2 ^ (7 * (k - 1)) * 128) := Int.mul_nonneg (by omega) (by omega)
      have hq2 : 0 ≤ m % 128 * 2 ^ (7 * (k - 1)) := Int.mul_nonneg (by omega) (by omega)
      have h9 : k ≠ 9 := by
        rintro rfl
        simp only [Nat.reduceSub, Nat.reduceMul, Int.reducePow] at hb
        omega
      simp only [List.cons_append, ploop, hv]
      rw [show (m % 128 + 128) % 128 = m % 128 from by omega, if_neg (by omega), if_neg (by omega)]
      have := ih f (k + 1) (N + m % 128 * 2 ^ (7 * (k - 1))) (m / 128) t (by omega) (by omega) (by omega) (by omega) (by omega)
        (by rw [Int.pow_succ] at hmg; exact Int.ediv_lt_of_lt_mul (by omega) hmg) (by rw [shift_succ k hk1]; omega)
      rw [this, shift_succ k hk1]
      simp only [List.length_cons, Prod.mk.injEq]
      refine ⟨by omega, by omega, trivial⟩
theorem ploop_cut (g : Nat) : ∀ (f k : Nat) (N m : Int) (j : Nat), f + k = 10 → 1 ≤ k → k ≤ 9 → 0 ≤ N → 0 ≤ m → m < 128 ^ (g + 1) → N + m * 2 ^ (7 * (k - 1)) ≤ 4611686018427387903 → j < (pcont g m).length →
    ploop f k N ((pcont g m).take j) = (0, 0, 3) := by
  induction g with
  | zero =>
    intro f k N m j hf hk1 hk9 hN hm hmg hb hj
    obtain ⟨f, rfl⟩ : ∃ j, f = j + 1 := ⟨f - 1, by omega⟩
    have : j = 0 := by simp [pcont] at hj; omega
    subst this; rfl
  | succ g ih =>
    intro f k N m j hf hk1 hk9 hN hm hmg hb hj
    obtain ⟨f, rfl⟩ : ∃ j, f = j + 1 := ⟨f - 1, by omega⟩
    by_cases hm1 : m < 128
    · rw [pcont_last _ m hm1] at hj ⊢
      have : j = 0 := by simp at hj; omega
      subst this; rfl
    · rw [pcont_more g m hm hm1] at hj ⊢
      match j, hj with
      | 0, _ => rfl
      | j + 1, hj =>
        have hv := byte_val (m % 128 + 128) (by omega) (by omega)
        have hS := shift_bd k (by omega)
        have hs := mul_split m (2 ^ (7 * (k - 1)))
        have hq : 0 ≤ m / 128 * (2 ^ (7 * (k - 1)) * 128) := Int.mul_nonneg (by omega) (by omega)
        have hq2 : 0 ≤ m % 128 * 2 ^ (7 * (k - 1)) := Int.mul_nonneg (by omega) (by omega)
        have h9 : k ≠ 9 := by
          rintro rfl
          simp only [Nat.reduceSub, Nat.reduceMul, Int.reducePow] at hb
          omega
        simp only [List.take_succ_cons, ploop, hv]
        rw [show (m % 128 + 128) % 128 = m % 128 from by omega, if_neg (by omega), if_neg (by omega)]
        exact ih f (k + 1) (N + m % 128 * 2 ^ (7 * (k - 1))) (m / 128) j (by omega) (by omega) (by omega) (by omega) (by omega)
          (by rw [Int.pow_succ] at hmg; exact Int.ediv_lt_of_lt_mul (by omega) hmg) (by rw [shift_succ k hk1]; omega) (by simpa using hj)

theorem head_mod (f : Int) (b : Nat) (x : Int) (h0 : 0 ≤ f) (h1 : f ≤ 255) (hb1 : 1 ≤ b) (hb8 : b ≤ 8) (hx0 : 0 ≤ x) (hx : x ≤ 2 ^ b - 1) :
    ((UInt8.ofNat (phead f b + x).toNat).toNat : Int) = phead f b + x ∧ (phead f b + x) % 2 ^ b = x := by
  obtain ⟨hd0, hd1, a, ha⟩ := phead_bd f b h0 h1 hb1 hb8
  have hP := pmost_bd b hb1 hb8
  refine ⟨byte_val _ (by omega) (by omega), ?_⟩
  rw [ha, Int.natCast_mul, Int.natCast_pow]
  have : ((2 : Nat) : Int) ^ b = 2 ^ b := rfl
  rw [this, Int.mul_add_emod_self_left]
  exact Int.emod_eq_of_lt hx0 (by omega)
theorem pget_pput (f : Int) (b : Nat) (n : Int) (t : List UInt8) (h0 : 0 ≤ f) (h1 : f ≤ 255) (hb1 : 1 ≤ b) (hb8 : b ≤ 8) (hn0 : 0 ≤ n) (hn : n ≤ 4611686018427387903) :
    pget b (pput f b n ++ t) = (n, ((pput f b n).length : Int), 0) := by
  have hP := pmost_bd b hb1 hb8
  unfold pput
  by_cases hlt : n < pmost b
  · rw [if_pos hlt]
    unfold pmost at hlt
    obtain ⟨e1, e2⟩ := head_mod f b n h0 h1 hb1 hb8 hn0 (by omega)
    simp only [List.cons_append, List.nil_append, pget, e1, e2]
    rw [if_pos (by unfold pmost; omega)]; rfl
  · rw [if_neg hlt]
    unfold pmost at hlt ⊢
    obtain ⟨e1, e2⟩ := head_mod f b (2 ^ b - 1) h0 h1 hb1 hb8 (by omega) (by omega)
    simp only [List.cons_append, pget, e1, e2]
    rw [if_neg (by unfold pmost; omega)]
    have := ploop_cont 9 9 1 (2 ^ b - 1) (n - (2 ^ b - 1)) t rfl (by omega) (by omega) (by omega) (by omega) (by simp only [Int.reducePow, Nat.reduceAdd]; omega)
      (by simp only [Nat.sub_self, Nat.mul_zero, Int.pow_zero]; omega)
    rw [this]
    simp only [Nat.sub_self, Nat.mul_zero, Int.pow_zero, List.length_cons, Prod.mk.injEq]
    refine ⟨by omega, by omega, trivial⟩
theorem pget_cut (f : Int) (b : Nat) (n : Int) (j : Nat) (h0 : 0 ≤ f) (h1 : f ≤ 255) (hb1 : 1 ≤ b) (hb8 : b ≤ 8) (hn0 : 0 ≤ n) (hn : n ≤ 4611686018427387903) (hj : j < (pput f b n).length) :
    pget b ((pput f b n).take j) = (0, 0, 3) := by
  have hP := pmost_bd b hb1 hb8
  unfold pput at hj ⊢
  by_cases hlt : n < pmost b
  · rw [if_pos hlt] at hj ⊢
    have : j = 0 := by simp at hj; omega
    subst this; rfl
  · rw [if_neg hlt] at hj ⊢
    unfold pmost at hlt hj ⊢
    match j, hj with
    | 0, _ => rfl
    | j + 1, hj =>
      obtain ⟨e1, e2⟩ := head_mod f b (2 ^ b - 1) h0 h1 hb1 hb8 (by omega) (by omega)
      simp only [List.take_succ_cons, pget, e1, e2]
      rw [if_neg (by unfold pmost; omega)]
      exact ploop_cut 9 9 1 (2 ^ b - 1) (n - (2 ^ b - 1)) j rfl (by omega) (by omega) (by omega) (by omega) (by simp only [Int.reducePow, Nat.reduceAdd]; omega)
        (by simp only [Nat.sub_self, Nat.mul_zero, Int.pow_zero]; omega) (by simpa using hj)
theorem pput_pos (f : Int) (b : Nat) (n : Int) : 1 ≤ (pput f b n).length := by
  unfold pput; split <;> simp
theorem pcont_len (g : Nat) : ∀ n, (pcont g n).length ≤ g + 1 := by
  induction g with
  | zero => intro n; simp [pcont]
  | succ g ih => intro n; simp only [pcont]; split <;> simp <;> (try have := ih (n / 128)) <;> omega
theorem pput_len (f : Int) (b : Nat) (n : Int) : (pput f b n).length ≤ 11 := by
  unfold pput; have := pcont_len 9 (n - pmost b); split <;> simp; omega
end Go.Proofs.Ytjkimabcpamdcaa
