/- Plain laws of the numbers' bytes: what is laid is read as it was; cut, it is too short. -/
import Derived.Test.YthidklmbdgjilaaVarG
namespace Go.Proofs.Ythidklmbdgjilaa
open Go.RowKit

theorem vbytes_cons (n : Int) (m : Nat) (hm : 1 ≤ m) : vbytes n m = vbyte n m 0 :: (vbytes n m).drop 1 := by
  obtain ⟨j, rfl⟩ : ∃ j, m = j + 1 := ⟨m - 1, by omega⟩
  simp [vbytes, List.range_succ_eq_map]
theorem vb_first (n : Int) (m : Nat) (h0 : 0 ≤ n) (hm : m = 1 ∨ m = 2 ∨ m = 4 ∨ m = 8) (hnm : n < 2 ^ (8 * m - 2)) :
    vmany (vbyte n m 0) = m ∧ ((vbyte n m 0).toNat : Int) % 64 = n / 2 ^ (8 * (m - 1)) := by
  have e := vbyte_zero n m h0 hm hnm
  have hb : 0 ≤ n / 2 ^ (8 * (m - 1)) ∧ n / 2 ^ (8 * (m - 1)) < 64 := by
    rcases hm with rfl | rfl | rfl | rfl <;> simp only [Nat.reduceMul, Nat.reduceSub, Int.reducePow] at hnm ⊢ <;> omega
  refine ⟨?_, by omega⟩
  unfold vmany
  have : (vbyte n m 0).toNat / 64 = vmark m := by omega
  rw [this]
  rcases hm with rfl | rfl | rfl | rfl <;> rfl
theorem ediv_step (n : Int) (j : Nat) : n / 2 ^ (8 * (j + 1)) * 256 + n / 2 ^ (8 * j) % 256 = n / 2 ^ (8 * j) := by
  have h1 : (2 : Int) ^ (8 * (j + 1)) = 2 ^ (8 * j) * 256 := by
    rw [show 8 * (j + 1) = 8 * j + 8 from by omega, Int.pow_add]; rfl
  have hp : (0 : Int) ≤ 2 ^ (8 * j) := Int.pow_nonneg (by omega)
  rw [h1, ← Int.ediv_ediv_of_nonneg hp]
  omega
theorem beN_vb (n : Int) (m k : Nat) (h0 : 0 ≤ n) (hk : k < m) : beN (n / 2 ^ (8 * (m - 1))) (((vbytes n m).drop 1).take k) = n / 2 ^ (8 * (m - 1 - k)) := by
  induction k with
  | zero => rfl
  | succ k ih =>
    have hlen : k < ((vbytes n m).drop 1).length := by simp [vbytes_length]; omega
    have hg : ((vbytes n m).drop 1)[k] = vbyte n m (k + 1) := by simp [vbytes, Nat.add_comm]
    rw [beN_take_succ _ _ _ hlen, ih (by omega), hg, vbyte_pos n m (k + 1) h0 (by omega)]
    have := ediv_step n (m - 1 - (k + 1))
    rw [show m - 1 - (k + 1) + 1 = m - 1 - k from by omega] at this
    exact this
theorem vget_vbytes (n : Int) (m : Nat) (t : List UInt8) (h0 : 0 ≤ n) (hm : m = 1 ∨ m = 2 ∨ m = 4 ∨ m = 8) (hnm : n < 2 ^ (8 * m - 2)) : vget (vbytes n m ++ t) = (n, (m : Int), 0) := by
  obtain ⟨h1, h2⟩ := vb_first n m h0 hm hnm
  have hlen := vbytes_length n m
  have e := vbytes_cons n m (by omega)
  generalize hr : (vbytes n m).drop 1 = r at e
  have hrl : r.length = m - 1 := by rw [← hr]; simp [hlen]
  rw [e, List.cons_append]
  simp only [vget, h1]
  rw [if_neg (by simp; omega), h2]
  have ht : (r ++ t).take (m - 1) = r.take (m - 1) := by rw [List.take_append_of_le_length (by omega)]
  rw [ht, ← hr, beN_vb n m (m - 1) h0 (by omega)]
  simp
theorem vget_short (n : Int) (m : Nat) (h0 : 0 ≤ n) (hm : m = 1 ∨ m = 2 ∨ m = 4 ∨ m = 8) (hnm : n < 2 ^ (8 * m - 2)) (k : Nat) (hk : k < m) : vget ((vbytes n m).take k) = (0, 0, 3) := by
  obtain ⟨h1, h2⟩ := vb_first n m h0 hm hnm
  have hlen := vbytes_length n m
  rw [vbytes_cons n m (by omega)]
  match k, hk with
  | 0, _ => rfl
  | j + 1, hk =>
    simp only [List.take_succ_cons, vget, h1]
    rw [if_pos (by simp [vbytes_length]; omega)]
theorem bv_take (l : List UInt8) (k : Nat) : bv (l.take k) = (bv l).take k := by simp [bv, List.map_take]
theorem bv_drop (l : List UInt8) (k : Nat) : bv (l.drop k) = (bv l).drop k := by simp [bv, List.map_drop]
/-- How a number is laid. -/
def vput (n : Int) : List UInt8 := vbytes n (vl n)
theorem vput_length (n : Int) : (vput n).length = vl n := vbytes_length _ _
theorem vput_many (n : Int) (h : n ≤ 4611686018427387903) : (vput n).length = 1 ∨ (vput n).length = 2 ∨ (vput n).length = 4 ∨ (vput n).length = 8 := by rw [vput_length]; exact (vl_fit h).1
theorem vget_vput (n : Int) (t : List UInt8) (h0 : 0 ≤ n) (h : n ≤ 4611686018427387903) : vget (vput n ++ t) = (n, ((vput n).length : Int), 0) := by
  rw [vput_length]; exact vget_vbytes n (vl n) t h0 (vl_fit h).1 (vl_fit h).2
theorem vget_vput_short (n : Int) (h0 : 0 ≤ n) (h : n ≤ 4611686018427387903) (k : Nat) (hk : k < (vput n).length) : vget ((vput n).take k) = (0, 0, 3) :=
  vget_short n (vl n) h0 (vl_fit h).1 (vl_fit h).2 k (by rwa [vput_length] at hk)
theorem vput_zero {n : Int} (h : 4611686018427387903 < n) : vput n = [] := by unfold vput; rw [vl_zero h]; rfl
theorem vput_any (n : Int) (l : List UInt8) (A : Option Addr) (c : Nat) (w : World) (hr : Rd w A (bv l)) (hl : l.length ≤ 70368744177664) (h0 : 0 ≤ n) (hn : n ≤ 18446744073709551615) :
    Calls Try.prog 14 #[.slice A l.length c, .int .u64 n] w (RetS 5 w (l ++ vput n).length (bv (l ++ vput n))) := by
  rw [List.length_append, vput_length]; exact put_any n l A c w hr hl h0 hn
theorem vlenp_any (n : Int) (w : World) (h0 : 0 ≤ n) (hn : n ≤ 18446744073709551615) :
    Calls Try.prog 11 #[.int .u64 n] w fun e w' => e = .returned (.int .i64 (vput n).length) ∧ ∃ k, w' = w.drewN k := by
  rw [vput_length, vl_cast]; exact vlen_any n w h0 hn
theorem vput_fits (n : Int) (h : n ≤ 4611686018427387903) (m : Nat) (hm : (vput n).length ≤ m) : n < 2 ^ (8 * m - 2) := by
  have := (vl_fit h).2
  rw [vput_length] at hm
  have h2 : (2 : Int) ^ (8 * vl n - 2) ≤ 2 ^ (8 * m - 2) := by exact_mod_cast Nat.pow_le_pow_right (n := 2) (by omega) (by omega)
  omega
theorem getv_any (n : Int) (m : Nat) (A : Option Addr) (c : Nat) (w : World) (h0 : 0 ≤ n) (hm : m = 1 ∨ m = 2 ∨ m = 4 ∨ m = 8) (hnm : n < 2 ^ (8 * m - 2)) (hr : Rd w A (bv (vbytes n m))) (hc : m ≤ c) (hcc : c ≤ 9223372036854775807) :
    Calls Try.prog 9 #[.slice A m c] w fun e w' => e = .returned (vtup (n, (m : Int), 0)) ∧ w = w' := by
  have e1 := vget_vbytes n m [] h0 hm hnm
  rw [List.append_nil] at e1
  have e2 := vbytes_length n m
  have := get_any (vbytes n m) A c w hr (by omega) (by omega) hcc
  rw [e1, e2] at this
  exact this
theorem RetS.cap {E : TypeId} {w : World} {n : Nat} {xs : List Value} {A : Option Addr} {c : Nat} {B : Nat} (h : w.ownsRow B E 1 (.slice A n c) n xs) : n ≤ c ∧ c ≤ 9223372036854775807 := by
  obtain ⟨A', c', e1, e2⟩ := own_shape w h
  injection e1 with _ _ e3; subst e3; simpa [maxLen] using e2
end Go.Proofs.Ythidklmbdgjilaa
