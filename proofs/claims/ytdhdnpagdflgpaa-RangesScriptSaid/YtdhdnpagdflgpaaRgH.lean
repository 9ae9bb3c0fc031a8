/- RangesFloor: what its states are, in plain words. -/
import Derived.Test.YtdhdnpagdflgpaaRgG
import Derived.Test.YtdhdnpagdflgpaaLow
import Derived.Test.YtdhdnpagdflgpaaCut
namespace Go.Proofs.Ytdhdnpagdflgpaa
open Go.RowKit

theorem rat_top (l : List Rg) (n : Nat) (h : ∀ r, l.head? = some r → r.hi < n) : rat l n = 0 := by
  unfold rat
  cases l with
  | nil => rfl
  | cons r t => have := h r rfl; simp [this]
/-- A number above all, that does not touch. -/
theorem radd_top (l : List Rg) (n : Nat) (h : ∀ r, l.head? = some r → r.hi + 1 < n) : radd l n = ⟨n, n⟩ :: l := by
  have e := rat_top l n (fun r hr => by have := h r hr; omega)
  unfold radd rins
  simp only [e, if_true, List.take_zero, List.nil_append, List.drop_zero]
  have := rjoin_mid [] l ⟨n, n⟩
  simp only [List.nil_append, List.length_nil] at this
  rw [this]
  cases l with
  | nil => rfl
  | cons r t =>
    have := h r rfl
    simp only
    rw [if_neg (by omega)]
/-- A number that touches the topmost range from above. -/
theorem radd_next (r : Rg) (t : List Rg) (n : Nat) (h : r.hi + 1 = n) : radd (r :: t) n = ⟨r.lo, n⟩ :: t := by
  have e := rat_top (r :: t) n (fun r' hr => by injection hr with hr; subst hr; omega)
  unfold radd rins
  simp only [e, if_true, List.take_zero, List.nil_append, List.drop_zero]
  have := rjoin_mid [] (r :: t) ⟨n, n⟩
  simp only [List.nil_append, List.length_nil] at this
  rw [this]
  exact if_pos (by omega)

def flq (mo k : Nat) : Nat := min mo k
def flE (q k : Nat) : List Rg := (List.range q).map fun j => ⟨3 * (k - 1 - j), 3 * (k - 1 - j)⟩
def flF (mo k : Nat) : Nat := if k ≤ mo then 0 else 3 * (k - 1 - mo) + 1
def flS (mo k : Nat) : Rs := ⟨mo, flE (min mo k) k, flF mo k⟩
theorem flE_cons (q k : Nat) : ⟨3 * k, 3 * k⟩ :: flE q k = flE (q + 1) (k + 1) := by
  unfold flE
  rw [List.range_succ_eq_map, List.map_cons, List.map_map]
  congr 1
  apply List.map_congr_left
  intro j _
  show (⟨3 * (k - 1 - j), 3 * (k - 1 - j)⟩ : Rg) = ⟨3 * (k + 1 - 1 - (j + 1)), 3 * (k + 1 - 1 - (j + 1))⟩
  rw [show k + 1 - 1 - (j + 1) = k - 1 - j by omega]
theorem flE_drop (q k : Nat) : (flE (q + 1) k).dropLast = flE q k ∧ (flE (q + 1) k).getLast? = some ⟨3 * (k - 1 - q), 3 * (k - 1 - q)⟩ := by
  unfold flE
  rw [List.range_succ, List.map_append]
  simp
theorem flS_zero (mo : Nat) : rsnew mo = flS mo 0 := by simp [rsnew, flS, flE, flF]
theorem flS_has (mo k i : Nat) (hmo : 1 ≤ mo) (hi : i < k) : (flS mo k).has (3 * i) = true := by
  unfold Rs.has
  rw [Bool.or_eq_true, decide_eq_true_eq]
  by_cases h : k - 1 - i < mo
  · refine .inr ((rmem_iff _ _).2 ⟨⟨3 * (k - 1 - (k - 1 - i)), 3 * (k - 1 - (k - 1 - i))⟩, ?_, ?_⟩)
    · simp only [flS, flE, List.mem_map, List.mem_range]
      exact ⟨k - 1 - i, by omega, rfl⟩
    · simp only; omega
  · refine .inl ?_
    simp only [flS, flF]
    rw [if_neg (by omega)]
    omega
theorem flS_low (mo k i : Nat) (hi : 0 < i) (h : i + mo < k) : (flS mo k).has (3 * i - 1) = true := by
  unfold Rs.has
  rw [Bool.or_eq_true, decide_eq_true_eq]
  refine .inl ?_
  simp only [flS, flF]
  rw [if_neg (by omega)]
  omega
theorem flS_new (mo k : Nat) : (flS mo k).has (3 * k) = false := by
  unfold Rs.has
  rw [Bool.or_eq_false_iff, decide_eq_false_iff_not]
  constructor
  · simp only [flS, flF]
    split <;> omega
  · rw [← Bool.not_eq_true]
    intro h
    obtain ⟨r, hr, h1, h2⟩ := (rmem_iff _ _).1 h
    simp only [flS, flE, List.mem_map, List.mem_range] at hr
    obtain ⟨j, hj, rfl⟩ := hr
    simp only at h2
    omega
theorem flS_add (mo k : Nat) (hmo : 1 ≤ mo) : (flS mo k).add (3 * k) = flS mo (k + 1) := by
  have e : radd (flE (min mo k) k) (3 * k) = flE (min mo k + 1) (k + 1) := by
    rw [radd_top, flE_cons]
    intro r hr
    have hm : r ∈ flE (min mo k) k := List.mem_of_mem_head? (by rw [hr]; rfl)
    simp only [flE, List.mem_map, List.mem_range] at hm
    obtain ⟨j, hj, rfl⟩ := hm
    simp only
    omega
  unfold Rs.add
  simp only [flS, e]
  unfold Rs.trim
  have hl : (flE (min mo k + 1) (k + 1)).length = min mo k + 1 := by simp [flE]
  simp only [hl]
  by_cases h : k < mo
  · rw [if_neg (by omega)]
    simp only [flF]
    rw [if_pos (by omega), if_pos (by omega), show min mo k + 1 = min mo (k + 1) by omega]
  · rw [if_pos (by omega)]
    obtain ⟨d1, d2⟩ := flE_drop (min mo k) (k + 1)
    rw [d1, d2]
    simp only [flF, Option.map_some, Option.getD_some]
    rw [if_neg (by omega), show min mo k = min mo (k + 1) by omega, show k + 1 - 1 - min mo (k + 1) = k + 1 - 1 - mo by omega]
theorem flS_len (mo k : Nat) : (flS mo k).l.length = min mo k := by simp [flS, flE]
end Go.Proofs.Ytdhdnpagdflgpaa
