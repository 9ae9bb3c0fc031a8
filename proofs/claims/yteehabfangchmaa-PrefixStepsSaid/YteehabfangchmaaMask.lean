/- A number masked with MaxVar is a number up to MaxVar. -/
import Derived.Test.YteehabfangchmaaLib
namespace Go.Proofs.Yteehabfangchmaa
open Go.RowKit

theorem and62 (n : Int) (h0 : 0 ≤ n) (hn : n ≤ 18446744073709551615) : bits .and .u64 n 4611686018427387903 = n % 4611686018427387904 := by
  obtain ⟨A, rfl⟩ := Int.eq_ofNat_of_zero_le h0
  have e : (4611686018427387903 : Int) = ((4611686018427387903 : Nat) : Int) := rfl
  have e2 : A &&& 4611686018427387903 = A % 4611686018427387904 := Nat.and_two_pow_sub_one_eq_mod A 62
  rw [e, u64_and_nat _ _ (by omega) (by omega), e2]
  omega
theorem mask62 (n : Int) (h0 : 0 ≤ n) (hn : n ≤ 18446744073709551615) : ∃ N, bits .and .u64 n 4611686018427387903 = N ∧ 0 ≤ N ∧ N ≤ 4611686018427387903 :=
  ⟨_, rfl, by rw [and62 n h0 hn]; omega, by rw [and62 n h0 hn]; omega⟩
end Go.Proofs.Yteehabfangchmaa
