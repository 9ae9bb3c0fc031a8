/- Low hands back a number below n, whatever it is handed; n & MaxVar is a number up to MaxVar. -/
import Derived.Test.YtgmanhbfdjlhbaaLib
namespace Go.Proofs.Ytgmanhbfdjlhbaa
open Go.RowKit

def low (x n : Int) : Int := wrap64 ((IntKind.u64.wrap x).tmod n)
theorem low_bd (x n : Int) (hn : 1 ≤ n) (hm : n ≤ 4611686018427387904) : 0 ≤ low x n ∧ low x n < n := by
  have h0 : 0 ≤ IntKind.u64.wrap x := by rw [IntKind.wrap_u64]; omega
  unfold low
  rw [Int.tmod_eq_emod_of_nonneg h0]
  have h1 := Int.emod_nonneg (IntKind.u64.wrap x) (show n ≠ 0 by omega)
  have h2 := Int.emod_lt_of_pos (IntKind.u64.wrap x) (show 0 < n by omega)
  rw [IntWalk.wrap64_in _ (by omega)]
  exact ⟨h1, h2⟩

set_option maxHeartbeats 400000 in
theorem low_any (x n : Int) (w : World) (hn : 1 ≤ n) (hm : n ≤ 4611686018427387904) :
    Calls Try.prog 25 #[.int .i64 x, .int .i64 n] w fun e w' => e = .returned (.int .i64 (low x n)) ∧ w = w' := by
  go_enter Try.func25, Try.ntmps25
  go_wp2
  go_ret
  exact ⟨rfl, rfl⟩
/-- Low, its result named. -/
theorem low_ex (x : Int) (n : Nat) (hn : 1 ≤ n) (hm : n ≤ 4611686018427387904) : ∃ m : Nat, m < n ∧ ∀ w : World, Calls Try.prog 25 #[.int .i64 x, .int .i64 n] w fun e w' => e = .returned (.int .i64 m) ∧ w = w' := by
  have hb := low_bd x n (by omega) (by omega)
  obtain ⟨m, hm2⟩ := Int.eq_ofNat_of_zero_le hb.1
  refine ⟨m, by omega, fun w => ?_⟩
  rw [← hm2]
  exact low_any x n w (by omega) (by omega)
end Go.Proofs.Ytgmanhbfdjlhbaa
