/- varint.Len returns the document's length at every number of 64 bits; it may only draw. -/
import Derived.Test.YthidklmbdgjilaaVarA
namespace Go.Proofs.Ythidklmbdgjilaa
open Go.RowKit

set_option maxHeartbeats 2000000 in
theorem vlen_any (n : Int) (w : World) (h0 : 0 ≤ n) (hn : n ≤ 18446744073709551615) :
    Calls Try.prog 11 #[.int .u64 n] w fun e w' => e = .returned (.int .i64 (vlen n)) ∧ ∃ k, w' = w.drewN k := by
  have hle := len64_le n
  have H6 := Lib.hid (len64_6 n)
  have H14 := Lib.hid (len64_14 n)
  have H30 := Lib.hid (len64_30 n)
  have H62 := Lib.hid (len64_62 n)
  by_cases c1 : n < 64
  · have g1 : len64 n ≤ 6 := H6.out.2 c1
    go_enter Try.func11, Try.ntmps11
    go_wp2_with fail
    refine wp_loop_rounds 5 ?_
    rw [rounds_succ]
    go_wp2_with fail
    go_quiet ((go_at_call 19; exact quiet_left (len64_any _ _ h0 hn)))
    go_wp2_with fail
    go_ret
    exact ⟨ret_int (vlen1 c1).symm, _, rfl⟩
  have g1 : 6 < len64 n := by have := H6.out; omega
  by_cases c2 : n < 16384
  · have g2 : len64 n ≤ 14 := H14.out.2 c2
    go_enter Try.func11, Try.ntmps11
    go_wp2_with fail
    refine wp_loop_rounds 5 ?_
    rw [rounds_succ]
    go_wp2_with fail
    go_quiet ((go_at_call 19; exact quiet_left (len64_any _ _ h0 hn)))
    go_wp2_with fail
    iterate 1 (rw [rounds_succ]; go_wp2_with fail; go_quiet ((go_at_call 19; exact quiet_add_left (len64_any _ _ h0 hn))); go_wp2_with fail)
    go_ret
    exact ⟨ret_int (vlen2 (by omega) c2).symm, _, rfl⟩
  have g2 : 14 < len64 n := by have := H14.out; omega
  by_cases c3 : n < 1073741824
  · have g3 : len64 n ≤ 30 := H30.out.2 c3
    go_enter Try.func11, Try.ntmps11
    go_wp2_with fail
    refine wp_loop_rounds 5 ?_
    rw [rounds_succ]
    go_wp2_with fail
    go_quiet ((go_at_call 19; exact quiet_left (len64_any _ _ h0 hn)))
    go_wp2_with fail
    iterate 2 (rw [rounds_succ]; go_wp2_with fail; go_quiet ((go_at_call 19; exact quiet_add_left (len64_any _ _ h0 hn))); go_wp2_with fail)
    go_ret
    exact ⟨ret_int (vlen4 (by omega) c3).symm, _, rfl⟩
  have g3 : 30 < len64 n := by have := H30.out; omega
  by_cases c4 : n < 4611686018427387904
  · have g4 : len64 n ≤ 62 := H62.out.2 c4
    go_enter Try.func11, Try.ntmps11
    go_wp2_with fail
    refine wp_loop_rounds 5 ?_
    rw [rounds_succ]
    go_wp2_with fail
    go_quiet ((go_at_call 19; exact quiet_left (len64_any _ _ h0 hn)))
    go_wp2_with fail
    iterate 3 (rw [rounds_succ]; go_wp2_with fail; go_quiet ((go_at_call 19; exact quiet_add_left (len64_any _ _ h0 hn))); go_wp2_with fail)
    go_ret
    exact ⟨ret_int (vlen8 (by omega) (by omega)).symm, _, rfl⟩
  have g4 : 62 < len64 n := by have := H62.out; omega
  go_enter Try.func11, Try.ntmps11
  go_wp2_with fail
  refine wp_loop_rounds 5 ?_
  rw [rounds_succ]
  go_wp2_with fail
  go_quiet ((go_at_call 19; exact quiet_left (len64_any _ _ h0 hn)))
  go_wp2_with fail
  iterate 3 (rw [rounds_succ]; go_wp2_with fail; go_quiet ((go_at_call 19; exact quiet_add_left (len64_any _ _ h0 hn))); go_wp2_with fail)
  rw [rounds_succ]
  go_wp2_with fail
  go_ret
  exact ⟨ret_int (vlen0 (by omega)).symm, _, rfl⟩

end Go.Proofs.Ythidklmbdgjilaa
