/- OutgoArrives: it is true at every input. -/
import Derived.Test.YtljpboikjhckiaaOutO
namespace Go.Proofs.Ytljpboikjhckiaa
open Go.RowKit
set_option maxHeartbeats 2000000 in
theorem arrives_out (n : Nat) (A : Option Addr) (cap : Nat) (a b : Int) (w : World) (hn : n ≤ 9223372036854775807) (h : 200 < n) :
    Calls Try.prog 4 #[.slice A n cap, .int .i64 a, .int .u64 b] w fun e w' => e = .returned (.bool true) ∧ Below w.heap.size w w' := by
  go_enter Try.func4, Try.ntmps4
  go_wp2_with fail
  refine (awake_any _).mono ?_
  rintro e wf ⟨rfl, hbf⟩
  go_wp2_with fail
  go_ret
  exact ⟨rfl, hbf⟩
theorem arrives_any (D : List UInt8) (A : Option Addr) (cap : Nat) (a b : Int) (w : World) (hr : Rd w A (bv D)) (hnil : A = none → cap = 0) (hc : D.length ≤ cap) (hcm : cap ≤ 9223372036854775807) (hb0 : 0 ≤ b) (hb1 : b ≤ 18446744073709551615) :
    Calls Try.prog 4 #[.slice A D.length cap, .int .i64 a, .int .u64 b] w fun e w' => e = .returned (.bool true) ∧ Below w.heap.size w w' := by
  by_cases h : 200 < D.length
  · exact arrives_out D.length A cap a b w (by omega) h
  · obtain ⟨r0, hr0, D1⟩ := low_ex a 50 (by omega) (by omega)
    exact arrives_in D A D.length cap a b r0 w (Lib.hid rfl) hr hnil hc hcm (by omega) hr0 hb0 hb1 (Lib.hid D1)
end Go.Proofs.Ytljpboikjhckiaa
