/- IncomeTurns2: it is true at every input. -/
import Derived.Test.YtlaomllgjiochaaIncO
namespace Go.Proofs.Ytlaomllgjiochaa
open Go.RowKit

set_option maxHeartbeats 2000000 in
theorem turns2_out (l : List UInt8) (A : Option Addr) (cap : Nat) (at0 : Int) (b : Value) (w : World) (hm : l.length ≤ 9223372036854775807) (h : l.length = 0 ∨ 100 < l.length) :
    Calls Try.prog 3 #[.slice A l.length cap, .int .i64 at0, b] w fun e w' => e = .returned (.bool true) ∧ Below w.heap.size w w' := by
  rcases h with h | h
  · rw [h]
    go_enter Try.func3, Try.ntmps3
    go_wp2_with fail
    refine (awake_any _).mono ?_
    rintro e wf ⟨rfl, hbf⟩
    go_wp2_with fail
    go_ret
    exact ⟨rfl, hbf⟩
  · have hz : ((l.length : Int) == 0) = false := beq_eq_false_iff_ne.2 (by omega)
    go_enter Try.func3, Try.ntmps3
    go_wp2_with fail
    refine (awake_any _).mono ?_
    rintro e wf ⟨rfl, hbf⟩
    go_wp2_with fail
    go_ret
    exact ⟨rfl, hbf⟩
theorem turns2_any (l : List UInt8) (A : Option Addr) (cap : Nat) (at0 bi : Int) (w : World) (hr : Rd w A (bv l)) (hm : l.length ≤ 9223372036854775807) (hb0 : 0 ≤ bi) (hb1 : bi ≤ 255) :
    Calls Try.prog 3 #[.slice A l.length cap, .int .i64 at0, .int .u8 bi] w fun e w' => e = .returned (.bool true) ∧ Below w.heap.size w w' := by
  by_cases h : l.length = 0 ∨ 100 < l.length
  · exact turns2_out l A cap at0 _ w hm h
  · obtain ⟨k, hk, D⟩ := low_ex at0 l.length (by omega) (by omega)
    obtain ⟨b, rfl⟩ : ∃ b : UInt8, (b.toNat : Int) = bi := ⟨UInt8.ofNat bi.toNat, by simp; omega⟩
    refine turns2_in l A cap at0 b k w hr (by omega) (by omega) hk (Lib.hid D) (decide (l[k]? = some b)) (Lib.hid (by simp)) (l[k].toNat) (Lib.hid (by simp [hk])) ?_
    rw [Bool.eq_iff_iff, beq_iff_eq, decide_eq_true_eq, List.getElem?_eq_getElem hk]
    constructor
    · intro e; exact congrArg some (UInt8.toNat_inj.1 (Int.ofNat.inj e))
    · intro e; injection e with e; rw [e]
end Go.Proofs.Ytlaomllgjiochaa
