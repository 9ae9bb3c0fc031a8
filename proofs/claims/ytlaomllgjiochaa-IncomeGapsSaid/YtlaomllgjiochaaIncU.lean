/- IncomeGaps: it is true at every input. -/
import Derived.Test.YtlaomllgjiochaaIncT
namespace Go.Proofs.Ytlaomllgjiochaa
open Go.RowKit
theorem gaps_any (m0 from0 to0 : Int) (w : World) :
    Calls Try.prog 6 #[.int .i64 m0, .int .i64 from0, .int .i64 to0] w fun e w' => e = .returned (.bool true) ∧ Below w.heap.size w w' := by
  obtain ⟨mk, hmk, D1⟩ := low_ex m0 99 (by omega) (by omega)
  obtain ⟨a, ha, D2⟩ := low_ex from0 (2 + mk) (by omega) (by omega)
  obtain ⟨b, hb, D3⟩ := low_ex to0 (2 + mk) (by omega) (by omega)
  exact gaps_lt m0 from0 to0 mk (2 + mk) a b (min a b) (max a b) w (Lib.hid rfl) (by omega) (by omega) (Lib.hid rfl) (Lib.hid rfl) (by omega) (by omega) (Lib.hid D1) (Lib.hid D2) (Lib.hid D3) (decide (min a b < max a b))
    (by rw [decide_eq_decide]; omega) (Lib.hid rfl)
end Go.Proofs.Ytlaomllgjiochaa
