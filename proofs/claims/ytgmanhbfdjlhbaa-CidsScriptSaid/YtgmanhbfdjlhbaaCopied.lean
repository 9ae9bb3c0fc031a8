/- Copied hands back a new slice with the same bytes; nothing old turns. (At most 2 to the 47 bytes.) -/
import Derived.Test.YtgmanhbfdjlhbaaInfo
namespace Go.Proofs.Ytgmanhbfdjlhbaa
open Go.RowKit


set_option maxHeartbeats 400000 in
theorem copied_any (l : List UInt8) (A : Option Addr) (c : Nat) (w : World) (hr : Rd w A (bv l)) (hl : l.length ≤ 140737488355328) :
    Calls Try.prog 13 #[.slice A l.length c] w (RetS 5 w l.length (bv l)) := by
  go_enter Try.func13, Try.ntmps13
  go_wp2_with (at_builtin; refine wpList_app _ rfl _ _ 22 rfl w.heap.size 5 (.int .u8 0) 1 infoB Try.underlying22 rfl (.slice none 0 0) 0 [] rfl (World.ownsRow_nil _ _ _ _) A l.length c (bv l) rfl (by simp) hr (bv_one l) (by unfold maxLen; omega) (by omega) (Nat.le_refl _) ?_; intro A' c' w' hown hgrow hat)
  go_wp2
  go_ret
  exact ⟨A', c', rfl, by simpa using hown, (Below.refl _ _).grown hgrow (Nat.le_refl _) (fun k hk => by simp [Value.ownBlock] at hk)⟩
end Go.Proofs.Ytgmanhbfdjlhbaa
