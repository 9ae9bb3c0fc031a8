/- slices.Clone of bytes: a new slice with the same bytes; nothing old turns. -/
import Derived.Test.YtgmanhbfdjlhbaaCopied
import Derived.Laws.OwnMore
namespace Go.Proofs.Ytgmanhbfdjlhbaa
open Go.RowKit

set_option maxHeartbeats 400000 in
theorem clone_any (l : List UInt8) (A : Option Addr) (c : Nat) (w : World) (hr : Rd w A (bv l)) (hA : A = none → c = 0) (hl : l.length ≤ 140737488355328) :
    Calls Try.prog 27 #[.slice A l.length c] w (RetS 5 w l.length (bv l)) := by
  have hnil := fun (W : World) (B : Option Addr) (m k : Nat) => Lib.run_eql_slice_nil (P := Try.prog) W 22 5 B m k 0 0 Try.underlying22
  cases A with
  | none =>
    have hl0 : l = [] := by
      rcases l with _ | ⟨x, r⟩
      · rfl
      · obtain ⟨_, _, h, _⟩ := hr (by simp)
        cases h
    subst hl0
    have hc := hA rfl
    subst hc
    go_enter Try.func27, Try.ntmps27
    go_wp2
    go_ret
    exact ⟨none, 0, rfl, World.ownsRow_nil _ _ _ _, Below.refl _ _⟩
  | some a =>
    go_enter Try.func27, Try.ntmps27
    go_wp2_with (at_builtin; refine Hid.out ?_)
    refine Lib.hid ?_
    refine wpList_app _ rfl _ _ 22 (by rfl) w.heap.size 5 (.int .u8 0) 1 infoB Try.underlying22 rfl (.slice (some ⟨w.heap.size, 0, none⟩) 0 0) 0 [] (by rfl) (World.ownsRow_lit w #[] 0 (Nat.le_refl _) (by simp) rfl) (some a) l.length c (bv l) (by rfl) (by simp) (hr.alloc _) (bv_one l) (by unfold maxLen; omega) (by omega) (by simp) ?_
    intro A1 c1 w1 hown hgrow _
    have F := ((Fr.refl NoS w).alloc _).grown hgrow (fun k hk hlt => by simp [Value.ownBlock] at hk; omega)
    simp only [Nat.zero_add, List.nil_append] at hown ⊢
    go_wp2
    go_ret
    exact ⟨A1, c1, rfl, hown, Fr.below F⟩
theorem clone_to (l : List UInt8) (n : Nat) (A : Option Addr) (c : Nat) (w : World) (hn : l.length = n) (hr : Rd w A (bv l)) (hA : A = none → c = 0) (hl : n ≤ 140737488355328) :
    Calls Try.prog 27 #[.slice A n c] w (RetS 5 w n (bv l)) := by
  subst hn
  exact clone_any l A c w hr hA hl
end Go.Proofs.Ytgmanhbfdjlhbaa
