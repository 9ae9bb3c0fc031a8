/- outgo: New: what it makes. -/
import Derived.Test.YtljpboikjhckiaaOutB
import Derived.Test.YtljpboikjhckiaaClone
import Derived.Deep.OwnRows
import Derived.Deep.RegionHeld3
namespace Go.Proofs.Ytljpboikjhckiaa
open Go.RowKit

/-- What New hands back. -/
def NewPost (D : List UInt8) (w : World) (e : Ending) (w' : World) : Prop :=
  ∃ p g AD cD, e = .returned (.pointer (some ⟨p, 0, none⟩)) ∧ IsOut w' p g D.length AD cD D (List.replicate (D.length + 1) 0) ∧ Below w.heap.size w w' ∧ w.heap.size ≤ p ∧ w.heap.size ≤ g ∧ (∀ a, AD = some a → w.heap.size ≤ a.block) ∧ (∀ a, AD = some a → a.block < w'.heap.size)

theorem own_made (w : World) (n : Nat) (hn : n ≤ 1000000) : (w.alloc (.cells (madeCells #[.int .u8 0] n) 5)).ownsRow 0 5 1 (.slice (some ⟨w.heap.size, 0, none⟩) n n) n (bv (List.replicate n 0)) := by
  refine ⟨by simp [bv], .inr ⟨w.heap.size, n, madeCells #[.int .u8 0] n, rfl, Nat.zero_le _, heap_alloc_new w _, Nat.le_refl _, by unfold maxLen; omega, ?_, ?_⟩⟩
  · have := congrArg List.length (toList_madeCells_one (.int .u8 0) n)
    simpa using this
  · rw [toList_madeCells_one]; simp [bv]

set_option maxHeartbeats 2000000 in
theorem onew_any (D : List UInt8) (A : Option Addr) (c : Nat) (w : World) (hr : Rd w A (bv D)) (hA : A = none → c = 0) (hl : D.length ≤ 100000) :
    Calls Try.prog 10 #[.slice A D.length c] w (NewPost D w) := by
  have HM : ∀ w : World, (Instr.makeSlice 22 (.int .i64 ((D.length : Int) + 1)) (.int .i64 ((D.length : Int) + 1))).run Try.prog w = .ok (.slice (some ⟨w.heap.size, 0, none⟩) (D.length + 1) (D.length + 1)) (w.alloc (.cells (madeCells #[.int .u8 0] (D.length + 1)) 5)) := fun w => by
    have := run_make_row' (P := Try.prog) 22 5 (.int .u8 0) 1 Try.underlying22 infoB rfl .i64 .i64 (D.length + 1) (by omega) (by omega) w
    rwa [show ((D.length + 1 : Nat) : Int) = (D.length : Int) + 1 from by omega] at this
  have hwr : IntKind.i64.wrap ((D.length : Int) + 1) = (D.length : Int) + 1 := IntWalk.i64_in _ (by omega)
  have HR := Lib.hid hr
  have CL := Lib.hid (fun W h => clone_any D A c W h hA (by omega))
  clear hr
  go_enter Try.func10, Try.ntmps10
  go_wp2_with fail
  go_region_held3 (fun _ => True) (trivial) ((go_at_call 26; refine (CL.out _ (by first | exact HR.out | exact (HR.out.alloc _))).mono ?_; rintro e w1 ⟨AD, cD, rfl, ho1, hb1⟩))
  · go_wp2_with fail
    go_ret
    obtain ⟨_, _, hs, h1, h2⟩ := own_shape _ ho1
    injection hs with e1 e2 e3
    subst e1 e3
    have hnl : AD = none → cD = 0 := fun h => by
      rcases own_cases ho1 with ⟨_, _, h3, _⟩ | ⟨g, h3, _⟩
      · exact h3
      · rw [h] at h3; cases h3
    have hl1 := ho1.lt
    have hsz : w.heap.size ≤ w1.heap.size := hb1.size
    refine ⟨w1.heap.size + 1, w1.heap.size, AD, cD, rfl, ⟨?_, (own_made w1 (D.length + 1) (by omega)).alloc _, ((Rd.of_own ho1).alloc _).alloc _, rfl, ⟨h1, by simpa [maxLen] using h2⟩, fun a ha => ?_, by omega, hnl⟩, ?_, by omega, hsz, fun a ha => ?_, fun a ha => ?_⟩
    · have := heap_alloc_new (w1.alloc (.cells (madeCells #[.int .u8 0] (D.length + 1)) 5)) (.cells #[.slice AD D.length cD, .slice (some ⟨w1.heap.size, 0, none⟩) (D.length + 1) (D.length + 1)] 50)
      simpa using this
    · have := (hl1 a.block (by rw [ha]; rfl)).2; omega
    · exact Fr.below ((((Fr.refl NoS w).drew.trans (Fr.of_below hb1 NoS)).alloc _).alloc _)
    · exact (hl1 a.block (by rw [ha]; rfl)).1
    · have := (hl1 a.block (by rw [ha]; rfl)).2; simp; omega
  · go_wp2_with fail
    go_ret
    obtain ⟨_, _, hs, h1, h2⟩ := own_shape _ ho1
    injection hs with e1 e2 e3
    subst e1 e3
    have hnl : AD = none → cD = 0 := fun h => by
      rcases own_cases ho1 with ⟨_, _, h3, _⟩ | ⟨g, h3, _⟩
      · exact h3
      · rw [h] at h3; cases h3
    have hl1 := ho1.lt
    have f1 := Fr.of_below hb1 NoS
    have hsz : w.heap.size + 1 ≤ w1.heap.size := by have := hb1.size; simpa using this
    have hrow := own_fr ((own_made w (D.length + 1) (by omega)).drew) f1 (fun _ _ x => x)
    refine ⟨w1.heap.size, w.heap.size, AD, cD, rfl, ⟨heap_alloc_new w1 _, hrow.alloc _, (Rd.of_own ho1).alloc _, rfl, ⟨h1, by simpa [maxLen] using h2⟩, fun a ha => ?_, by omega, hnl⟩, ?_, by omega, Nat.le_refl _, fun a ha => ?_, fun a ha => ?_⟩
    · have := (hl1 a.block (by rw [ha]; rfl)).1; simp at this; omega
    · exact Fr.below ((((Fr.refl NoS w).alloc _).drew.trans f1).alloc _)
    · have := (hl1 a.block (by rw [ha]; rfl)).1; simp at this; omega
    · have := (hl1 a.block (by rw [ha]; rfl)).2; simp; omega
end Go.Proofs.Ytljpboikjhckiaa
