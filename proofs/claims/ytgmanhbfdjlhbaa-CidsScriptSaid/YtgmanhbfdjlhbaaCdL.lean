/- cids: New, for both; a pool that is nil. -/
import Derived.Test.YtgmanhbfdjlhbaaCdK
namespace Go.Proofs.Ytgmanhbfdjlhbaa
open Go.RowKit

theorem run_arr8 (A : Option Addr) (c : Nat) (w : World) : (Instr.arrayAt 55 (.slice A 8 c)).run Try.prog w = .ok (.pointer A) w := by
  simp [Instr.arrayAt, run_underlying Try.underlying55]
section
variable {w : World}
set_option maxHeartbeats 1000000 in
theorem cnew_no (A : Option Addr) (n c : Nat) (w : World) (hn : n ≠ 8) : Calls Try.prog 9 #[.slice A n c] w fun e w' => e = .returned (.pointer none) ∧ w = w' := by
  have b1 : ((n : Int) != 8) = true := by rw [bne_iff_ne]; omega
  go_enter Try.func9, Try.ntmps9
  go_wp2_with fail
  go_ret
  exact ⟨rfl, rfl⟩
set_option maxRecDepth 100000 in
set_option maxHeartbeats 4000000 in
theorem cnew_any (first : List UInt8) (A : Option Addr) (c : Nat) (w : World) (h8 : first.length = 8) (hr : Rd w A (bv first)) : Calls Try.prog 9 #[.slice A 8 c] w fun e w' =>
    ∃ p A' c', e = .returned (.pointer (some ⟨p, 0, none⟩)) ∧ w.heap.size ≤ p ∧ IsCd w' p A' c' [⟨⟨0, first, [], 0, false⟩, none, 0⟩] 0 ∧ Below w.heap.size w w' ∧ ∀ a, A' = some a → w.heap.size ≤ a.block := by
  obtain ⟨y0, y1, y2, y3, y4, y5, y6, y7, hy⟩ := bv8 first h8
  obtain ⟨b, off, rfl, hc⟩ := hr (by rw [bv_length]; omega)
  rw [hy] at hc
  have c0 := hc 0 _ rfl
  have c1 := hc 1 _ rfl
  have c2 := hc 2 _ rfl
  have c3 := hc 3 _ rfl
  have c4 := hc 4 _ rfl
  have c5 := hc 5 _ rfl
  have c6 := hc 6 _ rfl
  have c7 := hc 7 _ rfl
  rw [Nat.add_zero] at c0
  clear hc hr
  replace hy := Lib.hid hy
  have hAA := run_arr8 (some ⟨b, off, none⟩) c
  go_enter Try.func9, Try.ntmps9
  go_wp2_with fail
  go_ret
  have hcell : (⟨⟨0, first, [], 0, false⟩, none, 0⟩ : Nx).cells = [.int .u64 0, .int .u8 y0, .int .u8 y1, .int .u8 y2, .int .u8 y3, .int .u8 y4, .int .u8 y5, .int .u8 y6, .int .u8 y7, .slice none 0 0, .int .i64 0, .bool false] := by
    unfold Nx.cells; simp only [pad8_id h8, hy.out]; rfl
  have hs1 : ∀ o, (w.alloc o).heap.size = w.heap.size + 1 := fun o => by simp
  refine ⟨w.heap.size + 1, some ⟨w.heap.size, 0, none⟩, 1, rfl, by omega, ⟨?_, ?_, fun n hn => ?_, fun n hn => ?_, by simp, fun n hn a ha => ?_⟩, ((Below.refl _ w).alloc (Nat.le_refl _) _).alloc (by simp) _, fun a ha => by injection ha with ha; subst ha; exact Nat.le_refl _⟩
  · have := heap_alloc_new (w.alloc (.cells #[.int .u64 0, .int .u8 y0, .int .u8 y1, .int .u8 y2, .int .u8 y3, .int .u8 y4, .int .u8 y5, .int .u8 y6, .int .u8 y7, .slice none 0 0, .int .i64 0, .bool false] 57)) (.cells #[.slice (some ⟨w.heap.size, 0, none⟩) 1 1, .int .i64 0] 60)
    rw [hs1] at this
    exact this
  · have := World.ownsRow_lit (base := 0) (e := 57) (size := 12) w #[.int .u64 0, .int .u8 y0, .int .u8 y1, .int .u8 y2, .int .u8 y3, .int .u8 y4, .int .u8 y5, .int .u8 y6, .int .u8 y7, .slice none 0 0, .int .i64 0, .bool false] 1 (Nat.zero_le _) (by simp [maxLen]) rfl
    have e : nxv [⟨⟨0, first, [], 0, false⟩, none, 0⟩] = [.int .u64 0, .int .u8 y0, .int .u8 y1, .int .u8 y2, .int .u8 y3, .int .u8 y4, .int .u8 y5, .int .u8 y6, .int .u8 y7, .slice none 0 0, .int .i64 0, .bool false] := by
      rw [nxv, rv_single, hcell]
    rw [e]
    exact own_fr this ((Fr.refl NoS _).alloc _) (fun _ _ x => x)
  · rw [List.mem_singleton.1 hn]; exact ⟨Rd.nil _ _, Nat.le_refl _, by simp⟩
  · rw [List.mem_singleton.1 hn]; exact h8
  · rw [List.mem_singleton.1 hn] at ha; cases ha
/-! a pool that is nil -/
set_option maxHeartbeats 1000000 in
theorem add_nil (q C B : Value) (w : World) : Calls Try.prog 11 #[.pointer none, q, C, B] w fun e w' => e = .returned (.int .i64 1) ∧ w = w' := by
  go_enter Try.func11, Try.ntmps11
  go_wp2_with fail
  go_ret
  exact ⟨rfl, rfl⟩
set_option maxHeartbeats 1000000 in
theorem free_nil (w : World) : Calls Try.prog 12 #[.pointer none] w fun e w' => e = .returned (.int .i64 0) ∧ w = w' := by
  go_enter Try.func12, Try.ntmps12
  go_wp2_with fail
  go_ret
  exact ⟨rfl, rfl⟩
end
end Go.Proofs.Ytgmanhbfdjlhbaa
