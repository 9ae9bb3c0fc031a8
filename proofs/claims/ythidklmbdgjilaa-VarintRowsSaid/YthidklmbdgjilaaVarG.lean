/- The reference's In and Put: contracts at every length and every number of 64 bits. -/
import Derived.Test.YthidklmbdgjilaaVarF
namespace Go.Proofs.Ythidklmbdgjilaa
open Go.RowKit

theorem in_any (n : Int) (m : Nat) (l : List UInt8) (A : Option Addr) (c : Nat) (w : World) (hr : Rd w A (bv l)) (hl : l.length ≤ 70368744177664) (h0 : 0 ≤ n)
    (hm : m = 1 ∨ m = 2 ∨ m = 4 ∨ m = 8) (hnm : n < 2 ^ (8 * m - 2)) :
    Calls Try.prog 18 #[.slice A l.length c, .int .u64 n, .int .i64 m] w (RetS 5 w (l.length + m) (bv (l ++ vbytes n m))) := by
  rcases hm with rfl | rfl | rfl | rfl <;> simp only [Nat.reduceMul, Nat.reduceSub, Int.reducePow] at hnm
  · exact in1_any n l A c w hr hl h0 (by omega)
  · exact in2_any n l A c w hr hl h0 (by omega)
  · exact in4_any n l A c w hr hl h0 (by omega)
  · exact in8_any n l A c w hr hl h0 (by omega)

set_option maxHeartbeats 400000 in
theorem in0_any (n : Int) (l : List UInt8) (A : Option Addr) (c : Nat) (w : World) (hr : Rd w A (bv l)) (hl : l.length ≤ 70368744177664) :
    Calls Try.prog 18 #[.slice A l.length c, .int .u64 n, .int .i64 0] w (RetS 5 w l.length (bv l)) := by
  go_enter Try.func18, Try.ntmps18
  go_wp2_with (at_builtin; refine wpList_app _ rfl _ _ 23 rfl w.heap.size 5 (.int .u8 0) 1 infoB Try.underlying23 rfl (.slice none 0 0) 0 [] rfl (World.ownsRow_nil _ _ _ _) A l.length c (bv l) rfl (by simp) hr (bv_one l) (by unfold maxLen; omega) (by omega) (Nat.le_refl _) ?_; intro A' c' w1 hown hgrow hat)
  have hbel := (Below.refl w.heap.size w).grown hgrow (Nat.le_refl _) (fun k hk => by simp [Value.ownBlock] at hk)
  simp only [Nat.zero_add, List.nil_append] at hown
  clear hgrow hat
  refine wp_loop_rounds 1 ?_
  rw [rounds_succ]
  go_wp2
  go_ret
  exact ⟨A', c', rfl, hown, hbel⟩

set_option maxHeartbeats 400000 in
theorem refput_any (n : Int) (l : List UInt8) (A : Option Addr) (c : Nat) (w : World) (hr : Rd w A (bv l)) (hl : l.length ≤ 70368744177664) (h0 : 0 ≤ n) (hn : n ≤ 18446744073709551615) :
    Calls Try.prog 16 #[.slice A l.length c, .int .u64 n] w (RetS 5 w (l.length + vl n) (bv (l ++ vbytes n (vl n)))) := by
  have HV := Lib.hid (vl_cast n)
  by_cases hm : n ≤ 4611686018427387903
  · have HF := Lib.hid (vl_fit hm)
    go_enter Try.func16, Try.ntmps16
    go_wp2_with fail
    refine (reflen_any n _ h0 hn).mono ?_
    rintro e w' ⟨rfl, rfl⟩
    rw [← HV.out]
    go_wp2_with fail
    refine (in_any n (vl n) l A c _ hr hl h0 HF.out.1 HF.out.2).mono ?_
    rintro e w' ⟨A', c', rfl, hown, hbel⟩
    go_wp2
    go_ret
    exact ⟨A', c', rfl, hown, hbel⟩
  · have h0' := Lib.hid (vl_zero (n := n) (by omega))
    have HZ := Lib.hid (vlen0 (n := n) (by omega))
    go_enter Try.func16, Try.ntmps16
    go_wp2_with fail
    refine (reflen_any n _ h0 hn).mono ?_
    rintro e w' ⟨rfl, rfl⟩
    rw [HZ.out]
    go_wp2_with fail
    refine (in0_any n l A c _ hr hl).mono ?_
    rintro e w' ⟨A', c', rfl, hown, hbel⟩
    go_wp2
    go_ret
    rw [h0'.out]
    exact ⟨A', c', rfl, by simpa [vbytes] using hown, hbel⟩
end Go.Proofs.Ythidklmbdgjilaa
