/- varint.Put lays each number of 64 bits behind a slice, in new memory, in as many bytes as it must have (none above MaxVar). -/
import Derived.Test.YthidklmbdgjilaaVarD
namespace Go.Proofs.Ythidklmbdgjilaa
open Go.RowKit

def vl (n : Int) : Nat := (vlen n).toNat
theorem vlen_nn (n : Int) : 0 ≤ vlen n := by unfold vlen; (repeat' split) <;> omega
theorem vl_cast (n : Int) : ((vl n : Nat) : Int) = vlen n := Int.toNat_of_nonneg (vlen_nn n)
theorem vl_zero {n : Int} (h : 4611686018427387903 < n) : vl n = 0 := by unfold vl; rw [vlen0 (by omega)]; rfl
theorem vl_fit {n : Int} (h : n ≤ 4611686018427387903) : (vl n = 1 ∨ vl n = 2 ∨ vl n = 4 ∨ vl n = 8) ∧ n < 2 ^ (8 * vl n - 2) := by
  by_cases c1 : n < 64
  · have : vl n = 1 := by unfold vl; rw [vlen1 c1]; rfl
    rw [this]; exact ⟨by omega, by simp only [Nat.reduceMul, Nat.reduceSub, Int.reducePow]; omega⟩
  by_cases c2 : n < 16384
  · have : vl n = 2 := by unfold vl; rw [vlen2 (by omega) c2]; rfl
    rw [this]; exact ⟨by omega, by simp only [Nat.reduceMul, Nat.reduceSub, Int.reducePow]; omega⟩
  by_cases c3 : n < 1073741824
  · have : vl n = 4 := by unfold vl; rw [vlen4 (by omega) c3]; rfl
    rw [this]; exact ⟨by omega, by simp only [Nat.reduceMul, Nat.reduceSub, Int.reducePow]; omega⟩
  · have : vl n = 8 := by unfold vl; rw [vlen8 (by omega) h]; rfl
    rw [this]; exact ⟨by omega, by simp only [Nat.reduceMul, Nat.reduceSub, Int.reducePow]; omega⟩

theorem vl_bd (n : Int) : vl n ≤ 8 := by
  by_cases h : n ≤ 4611686018427387903
  · have := (vl_fit h).1; omega
  · rw [vl_zero (by omega)]; omega

theorem RetS.of_drewN {E : TypeId} {w : World} {k n : Nat} {xs : List Value} {e : Ending} {w' : World} (h : RetS E (w.drewN k) n xs e w') : RetS E w n xs e w' := by
  obtain ⟨A, c, he, ho, hb⟩ := h
  exact ⟨A, c, he, ho, ⟨hb.os, hb.tape, hb.output, hb.size, hb.block⟩⟩

set_option maxHeartbeats 400000 in
theorem putlen0_any (n : Int) (l : List UInt8) (A : Option Addr) (c : Nat) (w : World) (hr : Rd w A (bv l)) (hl : l.length ≤ 70368744177664) :
    Calls Try.prog 20 #[.slice A l.length c, .int .u64 n, .int .i64 0] w (RetS 5 w l.length (bv l)) := by
  go_enter Try.func20, Try.ntmps20
  go_wp2_with (at_builtin; refine wpList_app _ rfl _ _ 23 rfl w.heap.size 5 (.int .u8 0) 1 infoB Try.underlying23 rfl (.slice none 0 0) 0 [] rfl (World.ownsRow_nil _ _ _ _) A l.length c (bv l) rfl (by simp) hr (bv_one l) (by unfold maxLen; omega) (by omega) (Nat.le_refl _) ?_; intro A' c' w1 hown hgrow hat)
  have hbel := (Below.refl w.heap.size w).grown hgrow (Nat.le_refl _) (fun k hk => by simp [Value.ownBlock] at hk)
  simp only [Nat.zero_add, List.nil_append] at hown
  clear hgrow hat
  refine wp_loop_rounds 1 ?_
  rw [rounds_succ]
  go_wp2
  go_ret
  exact ⟨A', c', rfl, hown, hbel⟩

set_option maxHeartbeats 400000 in
theorem put_any (n : Int) (l : List UInt8) (A : Option Addr) (c : Nat) (w : World) (hr : Rd w A (bv l)) (hl : l.length ≤ 70368744177664) (h0 : 0 ≤ n) (hn : n ≤ 18446744073709551615) :
    Calls Try.prog 14 #[.slice A l.length c, .int .u64 n] w (RetS 5 w (l.length + vl n) (bv (l ++ vbytes n (vl n)))) := by
  have HV := Lib.hid (vl_cast n)
  by_cases hm : n ≤ 4611686018427387903
  · have HF := Lib.hid (vl_fit hm)
    go_enter Try.func14, Try.ntmps14
    go_wp2_with fail
    refine (vlen_any n _ h0 hn).mono ?_
    rintro e w' ⟨rfl, k, rfl⟩
    rw [← HV.out]
    go_wp2_with fail
    refine (putlen_any n (vl n) l A c _ (hr.drewN k) hl h0 hm HF.out.1 HF.out.2).mono ?_
    rintro e w' ⟨A', c', rfl, hown, hbel⟩
    go_wp2
    go_ret
    exact RetS.of_drewN ⟨A', c', rfl, hown, hbel⟩
  · have h0' := Lib.hid (vl_zero (n := n) (by omega))
    have HZ := Lib.hid (vlen0 (n := n) (by omega))
    go_enter Try.func14, Try.ntmps14
    go_wp2_with fail
    refine (vlen_any n _ h0 hn).mono ?_
    rintro e w' ⟨rfl, k, rfl⟩
    rw [HZ.out]
    go_wp2_with fail
    refine (putlen0_any n l A c _ (hr.drewN k) hl).mono ?_
    rintro e w' ⟨A', c', rfl, hown, hbel⟩
    go_wp2
    go_ret
    rw [h0'.out]
    exact RetS.of_drewN ⟨A', c', rfl, by simpa [vbytes] using hown, hbel⟩
end Go.Proofs.Ythidklmbdgjilaa
