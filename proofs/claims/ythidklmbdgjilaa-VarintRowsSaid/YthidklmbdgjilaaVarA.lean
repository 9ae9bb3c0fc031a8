/- How many bits a number has, as math/bits tells it; how long a number is laid. Plain arithmetic, and the walks of Low, the reference's Len and math/bits.Len64: each returns what is typed here, at every number of its kind. -/
import Derived.Test.YthidklmbdgjilaaLib
namespace Go.Proofs.Ythidklmbdgjilaa
open Go.RowKit

def vlen (n : Int) : Int := if n < 64 then 1 else if n < 16384 then 2 else if n < 1073741824 then 4 else if n < 4611686018427387904 then 8 else 0

theorem vlen1 {n : Int} (h : n < 64) : vlen n = 1 := by unfold vlen; rw [if_pos h]
theorem vlen2 {n : Int} (h0 : 64 ≤ n) (h : n < 16384) : vlen n = 2 := by unfold vlen; rw [if_neg (by omega), if_pos h]
theorem vlen4 {n : Int} (h0 : 16384 ≤ n) (h : n < 1073741824) : vlen n = 4 := by unfold vlen; rw [if_neg (by omega), if_neg (by omega), if_pos h]
theorem vlen8 {n : Int} (h0 : 1073741824 ≤ n) (h : n ≤ 4611686018427387903) : vlen n = 8 := by unfold vlen; rw [if_neg (by omega), if_neg (by omega), if_neg (by omega), if_pos (by omega)]
theorem vlen0 {n : Int} (h0 : 4611686018427387904 ≤ n) : vlen n = 0 := by unfold vlen; rw [if_neg (by omega), if_neg (by omega), if_neg (by omega), if_neg (by omega)]

def len8 (x : Int) : Int := if x < 1 then 0 else if x < 2 then 1 else if x < 4 then 2 else if x < 8 then 3 else if x < 16 then 4 else if x < 32 then 5 else if x < 64 then 6 else if x < 128 then 7 else 8
theorem len8_le (x : Int) : 0 ≤ len8 x ∧ len8 x ≤ 8 := by unfold len8; repeat' split <;> omega
def len16 (x : Int) : Int := if 256 ≤ x then 8 + len8 (x / 256) else len8 x
def len32 (x : Int) : Int := if 65536 ≤ x then 16 + len16 (x / 65536) else len16 x
def len64 (x : Int) : Int := if 4294967296 ≤ x then 32 + len32 (x / 4294967296) else len32 x
theorem len16_le (x : Int) : 0 ≤ len16 x ∧ len16 x ≤ 16 := by
  unfold len16; have := len8_le (x / 256); have := len8_le x; split <;> omega
theorem len32_le (x : Int) : 0 ≤ len32 x ∧ len32 x ≤ 32 := by
  unfold len32; have := len16_le (x / 65536); have := len16_le x; split <;> omega
theorem len64_le (x : Int) : 0 ≤ len64 x ∧ len64 x ≤ 64 := by
  unfold len64; have := len32_le (x / 4294967296); have := len32_le x; split <;> omega

theorem len8_6 (x : Int) : len8 x ≤ 6 ↔ x < 64 := by unfold len8; constructor <;> intro h <;> (repeat' split at h) <;> (repeat' split) <;> omega
theorem len8_pos (x : Int) : 1 ≤ len8 x ↔ 1 ≤ x := by unfold len8; constructor <;> intro h <;> (repeat' split at h) <;> (repeat' split) <;> omega
theorem len16_6 (x : Int) : len16 x ≤ 6 ↔ x < 64 := by
  unfold len16; have h1 := len8_pos (x / 256); have := len8_6 x; have := len8_le (x/256); split <;> omega
theorem len16_14 (x : Int) : len16 x ≤ 14 ↔ x < 16384 := by
  unfold len16; have := len8_6 (x / 256); have := len8_le x; split <;> omega
theorem len16_pos (x : Int) : 1 ≤ len16 x ↔ 1 ≤ x := by
  unfold len16; have := len8_pos (x / 256); have := len8_pos x; have := len8_le (x/256); split <;> omega
theorem len64_6 (x : Int) : len64 x ≤ 6 ↔ x < 64 := by
  unfold len64 len32; have := len16_6 x; have := len16_le (x / 65536); have := len16_le (x / 4294967296); have := len16_le (x / 4294967296 / 65536); (repeat' split) <;> omega
theorem len64_14 (x : Int) : len64 x ≤ 14 ↔ x < 16384 := by
  unfold len64 len32; have := len16_14 x; have := len16_le (x / 65536); have := len16_le (x / 4294967296); have := len16_le (x / 4294967296 / 65536); (repeat' split) <;> omega
theorem len64_30 (x : Int) : len64 x ≤ 30 ↔ x < 1073741824 := by
  unfold len64 len32; have := len16_14 (x / 65536); have := len16_le x; have := len16_le (x / 65536); have := len16_le (x / 4294967296); have := len16_le (x / 4294967296 / 65536); (repeat' split) <;> omega
theorem len64_62 (x : Int) : len64 x ≤ 62 ↔ x < 4611686018427387904 := by
  unfold len64 len32; have := len16_14 (x / 4294967296 / 65536); have := len16_le x; have := len16_le (x / 65536); have := len16_le (x / 4294967296); have := len16_le (x / 4294967296 / 65536); (repeat' split) <;> omega

def low (x n : Int) : Int := wrap64 ((IntKind.u64.wrap x).tmod n)
theorem low_bd (x n : Int) (hn : 1 ≤ n) (hm : n ≤ 4611686018427387904) : 0 ≤ low x n ∧ low x n < n := by
  have h0 : 0 ≤ IntKind.u64.wrap x := by rw [IntKind.wrap_u64]; omega
  unfold low
  rw [Int.tmod_eq_emod_of_nonneg h0]
  have h1 := Int.emod_nonneg (IntKind.u64.wrap x) (show n ≠ 0 by omega)
  have h2 := Int.emod_lt_of_pos (IntKind.u64.wrap x) (show 0 < n by omega)
  rw [IntWalk.wrap64_in _ (by omega)]
  exact ⟨h1, h2⟩

set_option maxHeartbeats 400000 in
theorem low_any (x n : Int) (w : World) (hn : 1 ≤ n) (hm : n ≤ 4611686018427387904) :
    Calls Try.prog 17 #[.int .i64 x, .int .i64 n] w fun e w' => e = .returned (.int .i64 (low x n)) ∧ w = w' := by
  go_enter Try.func17, Try.ntmps17
  go_wp2
  go_ret
  exact ⟨rfl, rfl⟩

set_option maxHeartbeats 400000 in
theorem reflen_any (n : Int) (w : World) (h0 : 0 ≤ n) (hn : n ≤ 18446744073709551615) :
    Calls Try.prog 12 #[.int .u64 n] w fun e w' => e = .returned (.int .i64 (vlen n)) ∧ w = w' := by
  go_enter Try.func12, Try.ntmps12
  go_wp2
  all_goals go_ret
  · exact ⟨ret_int (vlen1 (by omega)).symm, rfl⟩
  · exact ⟨ret_int (vlen2 (by omega) (by omega)).symm, rfl⟩
  · exact ⟨ret_int (vlen4 (by omega) (by omega)).symm, rfl⟩
  · exact ⟨ret_int (vlen8 (by omega) (by omega)).symm, rfl⟩
  · exact ⟨ret_int (vlen0 (by omega)).symm, rfl⟩

theorem tab_fin {B : ByteArray} (hB : ∀ i : Nat, i < 256 → (B.data.toList.getD i 0).toNat = (len8 i).toNat) (hs : B.size = 256) {x : Int} (h0 : 0 ≤ x) (hx : x < 256) {h : x.toNat < B.size} :
    ((B[x.toNat]'h).toNat : Int) = len8 x := by
  have e : B[x.toNat]'h = B.data.toList.getD x.toNat 0 := by
    have h' : x.toNat < B.data.size := h
    simp [List.getD, ByteArray.getElem_eq_getElem_data]
    rw [Array.getElem?_eq_getElem h']; rfl
  rw [e, hB _ (by omega)]
  have := len8_le x
  have hx' : ((x.toNat : Nat) : Int) = x := by omega
  rw [hx']
  omega

set_option maxRecDepth 100000 in
set_option maxHeartbeats 400000 in
theorem len64_any (n : Int) (w : World) (h0 : 0 ≤ n) (hn : n ≤ 18446744073709551615) :
    Calls Try.prog 19 #[.int .u64 n] w fun e w' => e = .returned (.int .i64 (len64 n)) ∧ w = w' := by
  go_enter Try.func19, Try.ntmps19
  go_wp2
  all_goals go_ret
  all_goals refine ⟨ret_int ?_, rfl⟩
  all_goals rw [tab_fin (by decide) rfl (by omega) (by omega)]
  all_goals (have hb1 := len8_le (n / 4294967296 / 65536 / 256); have hb2 := len8_le (n / 4294967296 / 65536); have hb3 := len8_le (n / 4294967296 / 256); have hb4 := len8_le (n / 4294967296))
  all_goals (have hb5 := len8_le (n / 65536 / 256); have hb6 := len8_le (n / 65536); have hb7 := len8_le (n / 256); have hb8 := len8_le n)
  all_goals (rw [IntWalk.wrap64_in (len8 _) (by omega), IntWalk.wrap64_in _ (by omega)]; unfold len64 len32 len16; (repeat' split) <;> omega)

end Go.Proofs.Ythidklmbdgjilaa
