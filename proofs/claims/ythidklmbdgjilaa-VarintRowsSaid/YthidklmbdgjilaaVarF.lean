/- The reference's In lays a number that fits in 1, 2, 4 or 8 bytes behind a slice, in new memory. -/
import Derived.Test.YthidklmbdgjilaaVarE
namespace Go.Proofs.Ythidklmbdgjilaa
open Go.RowKit

theorem or0 (a : Int) (h0 : 0 ≤ a) (h1 : a < 64) : bits .or .u8 (a % 64) 0 = a := by
  rw [Int.emod_eq_of_lt h0 h1]; have := u8_join a 0 h0 h1 (by omega) (by omega); simpa using this
theorem or64 (a : Int) (h0 : 0 ≤ a) (h1 : a < 64) : bits .or .u8 (a % 64) 64 = a + 64 := by
  rw [Int.emod_eq_of_lt h0 h1]; exact u8_join a 1 h0 h1 (by omega) (by omega)
theorem or128 (a : Int) (h0 : 0 ≤ a) (h1 : a < 64) : bits .or .u8 (a % 64) 128 = a + 128 := by
  rw [Int.emod_eq_of_lt h0 h1]; exact u8_join a 2 h0 h1 (by omega) (by omega)
theorem or192 (a : Int) (h0 : 0 ≤ a) (h1 : a < 64) : bits .or .u8 (a % 64) 192 = a + 192 := by
  rw [Int.emod_eq_of_lt h0 h1]; exact u8_join a 3 h0 h1 (by omega) (by omega)
theorem inhd1 (n : Int) (h0 : 0 ≤ n) (h : n < 64) : ((vbyte n 1 0).toNat : Int) = bits .or .u8 (n % 64) 0 := by
  have e := vbyte_zero n 1 h0 (by omega) (by simp only [Nat.reduceMul, Nat.reduceSub, Int.reducePow]; omega)
  simp only [Nat.reduceMul, Nat.reduceSub, Int.reducePow] at e
  rw [or0 (n) (by omega) (by omega), e]; simp [vmark]
theorem inhd2 (n : Int) (h0 : 0 ≤ n) (h : n < 16384) : ((vbyte n 2 0).toNat : Int) = bits .or .u8 (n / 256 % 64) 64 := by
  have e := vbyte_zero n 2 h0 (by omega) (by simp only [Nat.reduceMul, Nat.reduceSub, Int.reducePow]; omega)
  simp only [Nat.reduceMul, Nat.reduceSub, Int.reducePow] at e
  rw [or64 (n / 256) (by omega) (by omega), e]; simp [vmark]
theorem inhd4 (n : Int) (h0 : 0 ≤ n) (h : n < 1073741824) : ((vbyte n 4 0).toNat : Int) = bits .or .u8 (n / 16777216 % 64) 128 := by
  have e := vbyte_zero n 4 h0 (by omega) (by simp only [Nat.reduceMul, Nat.reduceSub, Int.reducePow]; omega)
  simp only [Nat.reduceMul, Nat.reduceSub, Int.reducePow] at e
  rw [or128 (n / 16777216) (by omega) (by omega), e]; simp [vmark]
theorem inhd8 (n : Int) (h0 : 0 ≤ n) (h : n ≤ 4611686018427387903) : ((vbyte n 8 0).toNat : Int) = bits .or .u8 (n / 72057594037927936 % 64) 192 := by
  have e := vbyte_zero n 8 h0 (by omega) (by simp only [Nat.reduceMul, Nat.reduceSub, Int.reducePow]; omega)
  simp only [Nat.reduceMul, Nat.reduceSub, Int.reducePow] at e
  rw [or192 (n / 72057594037927936) (by omega) (by omega), e]; simp [vmark]

set_option maxHeartbeats 1000000 in
theorem in1_any (n : Int) (l : List UInt8) (A : Option Addr) (c : Nat) (w : World) (hr : Rd w A (bv l)) (hl : l.length ≤ 70368744177664) (h0 : 0 ≤ n) (hn : n < 64) :
    Calls Try.prog 18 #[.slice A l.length c, .int .u64 n, .int .i64 1] w (RetS 5 w (l.length + 1) (bv (l ++ vbytes n 1))) := by
  go_enter Try.func18, Try.ntmps18
  go_wp2_with (at_builtin; refine wpList_app _ rfl _ _ 23 rfl w.heap.size 5 (.int .u8 0) 1 infoB Try.underlying23 rfl (.slice none 0 0) 0 [] rfl (World.ownsRow_nil _ _ _ _) A l.length c (bv l) rfl (by simp) hr (bv_one l) (by unfold maxLen; omega) (by omega) (Nat.le_refl _) ?_; intro A' c' w1 hown hgrow hat)
  have hbel := (Below.refl w.heap.size w).grown hgrow (Nat.le_refl _) (fun k hk => by simp [Value.ownBlock] at hk)
  simp only [Nat.zero_add, List.nil_append] at hown
  clear hgrow hat
  go_loopw [7, 8] (fun v i wr => ∃ (k : Nat) (A' : Option Addr) (c' : Nat), k ≤ 1 ∧ i = .int .i64 (0 - (k : Int)) ∧ v = .slice A' (l.length + k) c' ∧ wr.ownsRow w.heap.size 5 1 (.slice A' (l.length + k) c') (l.length + k) (bv (l ++ (vbytes n 1).take k)) ∧ Below w.heap.size w wr) (fun _ i _ => ((intOf i) + 1).toNat)
  case atStart => exact ⟨0, A', c', by omega, rfl, rfl, by simpa using hown, hbel⟩
  case round =>
    clear hown hbel
    obtain ⟨k, A2, c2, hk, rfl, rfl, hown, hbel⟩ := hrel
    have hsz := hbel.size
    by_cases hkm : k < 1
    · by_cases hk0 : k = 0
      · subst hk0
        simp only [Nat.add_zero] at hown
        simp only [Nat.add_zero, Int.natCast_zero, Int.sub_zero]
        go_wp2_with fail
        refine wp_loop_rounds 1 ?_
        iterate 0 (rw [rounds_succ]; go_wp2_with fail)
        rw [rounds_succ]
        go_wp2_with (at_builtin; refine wpList_app _ rfl _ _ 23 rfl w.heap.size 5 (.int .u8 0) 1 infoB Try.underlying23 rfl (.slice A2 l.length c2) l.length _ rfl (hown.alloc _) (some ⟨wr.heap.size, 0, none⟩) 1 1 [.int .u8 _] rfl rfl (Rd.fresh _ _ _) (one_int _ _) (by unfold maxLen; omega) (by omega) (by simp; omega) ?_; intro A3 c3 w3 hown3 hgrow3 _)
        have R := put_step (m := 1) (k := 0) (by omega) (inhd1 n h0 hn) hbel hsz hown hown3 hgrow3
        clear hown3 hgrow3 hown hbel
        go_wp2
        go_roundw
        case rel => exact ⟨1, A3, c3, by omega, by go_num, rfl, R.1, R.2⟩
        case measure => simp [intOf]
      · omega
    · have : k = 1 := by omega
      subst this
      go_wp2
      go_ret
      exact ⟨A2, c2, rfl, by simpa [vbytes_length, List.take_of_length_le] using hown, hbel⟩

set_option maxHeartbeats 1000000 in
theorem in2_any (n : Int) (l : List UInt8) (A : Option Addr) (c : Nat) (w : World) (hr : Rd w A (bv l)) (hl : l.length ≤ 70368744177664) (h0 : 0 ≤ n) (hn : n < 16384) :
    Calls Try.prog 18 #[.slice A l.length c, .int .u64 n, .int .i64 2] w (RetS 5 w (l.length + 2) (bv (l ++ vbytes n 2))) := by
  go_enter Try.func18, Try.ntmps18
  go_wp2_with (at_builtin; refine wpList_app _ rfl _ _ 23 rfl w.heap.size 5 (.int .u8 0) 1 infoB Try.underlying23 rfl (.slice none 0 0) 0 [] rfl (World.ownsRow_nil _ _ _ _) A l.length c (bv l) rfl (by simp) hr (bv_one l) (by unfold maxLen; omega) (by omega) (Nat.le_refl _) ?_; intro A' c' w1 hown hgrow hat)
  have hbel := (Below.refl w.heap.size w).grown hgrow (Nat.le_refl _) (fun k hk => by simp [Value.ownBlock] at hk)
  simp only [Nat.zero_add, List.nil_append] at hown
  clear hgrow hat
  go_loopw [7, 8] (fun v i wr => ∃ (k : Nat) (A' : Option Addr) (c' : Nat), k ≤ 2 ∧ i = .int .i64 (1 - (k : Int)) ∧ v = .slice A' (l.length + k) c' ∧ wr.ownsRow w.heap.size 5 1 (.slice A' (l.length + k) c') (l.length + k) (bv (l ++ (vbytes n 2).take k)) ∧ Below w.heap.size w wr) (fun _ i _ => ((intOf i) + 1).toNat)
  case atStart => exact ⟨0, A', c', by omega, rfl, rfl, by simpa using hown, hbel⟩
  case round =>
    clear hown hbel
    obtain ⟨k, A2, c2, hk, rfl, rfl, hown, hbel⟩ := hrel
    have hsz := hbel.size
    by_cases hkm : k < 2
    · by_cases hk0 : k = 0
      · subst hk0
        simp only [Nat.add_zero] at hown
        simp only [Nat.add_zero, Int.natCast_zero, Int.sub_zero]
        go_wp2_with fail
        refine wp_loop_rounds 2 ?_
        iterate 1 (rw [rounds_succ]; go_wp2_with fail)
        rw [rounds_succ]
        go_wp2_with (at_builtin; refine wpList_app _ rfl _ _ 23 rfl w.heap.size 5 (.int .u8 0) 1 infoB Try.underlying23 rfl (.slice A2 l.length c2) l.length _ rfl (hown.alloc _) (some ⟨wr.heap.size, 0, none⟩) 1 1 [.int .u8 _] rfl rfl (Rd.fresh _ _ _) (one_int _ _) (by unfold maxLen; omega) (by omega) (by simp; omega) ?_; intro A3 c3 w3 hown3 hgrow3 _)
        have R := put_step (m := 2) (k := 0) (by omega) (inhd2 n h0 hn) hbel hsz hown hown3 hgrow3
        clear hown3 hgrow3 hown hbel
        go_wp2
        go_roundw
        case rel => exact ⟨1, A3, c3, by omega, by go_num, rfl, R.1, R.2⟩
        case measure => simp [intOf]
      · have hz : ((1 - (k : Int)) == 1) = false := by rw [beq_eq_false_iff_ne]; omega
        go_wp2_with (at_builtin; refine wpList_app _ rfl _ _ 23 rfl w.heap.size 5 (.int .u8 0) 1 infoB Try.underlying23 rfl (.slice A2 (l.length + k) c2) (l.length + k) _ rfl (hown.alloc _) (some ⟨wr.heap.size, 0, none⟩) 1 1 [.int .u8 _] rfl rfl (Rd.fresh _ _ _) (one_int _ _) (by unfold maxLen; omega) (by omega) (by simp; omega) ?_; intro A3 c3 w3 hown3 hgrow3 _)
        have R := put_step hkm (vbyte_pos n 2 k h0 hk0) hbel hsz hown hown3 hgrow3
        clear hown3 hgrow3 hown hbel
        go_wp2
        go_roundw
        case rel => exact ⟨k + 1, A3, c3, by omega, by go_num, rfl, R.1, R.2⟩
        case measure => simp [intOf]; omega
    · have : k = 2 := by omega
      subst this
      go_wp2
      go_ret
      exact ⟨A2, c2, rfl, by simpa [vbytes_length, List.take_of_length_le] using hown, hbel⟩

set_option maxHeartbeats 1000000 in
theorem in4_any (n : Int) (l : List UInt8) (A : Option Addr) (c : Nat) (w : World) (hr : Rd w A (bv l)) (hl : l.length ≤ 70368744177664) (h0 : 0 ≤ n) (hn : n < 1073741824) :
    Calls Try.prog 18 #[.slice A l.length c, .int .u64 n, .int .i64 4] w (RetS 5 w (l.length + 4) (bv (l ++ vbytes n 4))) := by
  go_enter Try.func18, Try.ntmps18
  go_wp2_with (at_builtin; refine wpList_app _ rfl _ _ 23 rfl w.heap.size 5 (.int .u8 0) 1 infoB Try.underlying23 rfl (.slice none 0 0) 0 [] rfl (World.ownsRow_nil _ _ _ _) A l.length c (bv l) rfl (by simp) hr (bv_one l) (by unfold maxLen; omega) (by omega) (Nat.le_refl _) ?_; intro A' c' w1 hown hgrow hat)
  have hbel := (Below.refl w.heap.size w).grown hgrow (Nat.le_refl _) (fun k hk => by simp [Value.ownBlock] at hk)
  simp only [Nat.zero_add, List.nil_append] at hown
  clear hgrow hat
  go_loopw [7, 8] (fun v i wr => ∃ (k : Nat) (A' : Option Addr) (c' : Nat), k ≤ 4 ∧ i = .int .i64 (3 - (k : Int)) ∧ v = .slice A' (l.length + k) c' ∧ wr.ownsRow w.heap.size 5 1 (.slice A' (l.length + k) c') (l.length + k) (bv (l ++ (vbytes n 4).take k)) ∧ Below w.heap.size w wr) (fun _ i _ => ((intOf i) + 1).toNat)
  case atStart => exact ⟨0, A', c', by omega, rfl, rfl, by simpa using hown, hbel⟩
  case round =>
    clear hown hbel
    obtain ⟨k, A2, c2, hk, rfl, rfl, hown, hbel⟩ := hrel
    have hsz := hbel.size
    by_cases hkm : k < 4
    · by_cases hk0 : k = 0
      · subst hk0
        simp only [Nat.add_zero] at hown
        simp only [Nat.add_zero, Int.natCast_zero, Int.sub_zero]
        go_wp2_with fail
        refine wp_loop_rounds 3 ?_
        iterate 2 (rw [rounds_succ]; go_wp2_with fail)
        rw [rounds_succ]
        go_wp2_with (at_builtin; refine wpList_app _ rfl _ _ 23 rfl w.heap.size 5 (.int .u8 0) 1 infoB Try.underlying23 rfl (.slice A2 l.length c2) l.length _ rfl (hown.alloc _) (some ⟨wr.heap.size, 0, none⟩) 1 1 [.int .u8 _] rfl rfl (Rd.fresh _ _ _) (one_int _ _) (by unfold maxLen; omega) (by omega) (by simp; omega) ?_; intro A3 c3 w3 hown3 hgrow3 _)
        have R := put_step (m := 4) (k := 0) (by omega) (inhd4 n h0 hn) hbel hsz hown hown3 hgrow3
        clear hown3 hgrow3 hown hbel
        go_wp2
        go_roundw
        case rel => exact ⟨1, A3, c3, by omega, by go_num, rfl, R.1, R.2⟩
        case measure => simp [intOf]
      · have hz : ((3 - (k : Int)) == 3) = false := by rw [beq_eq_false_iff_ne]; omega
        go_wp2_with (at_builtin; refine wpList_app _ rfl _ _ 23 rfl w.heap.size 5 (.int .u8 0) 1 infoB Try.underlying23 rfl (.slice A2 (l.length + k) c2) (l.length + k) _ rfl (hown.alloc _) (some ⟨wr.heap.size, 0, none⟩) 1 1 [.int .u8 _] rfl rfl (Rd.fresh _ _ _) (one_int _ _) (by unfold maxLen; omega) (by omega) (by simp; omega) ?_; intro A3 c3 w3 hown3 hgrow3 _)
        have R := put_step hkm (vbyte_pos n 4 k h0 hk0) hbel hsz hown hown3 hgrow3
        clear hown3 hgrow3 hown hbel
        go_wp2
        go_roundw
        case rel => exact ⟨k + 1, A3, c3, by omega, by go_num, rfl, R.1, R.2⟩
        case measure => simp [intOf]; omega
    · have : k = 4 := by omega
      subst this
      go_wp2
      go_ret
      exact ⟨A2, c2, rfl, by simpa [vbytes_length, List.take_of_length_le] using hown, hbel⟩

set_option maxHeartbeats 1000000 in
theorem in8_any (n : Int) (l : List UInt8) (A : Option Addr) (c : Nat) (w : World) (hr : Rd w A (bv l)) (hl : l.length ≤ 70368744177664) (h0 : 0 ≤ n) (hn : n ≤ 4611686018427387903) :
    Calls Try.prog 18 #[.slice A l.length c, .int .u64 n, .int .i64 8] w (RetS 5 w (l.length + 8) (bv (l ++ vbytes n 8))) := by
  go_enter Try.func18, Try.ntmps18
  go_wp2_with (at_builtin; refine wpList_app _ rfl _ _ 23 rfl w.heap.size 5 (.int .u8 0) 1 infoB Try.underlying23 rfl (.slice none 0 0) 0 [] rfl (World.ownsRow_nil _ _ _ _) A l.length c (bv l) rfl (by simp) hr (bv_one l) (by unfold maxLen; omega) (by omega) (Nat.le_refl _) ?_; intro A' c' w1 hown hgrow hat)
  have hbel := (Below.refl w.heap.size w).grown hgrow (Nat.le_refl _) (fun k hk => by simp [Value.ownBlock] at hk)
  simp only [Nat.zero_add, List.nil_append] at hown
  clear hgrow hat
  go_loopw [7, 8] (fun v i wr => ∃ (k : Nat) (A' : Option Addr) (c' : Nat), k ≤ 8 ∧ i = .int .i64 (7 - (k : Int)) ∧ v = .slice A' (l.length + k) c' ∧ wr.ownsRow w.heap.size 5 1 (.slice A' (l.length + k) c') (l.length + k) (bv (l ++ (vbytes n 8).take k)) ∧ Below w.heap.size w wr) (fun _ i _ => ((intOf i) + 1).toNat)
  case atStart => exact ⟨0, A', c', by omega, rfl, rfl, by simpa using hown, hbel⟩
  case round =>
    clear hown hbel
    obtain ⟨k, A2, c2, hk, rfl, rfl, hown, hbel⟩ := hrel
    have hsz := hbel.size
    by_cases hkm : k < 8
    · by_cases hk0 : k = 0
      · subst hk0
        simp only [Nat.add_zero] at hown
        simp only [Nat.add_zero, Int.natCast_zero, Int.sub_zero]
        go_wp2_with fail
        refine wp_loop_rounds 4 ?_
        iterate 3 (rw [rounds_succ]; go_wp2_with fail)
        rw [rounds_succ]
        go_wp2_with (at_builtin; refine wpList_app _ rfl _ _ 23 rfl w.heap.size 5 (.int .u8 0) 1 infoB Try.underlying23 rfl (.slice A2 l.length c2) l.length _ rfl (hown.alloc _) (some ⟨wr.heap.size, 0, none⟩) 1 1 [.int .u8 _] rfl rfl (Rd.fresh _ _ _) (one_int _ _) (by unfold maxLen; omega) (by omega) (by simp; omega) ?_; intro A3 c3 w3 hown3 hgrow3 _)
        have R := put_step (m := 8) (k := 0) (by omega) (inhd8 n h0 hn) hbel hsz hown hown3 hgrow3
        clear hown3 hgrow3 hown hbel
        go_wp2
        go_roundw
        case rel => exact ⟨1, A3, c3, by omega, by go_num, rfl, R.1, R.2⟩
        case measure => simp [intOf]
      · have hz : ((7 - (k : Int)) == 7) = false := by rw [beq_eq_false_iff_ne]; omega
        go_wp2_with (at_builtin; refine wpList_app _ rfl _ _ 23 rfl w.heap.size 5 (.int .u8 0) 1 infoB Try.underlying23 rfl (.slice A2 (l.length + k) c2) (l.length + k) _ rfl (hown.alloc _) (some ⟨wr.heap.size, 0, none⟩) 1 1 [.int .u8 _] rfl rfl (Rd.fresh _ _ _) (one_int _ _) (by unfold maxLen; omega) (by omega) (by simp; omega) ?_; intro A3 c3 w3 hown3 hgrow3 _)
        have R := put_step hkm (vbyte_pos n 8 k h0 hk0) hbel hsz hown hown3 hgrow3
        clear hown3 hgrow3 hown hbel
        go_wp2
        go_roundw
        case rel => exact ⟨k + 1, A3, c3, by omega, by go_num, rfl, R.1, R.2⟩
        case measure => simp [intOf]; omega
    · have : k = 8 := by omega
      subst this
      go_wp2
      go_ret
      exact ⟨A2, c2, rfl, by simpa [vbytes_length, List.take_of_length_le] using hown, hbel⟩
end Go.Proofs.Ythidklmbdgjilaa
