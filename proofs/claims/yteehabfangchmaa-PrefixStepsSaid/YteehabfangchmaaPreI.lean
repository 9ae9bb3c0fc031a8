/- PrefixSteps returns true at every input; nothing old turns. -/
import Derived.Test.YteehabfangchmaaPreE
namespace Go.Proofs.Yteehabfangchmaa
open Go.RowKit

theorem phead_zero (b : Nat) : phead 0 b = 0 := by simp [phead]
/-- A number below 100,000 behind bits: in one byte, or in two, three, four. -/
theorem steps_list (b : Nat) (n : Int) (hb1 : 1 ≤ b) (hb8 : b ≤ 8) (hn0 : 0 ≤ n) (hn : n < 100000) :
    (n < 2 ^ b - 1 → pput 0 b n = [UInt8.ofNat n.toNat]) ∧
    (2 ^ b - 1 ≤ n → pput 0 b n = UInt8.ofNat ((2 : Int) ^ b - 1).toNat :: pcont 9 (n - (2 ^ b - 1))) := by
  constructor
  · intro h
    unfold pput pmost
    rw [if_pos h, phead_zero, Int.zero_add]
  · intro h
    unfold pput pmost
    rw [if_neg (by omega), phead_zero, Int.zero_add]
theorem pc1 (m : Int) (h : m < 128) : pcont 9 m = [UInt8.ofNat m.toNat] := pcont_last _ _ h
theorem pc2 (m : Int) (h : 128 ≤ m) (h2 : m < 16384) : pcont 9 m = [UInt8.ofNat (m % 128 + 128).toNat, UInt8.ofNat (m / 128).toNat] := by
  rw [pcont_more 8 m (by omega) (by omega), pcont_last _ _ (by omega)]
theorem pc3 (m : Int) (h : 16384 ≤ m) (h2 : m < 2097152) : pcont 9 m = [UInt8.ofNat (m % 128 + 128).toNat, UInt8.ofNat (m / 128 % 128 + 128).toNat, UInt8.ofNat (m / 128 / 128).toNat] := by
  rw [pcont_more 8 m (by omega) (by omega), pcont_more 7 (m / 128) (by omega) (by omega), pcont_last _ _ (by omega)]
theorem and127 (x : UInt8) : bits .and .u8 (x.toNat : Int) 127 = (x.toNat : Int) % 128 := by
  have hx := UInt8.toNat_lt x
  have e := u8_and_nat x.toNat 127 (by omega) (by omega)
  have e2 : x.toNat &&& 127 = x.toNat % 128 := Nat.and_two_pow_sub_one_eq_mod _ 7
  rw [show ((127 : Nat) : Int) = 127 from rfl] at e
  rw [e, e2]; simp
theorem bv_byte (n : Int) (h0 : 0 ≤ n) (h : n ≤ 255) : (#[Value.int .u8 n] : Array Value) = (bv [UInt8.ofNat n.toNat]).toArray := by
  simp only [bv, List.map_cons, List.map_nil, ofNat_val n h0 h]


set_option maxRecDepth 100000 in
set_option maxHeartbeats 2000000 in
theorem steps_one (b : Nat) (bits n n0 : Int) (w : World) (hb1 : 1 ≤ b) (hb8 : b ≤ 8) (hn0 : 0 ≤ n) (hn : n < 100000)
    (D1 : Hid (∀ w : World, Calls Try.prog 8 #[.int .i64 bits, .int .i64 8] w fun e w' => e = .returned (.int .i64 ((b : Int) - 1)) ∧ w = w'))
    (D2 : Hid (∀ w : World, Calls Try.prog 8 #[.int .i64 n0, .int .i64 100000] w fun e w' => e = .returned (.int .i64 n) ∧ w = w')) (h : n < 2 ^ b - 1) :
    Calls Try.prog 4 #[.int .i64 bits, .int .i64 n0] w fun e w' => e = .returned (.bool true) ∧ Below w.heap.size w w' := by
  have hP := pmost_bd b hb1 hb8
  have hl := (steps_list b n hb1 hb8 hn0 hn).1 h
  have C1 := Lib.hid (fun W => pput_any [] 0 b n none 0 W (Rd.nil _ _) (by decide) (by omega) (by omega) hb1 hb8 hn0 (by omega))
  simp only [List.nil_append] at C1
  rw [hl] at C1
  have hbb : 1 + ((b : Int) - 1) = b := by omega
  obtain ⟨P, hPe⟩ : ∃ P, (2 : Int) ^ b = P := ⟨_, rfl⟩
  rw [hPe] at hP h
  have HV := Lib.hid (bv_byte n hn0 (by omega))
  have e256 : n % 256 = n := by omega
  clear hl
  obtain ⟨x, hx⟩ : ∃ x, UInt8.ofNat n.toNat = x := ⟨_, rfl⟩
  rw [hx] at C1 HV
  clear hx
  go_enter Try.func4, Try.ntmps4
  go_wp2_with fail
  refine (D1.out _).mono ?_
  rintro e w' ⟨rfl, rfl⟩
  go_wp2_with fail
  refine (D2.out _).mono ?_
  rintro e w' ⟨rfl, rfl⟩
  go_wp2_with fail
  refine (C1.out _).mono ?_
  rintro e w1 ⟨A1, c1, rfl, ho1, hb1'⟩
  simp only [List.length_cons, List.length_nil, Nat.zero_add] at ho1 ⊢
  have hsz := hb1'.size
  go_wp2_with fail
  refine (same_any [x] [x] A1 _ c1 1 _ ?_ ?_ (by simp) (by simp)).mono ?_
  · exact (Rd.of_own ho1).alloc _
  · exact Rd.freshAt rfl _ _ HV.out
  rintro e w2 ⟨rfl, k, rfl⟩
  simp only [decide_true]
  go_wp2_with fail
  refine (awake_any _).mono ?_
  rintro e w10 ⟨rfl, hb10⟩
  go_wp2_with fail
  go_ret
  exact ⟨rfl, Fr.below ((((Fr.of_below hb1' NoS).alloc _).drewN _).trans (Fr.of_below hb10 _))⟩

set_option maxRecDepth 100000 in
set_option maxHeartbeats 4000000 in
theorem steps_2 (b : Nat) (bits n n0 P q0 q1 : Int) (x0 x1 : UInt8) (w : World) (hb1 : 1 ≤ b) (hb8 : b ≤ 8) (hn0 : 0 ≤ n) (hn : n < 100000)
    (D1 : Hid (∀ w : World, Calls Try.prog 8 #[.int .i64 bits, .int .i64 8] w fun e w' => e = .returned (.int .i64 ((b : Int) - 1)) ∧ w = w'))
    (D2 : Hid (∀ w : World, Calls Try.prog 8 #[.int .i64 n0, .int .i64 100000] w fun e w' => e = .returned (.int .i64 n) ∧ w = w'))
    (hPe : (2 : Int) ^ b = P) (hP : 2 ≤ P ∧ P ≤ 256) (h : P - 1 ≤ n) (C1 : Hid (∀ W, Calls Try.prog 9 #[.slice none 0 0, .int .u8 0, .int .i64 b, .int .u64 n] W (RetS 5 W 2 (bv [x0, x1]))))
    (v0 : (x0.toNat : Int) = q0) (v1 : (x1.toNat : Int) = q1) (hq0 : q0 = P - 1) (b1 : 0 ≤ q1 ∧ q1 ≤ 127) (hsum : P - 1 + q1 * 1 = n) :
    Calls Try.prog 4 #[.int .i64 bits, .int .i64 n0] w fun e w' => e = .returned (.bool true) ∧ Below w.heap.size w w' := by
  have hbb : 1 + ((b : Int) - 1) = b := by omega
  have a1 := and127 x1
  go_enter Try.func4, Try.ntmps4
  go_wp2_with fail
  refine (D1.out _).mono ?_
  rintro e w' ⟨rfl, rfl⟩
  go_wp2_with fail
  refine (D2.out _).mono ?_
  rintro e w' ⟨rfl, rfl⟩
  go_wp2_with fail
  refine (C1.out _).mono ?_
  rintro e w1 ⟨A1, c1, rfl, ho1, hb1'⟩
  have R1 := Rd.of_own ho1
  obtain ⟨bl, off, rfl, hcell⟩ := R1 (by simp)
  have g0 := hcell 0 _ (bv_get (k := 0) (by simp))
  have g1 := hcell 1 _ (bv_get (k := 1) (by simp))
  simp only [List.getElem_cons_zero, List.getElem_cons_succ, Nat.add_zero] at g0 g1
  rw [v0] at g0
  rw [v1] at g1
  rw [v1] at a1
  rw [show q1 % 128 = q1 from by omega] at a1
  subst hq0
  clear ho1 hcell R1
  go_wp2_with fail
  refine wp_loop_rounds 3 ?_
  iterate 2 (rw [rounds_succ]; go_wp2_with fail)
  refine (awake_any _).mono ?_
  rintro e w10 ⟨rfl, hb10⟩
  go_wp2_with fail
  go_ret
  exact ⟨rfl, Fr.below ((Fr.of_below hb1' NoS).trans (Fr.of_below hb10 _))⟩

set_option maxRecDepth 100000 in
set_option maxHeartbeats 4000000 in
theorem steps_3 (b : Nat) (bits n n0 P q0 q1 q2 : Int) (x0 x1 x2 : UInt8) (w : World) (hb1 : 1 ≤ b) (hb8 : b ≤ 8) (hn0 : 0 ≤ n) (hn : n < 100000)
    (D1 : Hid (∀ w : World, Calls Try.prog 8 #[.int .i64 bits, .int .i64 8] w fun e w' => e = .returned (.int .i64 ((b : Int) - 1)) ∧ w = w'))
    (D2 : Hid (∀ w : World, Calls Try.prog 8 #[.int .i64 n0, .int .i64 100000] w fun e w' => e = .returned (.int .i64 n) ∧ w = w'))
    (hPe : (2 : Int) ^ b = P) (hP : 2 ≤ P ∧ P ≤ 256) (h : P - 1 ≤ n) (C1 : Hid (∀ W, Calls Try.prog 9 #[.slice none 0 0, .int .u8 0, .int .i64 b, .int .u64 n] W (RetS 5 W 3 (bv [x0, x1, x2]))))
    (v0 : (x0.toNat : Int) = q0) (v1 : (x1.toNat : Int) = q1) (v2 : (x2.toNat : Int) = q2) (hq0 : q0 = P - 1) (b1 : 128 ≤ q1 ∧ q1 ≤ 255) (b2 : 1 ≤ q2 ∧ q2 ≤ 127) (hsum : P - 1 + (q1 - 128) * 1 + q2 * 128 = n) :
    Calls Try.prog 4 #[.int .i64 bits, .int .i64 n0] w fun e w' => e = .returned (.bool true) ∧ Below w.heap.size w w' := by
  have hbb : 1 + ((b : Int) - 1) = b := by omega
  have a1 := and127 x1
  have a2 := and127 x2
  go_enter Try.func4, Try.ntmps4
  go_wp2_with fail
  refine (D1.out _).mono ?_
  rintro e w' ⟨rfl, rfl⟩
  go_wp2_with fail
  refine (D2.out _).mono ?_
  rintro e w' ⟨rfl, rfl⟩
  go_wp2_with fail
  refine (C1.out _).mono ?_
  rintro e w1 ⟨A1, c1, rfl, ho1, hb1'⟩
  have R1 := Rd.of_own ho1
  obtain ⟨bl, off, rfl, hcell⟩ := R1 (by simp)
  have g0 := hcell 0 _ (bv_get (k := 0) (by simp))
  have g1 := hcell 1 _ (bv_get (k := 1) (by simp))
  have g2 := hcell 2 _ (bv_get (k := 2) (by simp))
  simp only [List.getElem_cons_zero, List.getElem_cons_succ, Nat.add_zero] at g0 g1 g2
  rw [v0] at g0
  rw [v1] at g1
  rw [v2] at g2
  rw [v1] at a1
  rw [v2] at a2
  rw [show q1 % 128 = q1 - 128 from by omega] at a1
  rw [show q2 % 128 = q2 from by omega] at a2
  subst hq0
  clear ho1 hcell R1
  go_wp2_with fail
  refine wp_loop_rounds 4 ?_
  iterate 3 (rw [rounds_succ]; go_wp2_with fail)
  refine (awake_any _).mono ?_
  rintro e w10 ⟨rfl, hb10⟩
  go_wp2_with fail
  go_ret
  exact ⟨rfl, Fr.below ((Fr.of_below hb1' NoS).trans (Fr.of_below hb10 _))⟩

set_option maxRecDepth 100000 in
set_option maxHeartbeats 4000000 in
theorem steps_4 (b : Nat) (bits n n0 P q0 q1 q2 q3 : Int) (x0 x1 x2 x3 : UInt8) (w : World) (hb1 : 1 ≤ b) (hb8 : b ≤ 8) (hn0 : 0 ≤ n) (hn : n < 100000)
    (D1 : Hid (∀ w : World, Calls Try.prog 8 #[.int .i64 bits, .int .i64 8] w fun e w' => e = .returned (.int .i64 ((b : Int) - 1)) ∧ w = w'))
    (D2 : Hid (∀ w : World, Calls Try.prog 8 #[.int .i64 n0, .int .i64 100000] w fun e w' => e = .returned (.int .i64 n) ∧ w = w'))
    (hPe : (2 : Int) ^ b = P) (hP : 2 ≤ P ∧ P ≤ 256) (h : P - 1 ≤ n) (C1 : Hid (∀ W, Calls Try.prog 9 #[.slice none 0 0, .int .u8 0, .int .i64 b, .int .u64 n] W (RetS 5 W 4 (bv [x0, x1, x2, x3]))))
    (v0 : (x0.toNat : Int) = q0) (v1 : (x1.toNat : Int) = q1) (v2 : (x2.toNat : Int) = q2) (v3 : (x3.toNat : Int) = q3) (hq0 : q0 = P - 1) (b1 : 128 ≤ q1 ∧ q1 ≤ 255) (b2 : 128 ≤ q2 ∧ q2 ≤ 255) (b3 : 1 ≤ q3 ∧ q3 ≤ 127) (hsum : P - 1 + (q1 - 128) * 1 + (q2 - 128) * 128 + q3 * 16384 = n) :
    Calls Try.prog 4 #[.int .i64 bits, .int .i64 n0] w fun e w' => e = .returned (.bool true) ∧ Below w.heap.size w w' := by
  have hbb : 1 + ((b : Int) - 1) = b := by omega
  have a1 := and127 x1
  have a2 := and127 x2
  have a3 := and127 x3
  go_enter Try.func4, Try.ntmps4
  go_wp2_with fail
  refine (D1.out _).mono ?_
  rintro e w' ⟨rfl, rfl⟩
  go_wp2_with fail
  refine (D2.out _).mono ?_
  rintro e w' ⟨rfl, rfl⟩
  go_wp2_with fail
  refine (C1.out _).mono ?_
  rintro e w1 ⟨A1, c1, rfl, ho1, hb1'⟩
  have R1 := Rd.of_own ho1
  obtain ⟨bl, off, rfl, hcell⟩ := R1 (by simp)
  have g0 := hcell 0 _ (bv_get (k := 0) (by simp))
  have g1 := hcell 1 _ (bv_get (k := 1) (by simp))
  have g2 := hcell 2 _ (bv_get (k := 2) (by simp))
  have g3 := hcell 3 _ (bv_get (k := 3) (by simp))
  simp only [List.getElem_cons_zero, List.getElem_cons_succ, Nat.add_zero] at g0 g1 g2 g3
  rw [v0] at g0
  rw [v1] at g1
  rw [v2] at g2
  rw [v3] at g3
  rw [v1] at a1
  rw [v2] at a2
  rw [v3] at a3
  rw [show q1 % 128 = q1 - 128 from by omega] at a1
  rw [show q2 % 128 = q2 - 128 from by omega] at a2
  rw [show q3 % 128 = q3 from by omega] at a3
  subst hq0
  clear ho1 hcell R1
  go_wp2_with fail
  refine wp_loop_rounds 5 ?_
  iterate 4 (rw [rounds_succ]; go_wp2_with fail)
  refine (awake_any _).mono ?_
  rintro e w10 ⟨rfl, hb10⟩
  go_wp2_with fail
  go_ret
  exact ⟨rfl, Fr.below ((Fr.of_below hb1' NoS).trans (Fr.of_below hb10 _))⟩

theorem steps_any (bits n0 : Int) (w : World) :
    Calls Try.prog 4 #[.int .i64 bits, .int .i64 n0] w fun e w' => e = .returned (.bool true) ∧ Below w.heap.size w w' := by
  obtain ⟨m1, hm1, D1⟩ := low_ex bits 8 (by omega) (by omega)
  obtain ⟨k, hk, D2⟩ := low_ex n0 100000 (by omega) (by omega)
  obtain ⟨b, hb⟩ : ∃ b : Nat, b = m1 + 1 := ⟨_, rfl⟩
  have hb1 : 1 ≤ b := by omega
  have hb8 : b ≤ 8 := by omega
  rw [show (m1 : Int) = (b : Int) - 1 from by omega] at D1
  replace D1 := Lib.hid D1
  replace D2 := Lib.hid D2
  have hP := pmost_bd b hb1 hb8
  by_cases h : (k : Int) < 2 ^ b - 1
  · exact steps_one b bits k n0 w hb1 hb8 (by omega) (by omega) D1 D2 h
  have hl := (steps_list b k hb1 hb8 (by omega) (by omega)).2 (by omega)
  have C1 := fun W => pput_any [] 0 b k none 0 W (Rd.nil _ _) (by decide) (by omega) (by omega) hb1 hb8 (by omega) (by omega)
  simp only [List.nil_append] at C1
  rw [hl] at C1
  obtain ⟨P, hPe⟩ : ∃ P, (2 : Int) ^ b = P := ⟨_, rfl⟩
  rw [hPe] at hP h C1
  by_cases h1 : (k : Int) - (P - 1) < 128
  · rw [pc1 _ h1] at C1
    exact steps_2 b bits k n0 P _ _ _ _ w hb1 hb8 (by omega) (by omega) D1 D2 hPe hP (by omega) (Lib.hid C1)
      (ofNat_val _ (by omega) (by omega)) (ofNat_val _ (by omega) (by omega)) rfl (by omega) (by omega)
  · by_cases h2 : (k : Int) - (P - 1) < 16384
    · rw [pc2 _ (by omega) h2] at C1
      exact steps_3 b bits k n0 P _ _ _ _ _ _ w hb1 hb8 (by omega) (by omega) D1 D2 hPe hP (by omega) (Lib.hid C1)
        (ofNat_val _ (by omega) (by omega)) (ofNat_val _ (by omega) (by omega)) (ofNat_val _ (by omega) (by omega)) rfl (by omega) (by omega) (by omega)
    · rw [pc3 _ (by omega) (by omega)] at C1
      exact steps_4 b bits k n0 P _ _ _ _ _ _ _ _ w hb1 hb8 (by omega) (by omega) D1 D2 hPe hP (by omega) (Lib.hid C1)
        (ofNat_val _ (by omega) (by omega)) (ofNat_val _ (by omega) (by omega)) (ofNat_val _ (by omega) (by omega)) (ofNat_val _ (by omega) (by omega)) rfl (by omega) (by omega) (by omega) (by omega)
end Go.Proofs.Yteehabfangchmaa
