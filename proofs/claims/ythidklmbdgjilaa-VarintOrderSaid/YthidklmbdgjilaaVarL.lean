/- VarintOrder returns true at every two numbers of 64 bits; nothing old turns. -/
import Derived.Test.YthidklmbdgjilaaVarK
namespace Go.Proofs.Ythidklmbdgjilaa
open Go.RowKit

theorem str_facts (x y : List UInt8) (p : Prop) [Decidable p] (h1 : Op.bytesLess x y = true ∨ x = y) (h2 : x = y ↔ p) :
    ∃ sx sy : ByteArray, sx = ⟨x.toArray⟩ ∧ sy = ⟨y.toArray⟩ ∧ (Op.bytesLess sx.toList sy.toList || sx.toList == sy.toList) = true ∧ (sx.toList == sy.toList) = decide p := by
  have hx : (ByteArray.mk x.toArray).toList = x := by rw [ByteArray.toList_eq]
  have hy : (ByteArray.mk y.toArray).toList = y := by rw [ByteArray.toList_eq]
  refine ⟨_, _, rfl, rfl, ?_, ?_⟩
  · rw [hx, hy]; simp only [Bool.or_eq_true, beq_iff_eq]; exact h1
  · rw [hx, hy, Bool.eq_iff_iff, beq_iff_eq, decide_eq_true_eq]; exact h2

def oconsts : List Int := [63, 64, 16383, 16384, 1073741823, 1073741824, 4611686018427387903]
theorem consts_ok : ∀ x ∈ oconsts, 0 ≤ x ∧ x ≤ 4611686018427387903 := by decide
theorem consts_get {w : World} {A : Option Addr} (h : Rd w A (oconsts.map (Value.int .u64))) (k : Nat) (hk : k < 7) : ∃ b off v, A = some ⟨b, off, none⟩ ∧ w.cell? ⟨b, off + k, none⟩ = some (.int .u64 v) ∧ 0 ≤ v ∧ v ≤ 4611686018427387903 := by
  obtain ⟨b, off, e, g⟩ := h.at_ (k := k) (by simpa [oconsts] using hk)
  rw [List.getElem_map] at g
  have := consts_ok _ (List.getElem_mem (l := oconsts) (n := k) (by simpa [oconsts] using hk))
  exact ⟨b, off, _, e, g, this.1, this.2⟩

set_option maxHeartbeats 1000000 in
theorem order_xy_ne (a b : Int) (w : World) (ha0 : 0 ≤ a) (ha : a ≤ 18446744073709551615) (hb0 : 0 ≤ b) (hb : b ≤ 18446744073709551615) (X Y : Int) (hand : bits .and .u64 a 4611686018427387903 = X) (hX : 0 ≤ X ∧ X ≤ 4611686018427387903)
    (handy : bits .and .u64 b 4611686018427387903 = Y) (hY : 0 ≤ Y ∧ Y ≤ 4611686018427387903) (hXY : X < Y) (hlen : (vput X).length ≠ (vput Y).length) :
    Calls Try.prog 5 #[.int .u64 a, .int .u64 b] w fun e w' => e = .returned (.bool true) ∧ Below w.heap.size w w' := by
  have HLE := Lib.hid (vput_mono X Y (by omega) (by omega))
  have C1 := Lib.hid (fun W => vput_any X [] none 0 W (Rd.nil _ _) (by simp) (by omega) (by omega))
  have C2 := Lib.hid (fun W => vput_any Y [] none 0 W (Rd.nil _ _) (by simp) (by omega) (by omega))
  have hb1 : (vput X).length ≤ 8 := by have := vput_many X (by omega); omega
  have hb2 : (vput Y).length ≤ 8 := by have := vput_many Y (by omega); omega
  have HL := Lib.hid hlen
  clear hlen
  obtain ⟨x, hx⟩ : ∃ x, vput X = x := ⟨_, rfl⟩
  obtain ⟨y, hy⟩ : ∃ y, vput Y = y := ⟨_, rfl⟩
  rw [hx, hy] at HLE
  simp only [hx] at C1
  simp only [hy] at C2
  simp only [hx] at hb1
  simp only [hy] at hb2
  simp only [hx, hy] at HL
  clear hx hy
  have hle : x.length ≤ y.length := HLE.out
  have hgt0 : decide (y.length < x.length) = false := decide_eq_false (by omega)
  have hne : ((x.length : Int) == (y.length : Int)) = false := by rw [beq_eq_false_iff_ne]; have := HL.out; omega
  go_enter Try.func5, Try.ntmps5
  go_wp2_with fail
  clear hand handy
  refine (C1.out _).mono ?_
  rintro e w1 ⟨A1, c1, rfl, ho1, hb1'⟩
  simp only [List.nil_append] at ho1 ⊢
  have R1 := Rd.of_own ho1
  go_wp2_with fail
  refine (C2.out _).mono ?_
  rintro e w2 ⟨A2, c2, rfl, ho2, hb2'⟩
  simp only [List.nil_append] at ho2 ⊢
  have R2 := Rd.of_own ho2
  have R1' := R1.below hb2'
  have F2 : Fr NoS w w2 := (Fr.of_below hb1' _).trans (Fr.of_below hb2' _)
  have RC : Rd (w2.alloc (.cells #[.int .u64 63, .int .u64 64, .int .u64 16383, .int .u64 16384, .int .u64 1073741823, .int .u64 1073741824, .int .u64 4611686018427387903] 22)) (some ⟨w2.heap.size, 0, none⟩) (oconsts.map (Value.int .u64)) := Rd.freshAt rfl _ _ rfl
  go_wp2_with fail
  clear R1 R1' R2 ho1 ho2 hb1' hb2'
  go_loopw [55] (fun i wr => ∃ k : Nat, k ≤ 7 ∧ i = .int .i64 k ∧ Rd wr (some ⟨w2.heap.size, 0, none⟩) (oconsts.map (Value.int .u64)) ∧ Fr NoS w wr) (fun i _ => 7 - (intOf i).toNat)
  case atStart => exact ⟨0, by omega, rfl, RC, F2.alloc _⟩
  case round =>
    clear RC F2
    obtain ⟨k, hk, rfl, RC, F2⟩ := hrel
    by_cases hk7 : k < 7
    · obtain ⟨b', o', v, e', g, hv0, hv1⟩ := consts_get RC k hk7
      injection e' with e'
      injection e' with e1 e2 _
      subst e1 e2
      rw [Nat.zero_add] at g
      have HVL := Lib.hid (vl_cast v)
      go_wp2_with fail
      refine (vput_any v [] none 0 _ (Rd.nil _ _) (by simp) (by omega) (by omega)).mono ?_
      rintro e w3 ⟨A3, c3, rfl, ho3, hb3⟩
      rw [List.nil_append]
      have HLV := Lib.hid (vput_length v)
      go_wp2_with fail
      refine (reflen_any v _ (by omega) (by omega)).mono ?_
      rintro e w4 ⟨rfl, rfl⟩
      rw [← HVL.out, ← HLV.out]
      have hnn : (((vput v).length : Int) != ((vput v).length : Int)) = false := by simp
      go_wp2_with fail
      have R := And.intro (RC.below hb3) (F2.trans (Fr.of_below hb3 _))
      clear ho3 hb3 RC F2 g
      go_roundw
      case rel => exact ⟨k + 1, by omega, by go_num, R.1, R.2⟩
      case measure => simp [intOf]; omega
    · have : k = 7 := by omega
      subst this
      go_wp2_with fail
      refine (awake_any _).mono ?_
      rintro e w8 ⟨rfl, hb8⟩
      go_wp2_with fail
      go_ret
      exact ⟨rfl, Fr.below (F2.trans (Fr.of_below hb8 _))⟩

set_option maxHeartbeats 1000000 in
theorem order_xy_lt (a b : Int) (w : World) (ha0 : 0 ≤ a) (ha : a ≤ 18446744073709551615) (hb0 : 0 ≤ b) (hb : b ≤ 18446744073709551615) (X Y : Int) (hand : bits .and .u64 a 4611686018427387903 = X) (hX : 0 ≤ X ∧ X ≤ 4611686018427387903)
    (handy : bits .and .u64 b 4611686018427387903 = Y) (hY : 0 ≤ Y ∧ Y ≤ 4611686018427387903) (hXY : X < Y) (hlen : (vput X).length = (vput Y).length) :
    Calls Try.prog 5 #[.int .u64 a, .int .u64 b] w fun e w' => e = .returned (.bool true) ∧ Below w.heap.size w w' := by
  have HLE := Lib.hid (vput_mono X Y (by omega) (by omega))
  have C1 := Lib.hid (fun W => vput_any X [] none 0 W (Rd.nil _ _) (by simp) (by omega) (by omega))
  have C2 := Lib.hid (fun W => vput_any Y [] none 0 W (Rd.nil _ _) (by simp) (by omega) (by omega))
  have hb1 : (vput X).length ≤ 8 := by have := vput_many X (by omega); omega
  have hb2 : (vput Y).length ≤ 8 := by have := vput_many Y (by omega); omega
  have HO := Lib.hid (vput_order X Y (by omega) (by omega) (by omega) hlen)
  have HL := Lib.hid hlen
  clear hlen
  obtain ⟨x, hx⟩ : ∃ x, vput X = x := ⟨_, rfl⟩
  obtain ⟨y, hy⟩ : ∃ y, vput Y = y := ⟨_, rfl⟩
  rw [hx, hy] at HLE
  simp only [hx] at C1
  simp only [hy] at C2
  simp only [hx] at hb1
  simp only [hy] at hb2
  simp only [hx, hy] at HO
  simp only [hx, hy] at HL
  clear hx hy
  have hle : x.length ≤ y.length := HLE.out
  have hgt0 : decide (y.length < x.length) = false := decide_eq_false (by omega)
  have heq : ((x.length : Int) == (y.length : Int)) = true := by rw [beq_iff_eq]; have := HL.out; omega
  have hpq : (X == Y) = false := by rw [beq_eq_false_iff_ne]; omega
  go_enter Try.func5, Try.ntmps5
  go_wp2_with fail
  clear hand handy
  refine (C1.out _).mono ?_
  rintro e w1 ⟨A1, c1, rfl, ho1, hb1'⟩
  simp only [List.nil_append] at ho1 ⊢
  have R1 := Rd.of_own ho1
  go_wp2_with fail
  refine (C2.out _).mono ?_
  rintro e w2 ⟨A2, c2, rfl, ho2, hb2'⟩
  simp only [List.nil_append] at ho2 ⊢
  have R2 := Rd.of_own ho2
  have R1' := R1.below hb2'
  have F2 : Fr NoS w w2 := (Fr.of_below hb1' _).trans (Fr.of_below hb2' _)
  obtain ⟨sx, sy, ex, ey, hgt, heq2⟩ := str_facts x y (X = Y) HO.out.1 HO.out.2
  have hcx : (convert 23 9 (.slice A1 x.length c1)).run Try.prog w2 = .ok (.string sx) w2 := by rw [ex]; exact run_conv_bytes Try.underlying23 Try.underlying5 Try.underlying9 R1'
  have hcy : (convert 23 9 (.slice A2 y.length c2)).run Try.prog w2 = .ok (.string sy) w2 := by rw [ey]; exact run_conv_bytes Try.underlying23 Try.underlying5 Try.underlying9 R2
  rw [decide_eq_false (by omega)] at heq2
  rw [heq2, Bool.or_false] at hgt
  clear ex ey
  have RC : Rd (w2.alloc (.cells #[.int .u64 63, .int .u64 64, .int .u64 16383, .int .u64 16384, .int .u64 1073741823, .int .u64 1073741824, .int .u64 4611686018427387903] 22)) (some ⟨w2.heap.size, 0, none⟩) (oconsts.map (Value.int .u64)) := Rd.freshAt rfl _ _ rfl
  go_wp2_with fail
  clear R1 R1' R2 ho1 ho2 hb1' hb2'
  go_loopw [55] (fun i wr => ∃ k : Nat, k ≤ 7 ∧ i = .int .i64 k ∧ Rd wr (some ⟨w2.heap.size, 0, none⟩) (oconsts.map (Value.int .u64)) ∧ Fr NoS w wr) (fun i _ => 7 - (intOf i).toNat)
  case atStart => exact ⟨0, by omega, rfl, RC, F2.alloc _⟩
  case round =>
    clear RC F2
    obtain ⟨k, hk, rfl, RC, F2⟩ := hrel
    by_cases hk7 : k < 7
    · obtain ⟨b', o', v, e', g, hv0, hv1⟩ := consts_get RC k hk7
      injection e' with e'
      injection e' with e1 e2 _
      subst e1 e2
      rw [Nat.zero_add] at g
      have HVL := Lib.hid (vl_cast v)
      go_wp2_with fail
      refine (vput_any v [] none 0 _ (Rd.nil _ _) (by simp) (by omega) (by omega)).mono ?_
      rintro e w3 ⟨A3, c3, rfl, ho3, hb3⟩
      rw [List.nil_append]
      have HLV := Lib.hid (vput_length v)
      go_wp2_with fail
      refine (reflen_any v _ (by omega) (by omega)).mono ?_
      rintro e w4 ⟨rfl, rfl⟩
      rw [← HVL.out, ← HLV.out]
      have hnn : (((vput v).length : Int) != ((vput v).length : Int)) = false := by simp
      go_wp2_with fail
      have R := And.intro (RC.below hb3) (F2.trans (Fr.of_below hb3 _))
      clear ho3 hb3 RC F2 g
      go_roundw
      case rel => exact ⟨k + 1, by omega, by go_num, R.1, R.2⟩
      case measure => simp [intOf]; omega
    · have : k = 7 := by omega
      subst this
      go_wp2_with fail
      refine (awake_any _).mono ?_
      rintro e w8 ⟨rfl, hb8⟩
      go_wp2_with fail
      go_ret
      exact ⟨rfl, Fr.below (F2.trans (Fr.of_below hb8 _))⟩

set_option maxHeartbeats 1000000 in
theorem order_yx_ne (a b : Int) (w : World) (ha0 : 0 ≤ a) (ha : a ≤ 18446744073709551615) (hb0 : 0 ≤ b) (hb : b ≤ 18446744073709551615) (X Y : Int) (hand : bits .and .u64 a 4611686018427387903 = X) (hX : 0 ≤ X ∧ X ≤ 4611686018427387903)
    (handy : bits .and .u64 b 4611686018427387903 = Y) (hY : 0 ≤ Y ∧ Y ≤ 4611686018427387903) (hXY : Y < X) (hlen : (vput Y).length ≠ (vput X).length) :
    Calls Try.prog 5 #[.int .u64 a, .int .u64 b] w fun e w' => e = .returned (.bool true) ∧ Below w.heap.size w w' := by
  have HLE := Lib.hid (vput_mono Y X (by omega) (by omega))
  have C1 := Lib.hid (fun W => vput_any Y [] none 0 W (Rd.nil _ _) (by simp) (by omega) (by omega))
  have C2 := Lib.hid (fun W => vput_any X [] none 0 W (Rd.nil _ _) (by simp) (by omega) (by omega))
  have hb1 : (vput Y).length ≤ 8 := by have := vput_many Y (by omega); omega
  have hb2 : (vput X).length ≤ 8 := by have := vput_many X (by omega); omega
  have HL := Lib.hid hlen
  clear hlen
  obtain ⟨x, hx⟩ : ∃ x, vput Y = x := ⟨_, rfl⟩
  obtain ⟨y, hy⟩ : ∃ y, vput X = y := ⟨_, rfl⟩
  rw [hx, hy] at HLE
  simp only [hx] at C1
  simp only [hy] at C2
  simp only [hx] at hb1
  simp only [hy] at hb2
  simp only [hx, hy] at HL
  clear hx hy
  have hle : x.length ≤ y.length := HLE.out
  have hgt0 : decide (y.length < x.length) = false := decide_eq_false (by omega)
  have hne : ((x.length : Int) == (y.length : Int)) = false := by rw [beq_eq_false_iff_ne]; have := HL.out; omega
  go_enter Try.func5, Try.ntmps5
  go_wp2_with fail
  clear hand handy
  refine (C1.out _).mono ?_
  rintro e w1 ⟨A1, c1, rfl, ho1, hb1'⟩
  simp only [List.nil_append] at ho1 ⊢
  have R1 := Rd.of_own ho1
  go_wp2_with fail
  refine (C2.out _).mono ?_
  rintro e w2 ⟨A2, c2, rfl, ho2, hb2'⟩
  simp only [List.nil_append] at ho2 ⊢
  have R2 := Rd.of_own ho2
  have R1' := R1.below hb2'
  have F2 : Fr NoS w w2 := (Fr.of_below hb1' _).trans (Fr.of_below hb2' _)
  have RC : Rd (w2.alloc (.cells #[.int .u64 63, .int .u64 64, .int .u64 16383, .int .u64 16384, .int .u64 1073741823, .int .u64 1073741824, .int .u64 4611686018427387903] 22)) (some ⟨w2.heap.size, 0, none⟩) (oconsts.map (Value.int .u64)) := Rd.freshAt rfl _ _ rfl
  go_wp2_with fail
  clear R1 R1' R2 ho1 ho2 hb1' hb2'
  go_loopw [55] (fun i wr => ∃ k : Nat, k ≤ 7 ∧ i = .int .i64 k ∧ Rd wr (some ⟨w2.heap.size, 0, none⟩) (oconsts.map (Value.int .u64)) ∧ Fr NoS w wr) (fun i _ => 7 - (intOf i).toNat)
  case atStart => exact ⟨0, by omega, rfl, RC, F2.alloc _⟩
  case round =>
    clear RC F2
    obtain ⟨k, hk, rfl, RC, F2⟩ := hrel
    by_cases hk7 : k < 7
    · obtain ⟨b', o', v, e', g, hv0, hv1⟩ := consts_get RC k hk7
      injection e' with e'
      injection e' with e1 e2 _
      subst e1 e2
      rw [Nat.zero_add] at g
      have HVL := Lib.hid (vl_cast v)
      go_wp2_with fail
      refine (vput_any v [] none 0 _ (Rd.nil _ _) (by simp) (by omega) (by omega)).mono ?_
      rintro e w3 ⟨A3, c3, rfl, ho3, hb3⟩
      rw [List.nil_append]
      have HLV := Lib.hid (vput_length v)
      go_wp2_with fail
      refine (reflen_any v _ (by omega) (by omega)).mono ?_
      rintro e w4 ⟨rfl, rfl⟩
      rw [← HVL.out, ← HLV.out]
      have hnn : (((vput v).length : Int) != ((vput v).length : Int)) = false := by simp
      go_wp2_with fail
      have R := And.intro (RC.below hb3) (F2.trans (Fr.of_below hb3 _))
      clear ho3 hb3 RC F2 g
      go_roundw
      case rel => exact ⟨k + 1, by omega, by go_num, R.1, R.2⟩
      case measure => simp [intOf]; omega
    · have : k = 7 := by omega
      subst this
      go_wp2_with fail
      refine (awake_any _).mono ?_
      rintro e w8 ⟨rfl, hb8⟩
      go_wp2_with fail
      go_ret
      exact ⟨rfl, Fr.below (F2.trans (Fr.of_below hb8 _))⟩

set_option maxHeartbeats 1000000 in
theorem order_yx_lt (a b : Int) (w : World) (ha0 : 0 ≤ a) (ha : a ≤ 18446744073709551615) (hb0 : 0 ≤ b) (hb : b ≤ 18446744073709551615) (X Y : Int) (hand : bits .and .u64 a 4611686018427387903 = X) (hX : 0 ≤ X ∧ X ≤ 4611686018427387903)
    (handy : bits .and .u64 b 4611686018427387903 = Y) (hY : 0 ≤ Y ∧ Y ≤ 4611686018427387903) (hXY : Y < X) (hlen : (vput Y).length = (vput X).length) :
    Calls Try.prog 5 #[.int .u64 a, .int .u64 b] w fun e w' => e = .returned (.bool true) ∧ Below w.heap.size w w' := by
  have HLE := Lib.hid (vput_mono Y X (by omega) (by omega))
  have C1 := Lib.hid (fun W => vput_any Y [] none 0 W (Rd.nil _ _) (by simp) (by omega) (by omega))
  have C2 := Lib.hid (fun W => vput_any X [] none 0 W (Rd.nil _ _) (by simp) (by omega) (by omega))
  have hb1 : (vput Y).length ≤ 8 := by have := vput_many Y (by omega); omega
  have hb2 : (vput X).length ≤ 8 := by have := vput_many X (by omega); omega
  have HO := Lib.hid (vput_order Y X (by omega) (by omega) (by omega) hlen)
  have HL := Lib.hid hlen
  clear hlen
  obtain ⟨x, hx⟩ : ∃ x, vput Y = x := ⟨_, rfl⟩
  obtain ⟨y, hy⟩ : ∃ y, vput X = y := ⟨_, rfl⟩
  rw [hx, hy] at HLE
  simp only [hx] at C1
  simp only [hy] at C2
  simp only [hx] at hb1
  simp only [hy] at hb2
  simp only [hx, hy] at HO
  simp only [hx, hy] at HL
  clear hx hy
  have hle : x.length ≤ y.length := HLE.out
  have hgt0 : decide (y.length < x.length) = false := decide_eq_false (by omega)
  have heq : ((x.length : Int) == (y.length : Int)) = true := by rw [beq_iff_eq]; have := HL.out; omega
  have hpq : (Y == X) = false := by rw [beq_eq_false_iff_ne]; omega
  go_enter Try.func5, Try.ntmps5
  go_wp2_with fail
  clear hand handy
  refine (C1.out _).mono ?_
  rintro e w1 ⟨A1, c1, rfl, ho1, hb1'⟩
  simp only [List.nil_append] at ho1 ⊢
  have R1 := Rd.of_own ho1
  go_wp2_with fail
  refine (C2.out _).mono ?_
  rintro e w2 ⟨A2, c2, rfl, ho2, hb2'⟩
  simp only [List.nil_append] at ho2 ⊢
  have R2 := Rd.of_own ho2
  have R1' := R1.below hb2'
  have F2 : Fr NoS w w2 := (Fr.of_below hb1' _).trans (Fr.of_below hb2' _)
  obtain ⟨sx, sy, ex, ey, hgt, heq2⟩ := str_facts x y (Y = X) HO.out.1 HO.out.2
  have hcx : (convert 23 9 (.slice A1 x.length c1)).run Try.prog w2 = .ok (.string sx) w2 := by rw [ex]; exact run_conv_bytes Try.underlying23 Try.underlying5 Try.underlying9 R1'
  have hcy : (convert 23 9 (.slice A2 y.length c2)).run Try.prog w2 = .ok (.string sy) w2 := by rw [ey]; exact run_conv_bytes Try.underlying23 Try.underlying5 Try.underlying9 R2
  rw [decide_eq_false (by omega)] at heq2
  rw [heq2, Bool.or_false] at hgt
  clear ex ey
  have RC : Rd (w2.alloc (.cells #[.int .u64 63, .int .u64 64, .int .u64 16383, .int .u64 16384, .int .u64 1073741823, .int .u64 1073741824, .int .u64 4611686018427387903] 22)) (some ⟨w2.heap.size, 0, none⟩) (oconsts.map (Value.int .u64)) := Rd.freshAt rfl _ _ rfl
  go_wp2_with fail
  clear R1 R1' R2 ho1 ho2 hb1' hb2'
  go_loopw [55] (fun i wr => ∃ k : Nat, k ≤ 7 ∧ i = .int .i64 k ∧ Rd wr (some ⟨w2.heap.size, 0, none⟩) (oconsts.map (Value.int .u64)) ∧ Fr NoS w wr) (fun i _ => 7 - (intOf i).toNat)
  case atStart => exact ⟨0, by omega, rfl, RC, F2.alloc _⟩
  case round =>
    clear RC F2
    obtain ⟨k, hk, rfl, RC, F2⟩ := hrel
    by_cases hk7 : k < 7
    · obtain ⟨b', o', v, e', g, hv0, hv1⟩ := consts_get RC k hk7
      injection e' with e'
      injection e' with e1 e2 _
      subst e1 e2
      rw [Nat.zero_add] at g
      have HVL := Lib.hid (vl_cast v)
      go_wp2_with fail
      refine (vput_any v [] none 0 _ (Rd.nil _ _) (by simp) (by omega) (by omega)).mono ?_
      rintro e w3 ⟨A3, c3, rfl, ho3, hb3⟩
      rw [List.nil_append]
      have HLV := Lib.hid (vput_length v)
      go_wp2_with fail
      refine (reflen_any v _ (by omega) (by omega)).mono ?_
      rintro e w4 ⟨rfl, rfl⟩
      rw [← HVL.out, ← HLV.out]
      have hnn : (((vput v).length : Int) != ((vput v).length : Int)) = false := by simp
      go_wp2_with fail
      have R := And.intro (RC.below hb3) (F2.trans (Fr.of_below hb3 _))
      clear ho3 hb3 RC F2 g
      go_roundw
      case rel => exact ⟨k + 1, by omega, by go_num, R.1, R.2⟩
      case measure => simp [intOf]; omega
    · have : k = 7 := by omega
      subst this
      go_wp2_with fail
      refine (awake_any _).mono ?_
      rintro e w8 ⟨rfl, hb8⟩
      go_wp2_with fail
      go_ret
      exact ⟨rfl, Fr.below (F2.trans (Fr.of_below hb8 _))⟩

set_option maxHeartbeats 1000000 in
theorem order_eq (a b : Int) (w : World) (ha0 : 0 ≤ a) (ha : a ≤ 18446744073709551615) (hb0 : 0 ≤ b) (hb : b ≤ 18446744073709551615) (X Y : Int) (hand : bits .and .u64 a 4611686018427387903 = X) (hX : 0 ≤ X ∧ X ≤ 4611686018427387903)
    (handy : bits .and .u64 b 4611686018427387903 = Y) (hY : 0 ≤ Y ∧ Y ≤ 4611686018427387903) (hXY : X = Y) :
    Calls Try.prog 5 #[.int .u64 a, .int .u64 b] w fun e w' => e = .returned (.bool true) ∧ Below w.heap.size w w' := by
  subst hXY
  have HLE := Lib.hid (vput_mono X X (by omega) (by omega))
  have C1 := Lib.hid (fun W => vput_any X [] none 0 W (Rd.nil _ _) (by simp) (by omega) (by omega))
  have C2 := Lib.hid (fun W => vput_any X [] none 0 W (Rd.nil _ _) (by simp) (by omega) (by omega))
  have hb1 : (vput X).length ≤ 8 := by have := vput_many X (by omega); omega
  have hb2 : (vput X).length ≤ 8 := by have := vput_many X (by omega); omega
  have HO := Lib.hid (vput_order X X (by omega) (by omega) (by omega) rfl)
  obtain ⟨x, hx⟩ : ∃ x, vput X = x := ⟨_, rfl⟩
  simp only [hx] at HLE
  simp only [hx] at C1
  simp only [hx] at C2
  simp only [hx] at hb1 hb2
  simp only [hx] at HO
  clear hx
  have hle : x.length ≤ x.length := HLE.out
  have hgt0 : decide (x.length < x.length) = false := decide_eq_false (by omega)
  go_enter Try.func5, Try.ntmps5
  go_wp2_with fail
  clear hand handy
  refine (C1.out _).mono ?_
  rintro e w1 ⟨A1, c1, rfl, ho1, hb1'⟩
  simp only [List.nil_append] at ho1 ⊢
  have R1 := Rd.of_own ho1
  go_wp2_with fail
  refine (C2.out _).mono ?_
  rintro e w2 ⟨A2, c2, rfl, ho2, hb2'⟩
  simp only [List.nil_append] at ho2 ⊢
  have R2 := Rd.of_own ho2
  have R1' := R1.below hb2'
  have F2 : Fr NoS w w2 := (Fr.of_below hb1' _).trans (Fr.of_below hb2' _)
  obtain ⟨sx, sy, ex, ey, hgt, heq2⟩ := str_facts x x (X = X) (.inr rfl) ⟨fun _ => rfl, fun _ => rfl⟩
  have hcx : (convert 23 9 (.slice A1 x.length c1)).run Try.prog w2 = .ok (.string sx) w2 := by rw [ex]; exact run_conv_bytes Try.underlying23 Try.underlying5 Try.underlying9 R1'
  have hcy : (convert 23 9 (.slice A2 x.length c2)).run Try.prog w2 = .ok (.string sy) w2 := by rw [ey]; exact run_conv_bytes Try.underlying23 Try.underlying5 Try.underlying9 R2
  rw [decide_eq_true rfl] at heq2
  clear ex ey
  have RC : Rd (w2.alloc (.cells #[.int .u64 63, .int .u64 64, .int .u64 16383, .int .u64 16384, .int .u64 1073741823, .int .u64 1073741824, .int .u64 4611686018427387903] 22)) (some ⟨w2.heap.size, 0, none⟩) (oconsts.map (Value.int .u64)) := Rd.freshAt rfl _ _ rfl
  go_wp2_with fail
  clear R1 R1' R2 ho1 ho2 hb1' hb2'
  go_loopw [55] (fun i wr => ∃ k : Nat, k ≤ 7 ∧ i = .int .i64 k ∧ Rd wr (some ⟨w2.heap.size, 0, none⟩) (oconsts.map (Value.int .u64)) ∧ Fr NoS w wr) (fun i _ => 7 - (intOf i).toNat)
  case atStart => exact ⟨0, by omega, rfl, RC, F2.alloc _⟩
  case round =>
    clear RC F2
    obtain ⟨k, hk, rfl, RC, F2⟩ := hrel
    by_cases hk7 : k < 7
    · obtain ⟨b', o', v, e', g, hv0, hv1⟩ := consts_get RC k hk7
      injection e' with e'
      injection e' with e1 e2 _
      subst e1 e2
      rw [Nat.zero_add] at g
      have HVL := Lib.hid (vl_cast v)
      go_wp2_with fail
      refine (vput_any v [] none 0 _ (Rd.nil _ _) (by simp) (by omega) (by omega)).mono ?_
      rintro e w3 ⟨A3, c3, rfl, ho3, hb3⟩
      rw [List.nil_append]
      have HLV := Lib.hid (vput_length v)
      go_wp2_with fail
      refine (reflen_any v _ (by omega) (by omega)).mono ?_
      rintro e w4 ⟨rfl, rfl⟩
      rw [← HVL.out, ← HLV.out]
      have hnn : (((vput v).length : Int) != ((vput v).length : Int)) = false := by simp
      go_wp2_with fail
      have R := And.intro (RC.below hb3) (F2.trans (Fr.of_below hb3 _))
      clear ho3 hb3 RC F2 g
      go_roundw
      case rel => exact ⟨k + 1, by omega, by go_num, R.1, R.2⟩
      case measure => simp [intOf]; omega
    · have : k = 7 := by omega
      subst this
      go_wp2_with fail
      refine (awake_any _).mono ?_
      rintro e w8 ⟨rfl, hb8⟩
      go_wp2_with fail
      go_ret
      exact ⟨rfl, Fr.below (F2.trans (Fr.of_below hb8 _))⟩

theorem order_any (a b : Int) (w : World) (ha0 : 0 ≤ a) (ha : a ≤ 18446744073709551615) (hb0 : 0 ≤ b) (hb : b ≤ 18446744073709551615) :
    Calls Try.prog 5 #[.int .u64 a, .int .u64 b] w fun e w' => e = .returned (.bool true) ∧ Below w.heap.size w w' := by
  obtain ⟨X, hand, hX⟩ := mask62 a ha0 ha
  obtain ⟨Y, handy, hY⟩ := mask62 b hb0 hb
  rcases (show X < Y ∨ Y < X ∨ X = Y from by omega) with h | h | h
  · by_cases hl : (vput X).length = (vput Y).length
    · exact order_xy_lt a b w ha0 ha hb0 hb X Y hand hX handy hY h hl
    · exact order_xy_ne a b w ha0 ha hb0 hb X Y hand hX handy hY h hl
  · by_cases hl : (vput Y).length = (vput X).length
    · exact order_yx_lt a b w ha0 ha hb0 hb X Y hand hX handy hY h hl
    · exact order_yx_ne a b w ha0 ha hb0 hb X Y hand hX handy hY h hl
  · exact order_eq a b w ha0 ha hb0 hb X Y hand hX handy hY h
end Go.Proofs.Ythidklmbdgjilaa
