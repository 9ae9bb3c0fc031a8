/- VarintPads returns true at every number of 64 bits, every int and every byte; nothing old turns. -/
import Derived.Test.YthidklmbdgjilaaVarJ
namespace Go.Proofs.Ythidklmbdgjilaa
open Go.RowKit

def rbyte (n : Int) (m k : Nat) : UInt8 := UInt8.ofNat (n.toNat / 2 ^ (8 * (m - 1 - k)) % 256)
def rbytes (n : Int) (m : Nat) : List UInt8 := (List.range m).map (rbyte n m)
theorem rbytes_length (n : Int) (m : Nat) : (rbytes n m).length = m := by simp [rbytes]
theorem rbytes_take_succ (n : Int) (m k : Nat) (hk : k < m) : (rbytes n m).take (k + 1) = (rbytes n m).take k ++ [rbyte n m k] := by
  rw [List.take_succ_eq_append_getElem (by simpa [rbytes] using hk)]
  simp [rbytes]
theorem rbyte_val (n : Int) (m k : Nat) (h0 : 0 ≤ n) : ((rbyte n m k).toNat : Int) = n / 2 ^ (8 * (m - 1 - k)) % 256 := by
  obtain ⟨N, rfl⟩ := Int.eq_ofNat_of_zero_le h0
  unfold rbyte
  rw [Int.toNat_natCast, UInt8.toNat_ofNat', Nat.mod_eq_of_lt (Nat.mod_lt _ (by decide)), Int.natCast_emod, Int.natCast_ediv, Int.natCast_pow]
  rfl
/-- Marked, the raw bytes are those that the number is laid in. -/
theorem rbytes_set (n : Int) (m : Nat) (hm : 1 ≤ m) : (rbytes n m).set 0 (vbyte n m 0) = vbytes n m := by
  obtain ⟨j, rfl⟩ : ∃ j, m = j + 1 := ⟨m - 1, by omega⟩
  simp only [rbytes, vbytes, List.range_succ_eq_map, List.map_cons, List.set_cons_zero, List.map_map, List.cons.injEq, true_and]
  refine List.map_congr_left fun x _ => ?_
  simp [rbyte, vbyte]
theorem rmark (n : Int) (m : Nat) (mk : Int) (h0 : 0 ≤ n) (hm : m = 1 ∨ m = 2 ∨ m = 4 ∨ m = 8) (hnm : n < 2 ^ (8 * m - 2)) (hk : mk = ((vmark m : Nat) : Int)) : bits .or .u8 ((rbyte n m 0).toNat : Int) (mk * 64) = ((vbyte n m 0).toNat : Int) := by
  have e := vbyte_zero n m h0 hm hnm
  have r := rbyte_val n m 0 h0
  have hb : 0 ≤ n / 2 ^ (8 * (m - 1)) ∧ n / 2 ^ (8 * (m - 1)) < 64 := by
    rcases hm with rfl | rfl | rfl | rfl <;> simp only [Nat.reduceMul, Nat.reduceSub, Int.reducePow] at hnm ⊢ <;> omega
  have hv : vmark m < 4 := by rcases hm with rfl | rfl | rfl | rfl <;> decide
  rw [Nat.sub_zero, Int.emod_eq_of_lt hb.1 (by omega)] at r
  rw [e, hk, u8_join _ _ (by omega) (by omega) (by omega) (by omega), r]
  omega
theorem pad_step {E B : Nat} {w0 wr w' : World} {n : Int} {m k : Nat} {v : Value} {A' : Option Addr} {c' : Nat} {x : Int} {o : Obj} (hk : k < m) (hx : ((rbyte n m k).toNat : Int) = x) (hbel : Fr NoS w0 wr) (hB : B ≤ wr.heap.size) (hBB : w0.heap.size ≤ B)
    (hown : wr.ownsRow B E 1 v k (bv ((rbytes n m).take k)))
    (hown' : w'.ownsRow B E 1 (.slice A' (k + 1) c') (k + 1) (bv ((rbytes n m).take k) ++ [.int .u8 x])) (hg : (wr.alloc o).grownBy w' v.ownBlock) :
    w'.ownsRow B E 1 (.slice A' (k + 1) c') (k + 1) (bv ((rbytes n m).take (k + 1))) ∧ Fr NoS w0 w' := by
  refine ⟨?_, (hbel.alloc o).grown hg fun j hj hlt => by have := (hown.lt j hj).1; omega⟩
  rw [rbytes_take_succ _ _ _ hk, bv_append]
  have : bv [rbyte n m k] = [.int .u8 x] := by simp [bv, hx]
  rw [this]; exact hown'

set_option maxHeartbeats 2000000 in
theorem pads_0_0 (n more beh : Int) (w : World) (N : Int) (hand : bits .and .u64 n 4611686018427387903 = N) (hN : 0 ≤ N ∧ N ≤ 4611686018427387903) (hbe : 0 ≤ beh ∧ beh ≤ 255) (hL : (vput N).length = 1) (hq : low more 4 = 0) :
    Calls Try.prog 6 #[.int .u64 n, .int .i64 more, .int .u8 beh] w fun e w' => e = .returned (.bool true) ∧ Below w.heap.size w w' := by
  have HF := Lib.hid (vput_fits N hN.2 1 (by omega))
  have C2 : ∀ W, Calls Try.prog 11 #[.int .u64 N] W fun e w' => e = .returned (.int .i64 1) ∧ ∃ k, w' = W.drewN k := fun W => by
    have := vlenp_any N W hN.1 (by omega); rw [hL] at this; exact this
  have C2 := Lib.hid C2
  have HQ := Lib.hid hq
  clear hL hq
  go_enter Try.func6, Try.ntmps6
  go_wp2_with fail
  clear hand
  refine wp_loop_rounds 1 ?_
  rw [rounds_succ]
  go_wp2_with fail
  go_quiet ((go_at_call 11; first | exact Calls.quiet_of (C2.out _) | exact quiet_add (C2.out _)))
  go_wp2_with fail
  go_quiet ((go_at_call 11; first | exact Calls.quiet_of (C2.out _) | exact quiet_add (C2.out _)))
  go_wp2_with fail
  refine (low_any more 4 _ (by omega) (by omega)).mono ?_
  rintro e w3 ⟨rfl, rfl⟩
  rw [HQ.out]
  go_wp2_with fail
  go_loopw [8, 9] (fun v i wr => ∃ (k : Nat) (A' : Option Addr) (c' : Nat), k ≤ 1 ∧ i = .int .i64 (0 - (k : Int)) ∧ v = .slice A' k c' ∧ wr.ownsRow w.heap.size 5 1 (.slice A' k c') k (bv ((rbytes N 1).take k)) ∧ Fr NoS w wr) (fun _ i _ => ((intOf i) + 1).toNat)
  case atStart => exact ⟨0, none, 0, by omega, rfl, rfl, World.ownsRow_nil _ _ _ _, (Fr.refl _ w).drewN _⟩
  case round =>
    obtain ⟨k, A2, c2, hk, rfl, rfl, hown, F⟩ := hrel
    have hsz := F.size
    by_cases hkm : k < 1
    · obtain rfl : k = 0 := by omega
      go_wp2_with (at_builtin; refine wpList_app _ rfl _ _ 23 rfl w.heap.size 5 (.int .u8 0) 1 infoB Try.underlying23 rfl (.slice A2 0 c2) 0 _ rfl (hown.alloc _) (some ⟨wr.heap.size, 0, none⟩) 1 1 [.int .u8 _] rfl rfl (Rd.fresh _ _ _) (one_int _ _) (by unfold maxLen; omega) (by omega) (by simp; omega) ?_; intro A3 c3 w3 hown3 hgrow3 _)
      have R := pad_step (k := 0) hkm (x := N % 256) (by have := rbyte_val N 1 0 hN.1; simpa using this) F hsz (Nat.le_refl _) hown hown3 hgrow3
      clear hown3 hgrow3 hown F
      go_wp2
      go_roundw
      case rel => exact ⟨1, A3, c3, by omega, rfl, rfl, R.1, R.2⟩
      case measure => simp [intOf]
    · have : k = 1 := by omega
      subst this
      rw [List.take_of_length_le (by rw [rbytes_length]; omega)] at hown
      obtain ⟨g, cap, hv, hg1, hg2⟩ := hown.form (by omega)
      injection hv with e1 _ e3
      subst e1 e3
      have hcell : wr.cell? ⟨g, 0, none⟩ = some (.int .u8 ((rbyte N 1 0).toNat : Int)) := by
        rw [hown.cellAt 0 (by omega)]; rfl
      have hfz := hown.frozenAt 0
      have hst := hown.stored 0 (.int .u8 ((vbyte N 1 0).toNat : Int))
      have hmk := rmark N 1 0 hN.1 (by omega) HF.out (by decide)
      simp only [Int.reduceMul] at hmk
      have hown2 := hst.1
      have hset : (bv (rbytes N 1)).set 0 (.int .u8 ((vbyte N 1 0).toNat : Int)) = bv (vbytes N 1) := by
        rw [← rbytes_set N 1 (by omega)]; simp [bv, List.map_set]
      rw [hset] at hown2
      have F2 : Fr NoS w (wr.setCell ⟨g, 0, none⟩ (.int .u8 ((vbyte N 1 0).toNat : Int))) := F.setCell (fun h => by simp at h; omega) _
      clear hst hset hown
      have hbeh : bv (vbytes N 1) ++ [.int .u8 beh] = bv (vbytes N 1 ++ [UInt8.ofNat beh.toNat]) := by
        rw [bv_append]; simp [bv]; omega
      have HB := Lib.hid hbeh
      clear hbeh
      go_wp2_with (at_builtin; refine wpList_app _ rfl _ _ 23 rfl w.heap.size 5 (.int .u8 0) 1 infoB Try.underlying23 rfl (.slice (some ⟨g, 0, none⟩) 1 c2) 1 (bv (vbytes N 1)) rfl (hown2.alloc _) (some ⟨wr.heap.size, 0, none⟩) 1 1 [.int .u8 beh] rfl rfl (Rd.freshAt (by simp) _ _ rfl) (one_int _ _) (by unfold maxLen; omega) (by omega) (by simp; omega) ?_; intro A3 c3 w3 hown3 hgrow3 _)
      rw [HB.out] at hown3
      have F3 : Fr NoS w w3 := (F2.alloc _).grown hgrow3 (fun j hj hlt => by simp [Value.ownBlock] at hj; omega)
      have hc3 := RetS.cap hown3
      have hgl : (vbytes N 1 ++ [UInt8.ofNat beh.toNat]).length = 1 + 1 := by simp [vbytes_length]
      have G := get_any (vbytes N 1 ++ [UInt8.ofNat beh.toNat]) A3 c3 w3 (Rd.of_own hown3) (by omega) (by omega) hc3.2
      rw [vget_vbytes N 1 _ hN.1 (by omega) HF.out, hgl] at G
      have G := Lib.hid G
      clear hown2 hown3 hcell hfz hmk hgl F2 hgrow3
      refine G.out.mono ?_
      rintro e w4 ⟨rfl, rfl⟩
      simp only [vtup]
      go_wp2_with fail
      refine (awake_any _).mono ?_
      rintro e w8 ⟨rfl, hb8⟩
      go_wp2_with fail
      go_ret
      exact ⟨rfl, Fr.below (F3.trans (Fr.of_below hb8 _))⟩

set_option maxHeartbeats 2000000 in
theorem pads_0_1 (n more beh : Int) (w : World) (N : Int) (hand : bits .and .u64 n 4611686018427387903 = N) (hN : 0 ≤ N ∧ N ≤ 4611686018427387903) (hbe : 0 ≤ beh ∧ beh ≤ 255) (hL : (vput N).length = 1) (hq : low more 4 = 1) :
    Calls Try.prog 6 #[.int .u64 n, .int .i64 more, .int .u8 beh] w fun e w' => e = .returned (.bool true) ∧ Below w.heap.size w w' := by
  have HF := Lib.hid (vput_fits N hN.2 2 (by omega))
  have C2 : ∀ W, Calls Try.prog 11 #[.int .u64 N] W fun e w' => e = .returned (.int .i64 1) ∧ ∃ k, w' = W.drewN k := fun W => by
    have := vlenp_any N W hN.1 (by omega); rw [hL] at this; exact this
  have C2 := Lib.hid C2
  have HQ := Lib.hid hq
  clear hL hq
  go_enter Try.func6, Try.ntmps6
  go_wp2_with fail
  clear hand
  refine wp_loop_rounds 1 ?_
  rw [rounds_succ]
  go_wp2_with fail
  go_quiet ((go_at_call 11; first | exact Calls.quiet_of (C2.out _) | exact quiet_add (C2.out _)))
  go_wp2_with fail
  go_quiet ((go_at_call 11; first | exact Calls.quiet_of (C2.out _) | exact quiet_add (C2.out _)))
  go_wp2_with fail
  refine (low_any more 4 _ (by omega) (by omega)).mono ?_
  rintro e w3 ⟨rfl, rfl⟩
  rw [HQ.out]
  go_wp2_with fail
  go_loopw [8, 9] (fun v i wr => ∃ (k : Nat) (A' : Option Addr) (c' : Nat), k ≤ 2 ∧ i = .int .i64 (1 - (k : Int)) ∧ v = .slice A' k c' ∧ wr.ownsRow w.heap.size 5 1 (.slice A' k c') k (bv ((rbytes N 2).take k)) ∧ Fr NoS w wr) (fun _ i _ => ((intOf i) + 1).toNat)
  case atStart => exact ⟨0, none, 0, by omega, rfl, rfl, World.ownsRow_nil _ _ _ _, (Fr.refl _ w).drewN _⟩
  case round =>
    obtain ⟨k, A2, c2, hk, rfl, rfl, hown, F⟩ := hrel
    have hsz := F.size
    by_cases hkm : k < 2
    · go_wp2_with (at_builtin; refine wpList_app _ rfl _ _ 23 rfl w.heap.size 5 (.int .u8 0) 1 infoB Try.underlying23 rfl (.slice A2 k c2) k _ rfl (hown.alloc _) (some ⟨wr.heap.size, 0, none⟩) 1 1 [.int .u8 _] rfl rfl (Rd.fresh _ _ _) (one_int _ _) (by unfold maxLen; omega) (by omega) (by simp; omega) ?_; intro A3 c3 w3 hown3 hgrow3 _)
      have R := pad_step hkm (rbyte_val N 2 k hN.1) F hsz (Nat.le_refl _) hown hown3 hgrow3
      clear hown3 hgrow3 hown F
      go_wp2
      go_roundw
      case rel => exact ⟨k + 1, A3, c3, by omega, by go_num, rfl, R.1, R.2⟩
      case measure => simp [intOf]; omega
    · have : k = 2 := by omega
      subst this
      rw [List.take_of_length_le (by rw [rbytes_length]; omega)] at hown
      obtain ⟨g, cap, hv, hg1, hg2⟩ := hown.form (by omega)
      injection hv with e1 _ e3
      subst e1 e3
      have hcell : wr.cell? ⟨g, 0, none⟩ = some (.int .u8 ((rbyte N 2 0).toNat : Int)) := by
        rw [hown.cellAt 0 (by omega)]; rfl
      have hfz := hown.frozenAt 0
      have hst := hown.stored 0 (.int .u8 ((vbyte N 2 0).toNat : Int))
      have hmk := rmark N 2 1 hN.1 (by omega) HF.out (by decide)
      simp only [Int.reduceMul] at hmk
      have hown2 := hst.1
      have hset : (bv (rbytes N 2)).set 0 (.int .u8 ((vbyte N 2 0).toNat : Int)) = bv (vbytes N 2) := by
        rw [← rbytes_set N 2 (by omega)]; simp [bv, List.map_set]
      rw [hset] at hown2
      have F2 : Fr NoS w (wr.setCell ⟨g, 0, none⟩ (.int .u8 ((vbyte N 2 0).toNat : Int))) := F.setCell (fun h => by simp at h; omega) _
      clear hst hset hown
      have hbeh : bv (vbytes N 2) ++ [.int .u8 beh] = bv (vbytes N 2 ++ [UInt8.ofNat beh.toNat]) := by
        rw [bv_append]; simp [bv]; omega
      have HB := Lib.hid hbeh
      clear hbeh
      go_wp2_with (at_builtin; refine wpList_app _ rfl _ _ 23 rfl w.heap.size 5 (.int .u8 0) 1 infoB Try.underlying23 rfl (.slice (some ⟨g, 0, none⟩) 2 c2) 2 (bv (vbytes N 2)) rfl (hown2.alloc _) (some ⟨wr.heap.size, 0, none⟩) 1 1 [.int .u8 beh] rfl rfl (Rd.freshAt (by simp) _ _ rfl) (one_int _ _) (by unfold maxLen; omega) (by omega) (by simp; omega) ?_; intro A3 c3 w3 hown3 hgrow3 _)
      rw [HB.out] at hown3
      have F3 : Fr NoS w w3 := (F2.alloc _).grown hgrow3 (fun j hj hlt => by simp [Value.ownBlock] at hj; omega)
      have hc3 := RetS.cap hown3
      have hgl : (vbytes N 2 ++ [UInt8.ofNat beh.toNat]).length = 2 + 1 := by simp [vbytes_length]
      have G := get_any (vbytes N 2 ++ [UInt8.ofNat beh.toNat]) A3 c3 w3 (Rd.of_own hown3) (by omega) (by omega) hc3.2
      rw [vget_vbytes N 2 _ hN.1 (by omega) HF.out, hgl] at G
      have G := Lib.hid G
      clear hown2 hown3 hcell hfz hmk hgl F2 hgrow3
      refine G.out.mono ?_
      rintro e w4 ⟨rfl, rfl⟩
      simp only [vtup]
      go_wp2_with fail
      refine (awake_any _).mono ?_
      rintro e w8 ⟨rfl, hb8⟩
      go_wp2_with fail
      go_ret
      exact ⟨rfl, Fr.below (F3.trans (Fr.of_below hb8 _))⟩

set_option maxHeartbeats 2000000 in
theorem pads_0_2 (n more beh : Int) (w : World) (N : Int) (hand : bits .and .u64 n 4611686018427387903 = N) (hN : 0 ≤ N ∧ N ≤ 4611686018427387903) (hbe : 0 ≤ beh ∧ beh ≤ 255) (hL : (vput N).length = 1) (hq : low more 4 = 2) :
    Calls Try.prog 6 #[.int .u64 n, .int .i64 more, .int .u8 beh] w fun e w' => e = .returned (.bool true) ∧ Below w.heap.size w w' := by
  have HF := Lib.hid (vput_fits N hN.2 4 (by omega))
  have C2 : ∀ W, Calls Try.prog 11 #[.int .u64 N] W fun e w' => e = .returned (.int .i64 1) ∧ ∃ k, w' = W.drewN k := fun W => by
    have := vlenp_any N W hN.1 (by omega); rw [hL] at this; exact this
  have C2 := Lib.hid C2
  have HQ := Lib.hid hq
  clear hL hq
  go_enter Try.func6, Try.ntmps6
  go_wp2_with fail
  clear hand
  refine wp_loop_rounds 1 ?_
  rw [rounds_succ]
  go_wp2_with fail
  go_quiet ((go_at_call 11; first | exact Calls.quiet_of (C2.out _) | exact quiet_add (C2.out _)))
  go_wp2_with fail
  go_quiet ((go_at_call 11; first | exact Calls.quiet_of (C2.out _) | exact quiet_add (C2.out _)))
  go_wp2_with fail
  refine (low_any more 4 _ (by omega) (by omega)).mono ?_
  rintro e w3 ⟨rfl, rfl⟩
  rw [HQ.out]
  go_wp2_with fail
  go_loopw [8, 9] (fun v i wr => ∃ (k : Nat) (A' : Option Addr) (c' : Nat), k ≤ 4 ∧ i = .int .i64 (3 - (k : Int)) ∧ v = .slice A' k c' ∧ wr.ownsRow w.heap.size 5 1 (.slice A' k c') k (bv ((rbytes N 4).take k)) ∧ Fr NoS w wr) (fun _ i _ => ((intOf i) + 1).toNat)
  case atStart => exact ⟨0, none, 0, by omega, rfl, rfl, World.ownsRow_nil _ _ _ _, (Fr.refl _ w).drewN _⟩
  case round =>
    obtain ⟨k, A2, c2, hk, rfl, rfl, hown, F⟩ := hrel
    have hsz := F.size
    by_cases hkm : k < 4
    · go_wp2_with (at_builtin; refine wpList_app _ rfl _ _ 23 rfl w.heap.size 5 (.int .u8 0) 1 infoB Try.underlying23 rfl (.slice A2 k c2) k _ rfl (hown.alloc _) (some ⟨wr.heap.size, 0, none⟩) 1 1 [.int .u8 _] rfl rfl (Rd.fresh _ _ _) (one_int _ _) (by unfold maxLen; omega) (by omega) (by simp; omega) ?_; intro A3 c3 w3 hown3 hgrow3 _)
      have R := pad_step hkm (rbyte_val N 4 k hN.1) F hsz (Nat.le_refl _) hown hown3 hgrow3
      clear hown3 hgrow3 hown F
      go_wp2
      go_roundw
      case rel => exact ⟨k + 1, A3, c3, by omega, by go_num, rfl, R.1, R.2⟩
      case measure => simp [intOf]; omega
    · have : k = 4 := by omega
      subst this
      rw [List.take_of_length_le (by rw [rbytes_length]; omega)] at hown
      obtain ⟨g, cap, hv, hg1, hg2⟩ := hown.form (by omega)
      injection hv with e1 _ e3
      subst e1 e3
      have hcell : wr.cell? ⟨g, 0, none⟩ = some (.int .u8 ((rbyte N 4 0).toNat : Int)) := by
        rw [hown.cellAt 0 (by omega)]; rfl
      have hfz := hown.frozenAt 0
      have hst := hown.stored 0 (.int .u8 ((vbyte N 4 0).toNat : Int))
      have hmk := rmark N 4 2 hN.1 (by omega) HF.out (by decide)
      simp only [Int.reduceMul] at hmk
      have hown2 := hst.1
      have hset : (bv (rbytes N 4)).set 0 (.int .u8 ((vbyte N 4 0).toNat : Int)) = bv (vbytes N 4) := by
        rw [← rbytes_set N 4 (by omega)]; simp [bv, List.map_set]
      rw [hset] at hown2
      have F2 : Fr NoS w (wr.setCell ⟨g, 0, none⟩ (.int .u8 ((vbyte N 4 0).toNat : Int))) := F.setCell (fun h => by simp at h; omega) _
      clear hst hset hown
      have hbeh : bv (vbytes N 4) ++ [.int .u8 beh] = bv (vbytes N 4 ++ [UInt8.ofNat beh.toNat]) := by
        rw [bv_append]; simp [bv]; omega
      have HB := Lib.hid hbeh
      clear hbeh
      go_wp2_with (at_builtin; refine wpList_app _ rfl _ _ 23 rfl w.heap.size 5 (.int .u8 0) 1 infoB Try.underlying23 rfl (.slice (some ⟨g, 0, none⟩) 4 c2) 4 (bv (vbytes N 4)) rfl (hown2.alloc _) (some ⟨wr.heap.size, 0, none⟩) 1 1 [.int .u8 beh] rfl rfl (Rd.freshAt (by simp) _ _ rfl) (one_int _ _) (by unfold maxLen; omega) (by omega) (by simp; omega) ?_; intro A3 c3 w3 hown3 hgrow3 _)
      rw [HB.out] at hown3
      have F3 : Fr NoS w w3 := (F2.alloc _).grown hgrow3 (fun j hj hlt => by simp [Value.ownBlock] at hj; omega)
      have hc3 := RetS.cap hown3
      have hgl : (vbytes N 4 ++ [UInt8.ofNat beh.toNat]).length = 4 + 1 := by simp [vbytes_length]
      have G := get_any (vbytes N 4 ++ [UInt8.ofNat beh.toNat]) A3 c3 w3 (Rd.of_own hown3) (by omega) (by omega) hc3.2
      rw [vget_vbytes N 4 _ hN.1 (by omega) HF.out, hgl] at G
      have G := Lib.hid G
      clear hown2 hown3 hcell hfz hmk hgl F2 hgrow3
      refine G.out.mono ?_
      rintro e w4 ⟨rfl, rfl⟩
      simp only [vtup]
      go_wp2_with fail
      refine (awake_any _).mono ?_
      rintro e w8 ⟨rfl, hb8⟩
      go_wp2_with fail
      go_ret
      exact ⟨rfl, Fr.below (F3.trans (Fr.of_below hb8 _))⟩

set_option maxHeartbeats 2000000 in
theorem pads_0_3 (n more beh : Int) (w : World) (N : Int) (hand : bits .and .u64 n 4611686018427387903 = N) (hN : 0 ≤ N ∧ N ≤ 4611686018427387903) (hbe : 0 ≤ beh ∧ beh ≤ 255) (hL : (vput N).length = 1) (hq : low more 4 = 3) :
    Calls Try.prog 6 #[.int .u64 n, .int .i64 more, .int .u8 beh] w fun e w' => e = .returned (.bool true) ∧ Below w.heap.size w w' := by
  have HF := Lib.hid (vput_fits N hN.2 8 (by omega))
  have C2 : ∀ W, Calls Try.prog 11 #[.int .u64 N] W fun e w' => e = .returned (.int .i64 1) ∧ ∃ k, w' = W.drewN k := fun W => by
    have := vlenp_any N W hN.1 (by omega); rw [hL] at this; exact this
  have C2 := Lib.hid C2
  have HQ := Lib.hid hq
  clear hL hq
  go_enter Try.func6, Try.ntmps6
  go_wp2_with fail
  clear hand
  refine wp_loop_rounds 1 ?_
  rw [rounds_succ]
  go_wp2_with fail
  go_quiet ((go_at_call 11; first | exact Calls.quiet_of (C2.out _) | exact quiet_add (C2.out _)))
  go_wp2_with fail
  go_quiet ((go_at_call 11; first | exact Calls.quiet_of (C2.out _) | exact quiet_add (C2.out _)))
  go_wp2_with fail
  refine (low_any more 4 _ (by omega) (by omega)).mono ?_
  rintro e w3 ⟨rfl, rfl⟩
  rw [HQ.out]
  go_wp2_with fail
  go_loopw [8, 9] (fun v i wr => ∃ (k : Nat) (A' : Option Addr) (c' : Nat), k ≤ 8 ∧ i = .int .i64 (7 - (k : Int)) ∧ v = .slice A' k c' ∧ wr.ownsRow w.heap.size 5 1 (.slice A' k c') k (bv ((rbytes N 8).take k)) ∧ Fr NoS w wr) (fun _ i _ => ((intOf i) + 1).toNat)
  case atStart => exact ⟨0, none, 0, by omega, rfl, rfl, World.ownsRow_nil _ _ _ _, (Fr.refl _ w).drewN _⟩
  case round =>
    obtain ⟨k, A2, c2, hk, rfl, rfl, hown, F⟩ := hrel
    have hsz := F.size
    by_cases hkm : k < 8
    · go_wp2_with (at_builtin; refine wpList_app _ rfl _ _ 23 rfl w.heap.size 5 (.int .u8 0) 1 infoB Try.underlying23 rfl (.slice A2 k c2) k _ rfl (hown.alloc _) (some ⟨wr.heap.size, 0, none⟩) 1 1 [.int .u8 _] rfl rfl (Rd.fresh _ _ _) (one_int _ _) (by unfold maxLen; omega) (by omega) (by simp; omega) ?_; intro A3 c3 w3 hown3 hgrow3 _)
      have R := pad_step hkm (rbyte_val N 8 k hN.1) F hsz (Nat.le_refl _) hown hown3 hgrow3
      clear hown3 hgrow3 hown F
      go_wp2
      go_roundw
      case rel => exact ⟨k + 1, A3, c3, by omega, by go_num, rfl, R.1, R.2⟩
      case measure => simp [intOf]; omega
    · have : k = 8 := by omega
      subst this
      rw [List.take_of_length_le (by rw [rbytes_length]; omega)] at hown
      obtain ⟨g, cap, hv, hg1, hg2⟩ := hown.form (by omega)
      injection hv with e1 _ e3
      subst e1 e3
      have hcell : wr.cell? ⟨g, 0, none⟩ = some (.int .u8 ((rbyte N 8 0).toNat : Int)) := by
        rw [hown.cellAt 0 (by omega)]; rfl
      have hfz := hown.frozenAt 0
      have hst := hown.stored 0 (.int .u8 ((vbyte N 8 0).toNat : Int))
      have hmk := rmark N 8 3 hN.1 (by omega) HF.out (by decide)
      simp only [Int.reduceMul] at hmk
      have hown2 := hst.1
      have hset : (bv (rbytes N 8)).set 0 (.int .u8 ((vbyte N 8 0).toNat : Int)) = bv (vbytes N 8) := by
        rw [← rbytes_set N 8 (by omega)]; simp [bv, List.map_set]
      rw [hset] at hown2
      have F2 : Fr NoS w (wr.setCell ⟨g, 0, none⟩ (.int .u8 ((vbyte N 8 0).toNat : Int))) := F.setCell (fun h => by simp at h; omega) _
      clear hst hset hown
      have hbeh : bv (vbytes N 8) ++ [.int .u8 beh] = bv (vbytes N 8 ++ [UInt8.ofNat beh.toNat]) := by
        rw [bv_append]; simp [bv]; omega
      have HB := Lib.hid hbeh
      clear hbeh
      go_wp2_with (at_builtin; refine wpList_app _ rfl _ _ 23 rfl w.heap.size 5 (.int .u8 0) 1 infoB Try.underlying23 rfl (.slice (some ⟨g, 0, none⟩) 8 c2) 8 (bv (vbytes N 8)) rfl (hown2.alloc _) (some ⟨wr.heap.size, 0, none⟩) 1 1 [.int .u8 beh] rfl rfl (Rd.freshAt (by simp) _ _ rfl) (one_int _ _) (by unfold maxLen; omega) (by omega) (by simp; omega) ?_; intro A3 c3 w3 hown3 hgrow3 _)
      rw [HB.out] at hown3
      have F3 : Fr NoS w w3 := (F2.alloc _).grown hgrow3 (fun j hj hlt => by simp [Value.ownBlock] at hj; omega)
      have hc3 := RetS.cap hown3
      have hgl : (vbytes N 8 ++ [UInt8.ofNat beh.toNat]).length = 8 + 1 := by simp [vbytes_length]
      have G := get_any (vbytes N 8 ++ [UInt8.ofNat beh.toNat]) A3 c3 w3 (Rd.of_own hown3) (by omega) (by omega) hc3.2
      rw [vget_vbytes N 8 _ hN.1 (by omega) HF.out, hgl] at G
      have G := Lib.hid G
      clear hown2 hown3 hcell hfz hmk hgl F2 hgrow3
      refine G.out.mono ?_
      rintro e w4 ⟨rfl, rfl⟩
      simp only [vtup]
      go_wp2_with fail
      refine (awake_any _).mono ?_
      rintro e w8 ⟨rfl, hb8⟩
      go_wp2_with fail
      go_ret
      exact ⟨rfl, Fr.below (F3.trans (Fr.of_below hb8 _))⟩

set_option maxHeartbeats 2000000 in
theorem pads_1_0 (n more beh : Int) (w : World) (N : Int) (hand : bits .and .u64 n 4611686018427387903 = N) (hN : 0 ≤ N ∧ N ≤ 4611686018427387903) (hbe : 0 ≤ beh ∧ beh ≤ 255) (hL : (vput N).length = 2) (hq : low more 3 = 0) :
    Calls Try.prog 6 #[.int .u64 n, .int .i64 more, .int .u8 beh] w fun e w' => e = .returned (.bool true) ∧ Below w.heap.size w w' := by
  have HF := Lib.hid (vput_fits N hN.2 2 (by omega))
  have C2 : ∀ W, Calls Try.prog 11 #[.int .u64 N] W fun e w' => e = .returned (.int .i64 2) ∧ ∃ k, w' = W.drewN k := fun W => by
    have := vlenp_any N W hN.1 (by omega); rw [hL] at this; exact this
  have C2 := Lib.hid C2
  have HQ := Lib.hid hq
  clear hL hq
  go_enter Try.func6, Try.ntmps6
  go_wp2_with fail
  clear hand
  refine wp_loop_rounds 2 ?_
  rw [rounds_succ]
  go_wp2_with fail
  go_quiet ((go_at_call 11; first | exact Calls.quiet_of (C2.out _) | exact quiet_add (C2.out _)))
  go_wp2_with fail
  rw [rounds_succ]
  go_wp2_with fail
  go_quiet ((go_at_call 11; first | exact Calls.quiet_of (C2.out _) | exact quiet_add (C2.out _)))
  go_wp2_with fail
  go_quiet ((go_at_call 11; first | exact Calls.quiet_of (C2.out _) | exact quiet_add (C2.out _)))
  go_wp2_with fail
  refine (low_any more 3 _ (by omega) (by omega)).mono ?_
  rintro e w3 ⟨rfl, rfl⟩
  rw [HQ.out]
  go_wp2_with fail
  go_loopw [8, 9] (fun v i wr => ∃ (k : Nat) (A' : Option Addr) (c' : Nat), k ≤ 2 ∧ i = .int .i64 (1 - (k : Int)) ∧ v = .slice A' k c' ∧ wr.ownsRow w.heap.size 5 1 (.slice A' k c') k (bv ((rbytes N 2).take k)) ∧ Fr NoS w wr) (fun _ i _ => ((intOf i) + 1).toNat)
  case atStart => exact ⟨0, none, 0, by omega, rfl, rfl, World.ownsRow_nil _ _ _ _, (Fr.refl _ w).drewN _⟩
  case round =>
    obtain ⟨k, A2, c2, hk, rfl, rfl, hown, F⟩ := hrel
    have hsz := F.size
    by_cases hkm : k < 2
    · go_wp2_with (at_builtin; refine wpList_app _ rfl _ _ 23 rfl w.heap.size 5 (.int .u8 0) 1 infoB Try.underlying23 rfl (.slice A2 k c2) k _ rfl (hown.alloc _) (some ⟨wr.heap.size, 0, none⟩) 1 1 [.int .u8 _] rfl rfl (Rd.fresh _ _ _) (one_int _ _) (by unfold maxLen; omega) (by omega) (by simp; omega) ?_; intro A3 c3 w3 hown3 hgrow3 _)
      have R := pad_step hkm (rbyte_val N 2 k hN.1) F hsz (Nat.le_refl _) hown hown3 hgrow3
      clear hown3 hgrow3 hown F
      go_wp2
      go_roundw
      case rel => exact ⟨k + 1, A3, c3, by omega, by go_num, rfl, R.1, R.2⟩
      case measure => simp [intOf]; omega
    · have : k = 2 := by omega
      subst this
      rw [List.take_of_length_le (by rw [rbytes_length]; omega)] at hown
      obtain ⟨g, cap, hv, hg1, hg2⟩ := hown.form (by omega)
      injection hv with e1 _ e3
      subst e1 e3
      have hcell : wr.cell? ⟨g, 0, none⟩ = some (.int .u8 ((rbyte N 2 0).toNat : Int)) := by
        rw [hown.cellAt 0 (by omega)]; rfl
      have hfz := hown.frozenAt 0
      have hst := hown.stored 0 (.int .u8 ((vbyte N 2 0).toNat : Int))
      have hmk := rmark N 2 1 hN.1 (by omega) HF.out (by decide)
      simp only [Int.reduceMul] at hmk
      have hown2 := hst.1
      have hset : (bv (rbytes N 2)).set 0 (.int .u8 ((vbyte N 2 0).toNat : Int)) = bv (vbytes N 2) := by
        rw [← rbytes_set N 2 (by omega)]; simp [bv, List.map_set]
      rw [hset] at hown2
      have F2 : Fr NoS w (wr.setCell ⟨g, 0, none⟩ (.int .u8 ((vbyte N 2 0).toNat : Int))) := F.setCell (fun h => by simp at h; omega) _
      clear hst hset hown
      have hbeh : bv (vbytes N 2) ++ [.int .u8 beh] = bv (vbytes N 2 ++ [UInt8.ofNat beh.toNat]) := by
        rw [bv_append]; simp [bv]; omega
      have HB := Lib.hid hbeh
      clear hbeh
      go_wp2_with (at_builtin; refine wpList_app _ rfl _ _ 23 rfl w.heap.size 5 (.int .u8 0) 1 infoB Try.underlying23 rfl (.slice (some ⟨g, 0, none⟩) 2 c2) 2 (bv (vbytes N 2)) rfl (hown2.alloc _) (some ⟨wr.heap.size, 0, none⟩) 1 1 [.int .u8 beh] rfl rfl (Rd.freshAt (by simp) _ _ rfl) (one_int _ _) (by unfold maxLen; omega) (by omega) (by simp; omega) ?_; intro A3 c3 w3 hown3 hgrow3 _)
      rw [HB.out] at hown3
      have F3 : Fr NoS w w3 := (F2.alloc _).grown hgrow3 (fun j hj hlt => by simp [Value.ownBlock] at hj; omega)
      have hc3 := RetS.cap hown3
      have hgl : (vbytes N 2 ++ [UInt8.ofNat beh.toNat]).length = 2 + 1 := by simp [vbytes_length]
      have G := get_any (vbytes N 2 ++ [UInt8.ofNat beh.toNat]) A3 c3 w3 (Rd.of_own hown3) (by omega) (by omega) hc3.2
      rw [vget_vbytes N 2 _ hN.1 (by omega) HF.out, hgl] at G
      have G := Lib.hid G
      clear hown2 hown3 hcell hfz hmk hgl F2 hgrow3
      refine G.out.mono ?_
      rintro e w4 ⟨rfl, rfl⟩
      simp only [vtup]
      go_wp2_with fail
      refine (awake_any _).mono ?_
      rintro e w8 ⟨rfl, hb8⟩
      go_wp2_with fail
      go_ret
      exact ⟨rfl, Fr.below (F3.trans (Fr.of_below hb8 _))⟩

set_option maxHeartbeats 2000000 in
theorem pads_1_1 (n more beh : Int) (w : World) (N : Int) (hand : bits .and .u64 n 4611686018427387903 = N) (hN : 0 ≤ N ∧ N ≤ 4611686018427387903) (hbe : 0 ≤ beh ∧ beh ≤ 255) (hL : (vput N).length = 2) (hq : low more 3 = 1) :
    Calls Try.prog 6 #[.int .u64 n, .int .i64 more, .int .u8 beh] w fun e w' => e = .returned (.bool true) ∧ Below w.heap.size w w' := by
  have HF := Lib.hid (vput_fits N hN.2 4 (by omega))
  have C2 : ∀ W, Calls Try.prog 11 #[.int .u64 N] W fun e w' => e = .returned (.int .i64 2) ∧ ∃ k, w' = W.drewN k := fun W => by
    have := vlenp_any N W hN.1 (by omega); rw [hL] at this; exact this
  have C2 := Lib.hid C2
  have HQ := Lib.hid hq
  clear hL hq
  go_enter Try.func6, Try.ntmps6
  go_wp2_with fail
  clear hand
  refine wp_loop_rounds 2 ?_
  rw [rounds_succ]
  go_wp2_with fail
  go_quiet ((go_at_call 11; first | exact Calls.quiet_of (C2.out _) | exact quiet_add (C2.out _)))
  go_wp2_with fail
  rw [rounds_succ]
  go_wp2_with fail
  go_quiet ((go_at_call 11; first | exact Calls.quiet_of (C2.out _) | exact quiet_add (C2.out _)))
  go_wp2_with fail
  go_quiet ((go_at_call 11; first | exact Calls.quiet_of (C2.out _) | exact quiet_add (C2.out _)))
  go_wp2_with fail
  refine (low_any more 3 _ (by omega) (by omega)).mono ?_
  rintro e w3 ⟨rfl, rfl⟩
  rw [HQ.out]
  go_wp2_with fail
  go_loopw [8, 9] (fun v i wr => ∃ (k : Nat) (A' : Option Addr) (c' : Nat), k ≤ 4 ∧ i = .int .i64 (3 - (k : Int)) ∧ v = .slice A' k c' ∧ wr.ownsRow w.heap.size 5 1 (.slice A' k c') k (bv ((rbytes N 4).take k)) ∧ Fr NoS w wr) (fun _ i _ => ((intOf i) + 1).toNat)
  case atStart => exact ⟨0, none, 0, by omega, rfl, rfl, World.ownsRow_nil _ _ _ _, (Fr.refl _ w).drewN _⟩
  case round =>
    obtain ⟨k, A2, c2, hk, rfl, rfl, hown, F⟩ := hrel
    have hsz := F.size
    by_cases hkm : k < 4
    · go_wp2_with (at_builtin; refine wpList_app _ rfl _ _ 23 rfl w.heap.size 5 (.int .u8 0) 1 infoB Try.underlying23 rfl (.slice A2 k c2) k _ rfl (hown.alloc _) (some ⟨wr.heap.size, 0, none⟩) 1 1 [.int .u8 _] rfl rfl (Rd.fresh _ _ _) (one_int _ _) (by unfold maxLen; omega) (by omega) (by simp; omega) ?_; intro A3 c3 w3 hown3 hgrow3 _)
      have R := pad_step hkm (rbyte_val N 4 k hN.1) F hsz (Nat.le_refl _) hown hown3 hgrow3
      clear hown3 hgrow3 hown F
      go_wp2
      go_roundw
      case rel => exact ⟨k + 1, A3, c3, by omega, by go_num, rfl, R.1, R.2⟩
      case measure => simp [intOf]; omega
    · have : k = 4 := by omega
      subst this
      rw [List.take_of_length_le (by rw [rbytes_length]; omega)] at hown
      obtain ⟨g, cap, hv, hg1, hg2⟩ := hown.form (by omega)
      injection hv with e1 _ e3
      subst e1 e3
      have hcell : wr.cell? ⟨g, 0, none⟩ = some (.int .u8 ((rbyte N 4 0).toNat : Int)) := by
        rw [hown.cellAt 0 (by omega)]; rfl
      have hfz := hown.frozenAt 0
      have hst := hown.stored 0 (.int .u8 ((vbyte N 4 0).toNat : Int))
      have hmk := rmark N 4 2 hN.1 (by omega) HF.out (by decide)
      simp only [Int.reduceMul] at hmk
      have hown2 := hst.1
      have hset : (bv (rbytes N 4)).set 0 (.int .u8 ((vbyte N 4 0).toNat : Int)) = bv (vbytes N 4) := by
        rw [← rbytes_set N 4 (by omega)]; simp [bv, List.map_set]
      rw [hset] at hown2
      have F2 : Fr NoS w (wr.setCell ⟨g, 0, none⟩ (.int .u8 ((vbyte N 4 0).toNat : Int))) := F.setCell (fun h => by simp at h; omega) _
      clear hst hset hown
      have hbeh : bv (vbytes N 4) ++ [.int .u8 beh] = bv (vbytes N 4 ++ [UInt8.ofNat beh.toNat]) := by
        rw [bv_append]; simp [bv]; omega
      have HB := Lib.hid hbeh
      clear hbeh
      go_wp2_with (at_builtin; refine wpList_app _ rfl _ _ 23 rfl w.heap.size 5 (.int .u8 0) 1 infoB Try.underlying23 rfl (.slice (some ⟨g, 0, none⟩) 4 c2) 4 (bv (vbytes N 4)) rfl (hown2.alloc _) (some ⟨wr.heap.size, 0, none⟩) 1 1 [.int .u8 beh] rfl rfl (Rd.freshAt (by simp) _ _ rfl) (one_int _ _) (by unfold maxLen; omega) (by omega) (by simp; omega) ?_; intro A3 c3 w3 hown3 hgrow3 _)
      rw [HB.out] at hown3
      have F3 : Fr NoS w w3 := (F2.alloc _).grown hgrow3 (fun j hj hlt => by simp [Value.ownBlock] at hj; omega)
      have hc3 := RetS.cap hown3
      have hgl : (vbytes N 4 ++ [UInt8.ofNat beh.toNat]).length = 4 + 1 := by simp [vbytes_length]
      have G := get_any (vbytes N 4 ++ [UInt8.ofNat beh.toNat]) A3 c3 w3 (Rd.of_own hown3) (by omega) (by omega) hc3.2
      rw [vget_vbytes N 4 _ hN.1 (by omega) HF.out, hgl] at G
      have G := Lib.hid G
      clear hown2 hown3 hcell hfz hmk hgl F2 hgrow3
      refine G.out.mono ?_
      rintro e w4 ⟨rfl, rfl⟩
      simp only [vtup]
      go_wp2_with fail
      refine (awake_any _).mono ?_
      rintro e w8 ⟨rfl, hb8⟩
      go_wp2_with fail
      go_ret
      exact ⟨rfl, Fr.below (F3.trans (Fr.of_below hb8 _))⟩

set_option maxHeartbeats 2000000 in
theorem pads_1_2 (n more beh : Int) (w : World) (N : Int) (hand : bits .and .u64 n 4611686018427387903 = N) (hN : 0 ≤ N ∧ N ≤ 4611686018427387903) (hbe : 0 ≤ beh ∧ beh ≤ 255) (hL : (vput N).length = 2) (hq : low more 3 = 2) :
    Calls Try.prog 6 #[.int .u64 n, .int .i64 more, .int .u8 beh] w fun e w' => e = .returned (.bool true) ∧ Below w.heap.size w w' := by
  have HF := Lib.hid (vput_fits N hN.2 8 (by omega))
  have C2 : ∀ W, Calls Try.prog 11 #[.int .u64 N] W fun e w' => e = .returned (.int .i64 2) ∧ ∃ k, w' = W.drewN k := fun W => by
    have := vlenp_any N W hN.1 (by omega); rw [hL] at this; exact this
  have C2 := Lib.hid C2
  have HQ := Lib.hid hq
  clear hL hq
  go_enter Try.func6, Try.ntmps6
  go_wp2_with fail
  clear hand
  refine wp_loop_rounds 2 ?_
  rw [rounds_succ]
  go_wp2_with fail
  go_quiet ((go_at_call 11; first | exact Calls.quiet_of (C2.out _) | exact quiet_add (C2.out _)))
  go_wp2_with fail
  rw [rounds_succ]
  go_wp2_with fail
  go_quiet ((go_at_call 11; first | exact Calls.quiet_of (C2.out _) | exact quiet_add (C2.out _)))
  go_wp2_with fail
  go_quiet ((go_at_call 11; first | exact Calls.quiet_of (C2.out _) | exact quiet_add (C2.out _)))
  go_wp2_with fail
  refine (low_any more 3 _ (by omega) (by omega)).mono ?_
  rintro e w3 ⟨rfl, rfl⟩
  rw [HQ.out]
  go_wp2_with fail
  go_loopw [8, 9] (fun v i wr => ∃ (k : Nat) (A' : Option Addr) (c' : Nat), k ≤ 8 ∧ i = .int .i64 (7 - (k : Int)) ∧ v = .slice A' k c' ∧ wr.ownsRow w.heap.size 5 1 (.slice A' k c') k (bv ((rbytes N 8).take k)) ∧ Fr NoS w wr) (fun _ i _ => ((intOf i) + 1).toNat)
  case atStart => exact ⟨0, none, 0, by omega, rfl, rfl, World.ownsRow_nil _ _ _ _, (Fr.refl _ w).drewN _⟩
  case round =>
    obtain ⟨k, A2, c2, hk, rfl, rfl, hown, F⟩ := hrel
    have hsz := F.size
    by_cases hkm : k < 8
    · go_wp2_with (at_builtin; refine wpList_app _ rfl _ _ 23 rfl w.heap.size 5 (.int .u8 0) 1 infoB Try.underlying23 rfl (.slice A2 k c2) k _ rfl (hown.alloc _) (some ⟨wr.heap.size, 0, none⟩) 1 1 [.int .u8 _] rfl rfl (Rd.fresh _ _ _) (one_int _ _) (by unfold maxLen; omega) (by omega) (by simp; omega) ?_; intro A3 c3 w3 hown3 hgrow3 _)
      have R := pad_step hkm (rbyte_val N 8 k hN.1) F hsz (Nat.le_refl _) hown hown3 hgrow3
      clear hown3 hgrow3 hown F
      go_wp2
      go_roundw
      case rel => exact ⟨k + 1, A3, c3, by omega, by go_num, rfl, R.1, R.2⟩
      case measure => simp [intOf]; omega
    · have : k = 8 := by omega
      subst this
      rw [List.take_of_length_le (by rw [rbytes_length]; omega)] at hown
      obtain ⟨g, cap, hv, hg1, hg2⟩ := hown.form (by omega)
      injection hv with e1 _ e3
      subst e1 e3
      have hcell : wr.cell? ⟨g, 0, none⟩ = some (.int .u8 ((rbyte N 8 0).toNat : Int)) := by
        rw [hown.cellAt 0 (by omega)]; rfl
      have hfz := hown.frozenAt 0
      have hst := hown.stored 0 (.int .u8 ((vbyte N 8 0).toNat : Int))
      have hmk := rmark N 8 3 hN.1 (by omega) HF.out (by decide)
      simp only [Int.reduceMul] at hmk
      have hown2 := hst.1
      have hset : (bv (rbytes N 8)).set 0 (.int .u8 ((vbyte N 8 0).toNat : Int)) = bv (vbytes N 8) := by
        rw [← rbytes_set N 8 (by omega)]; simp [bv, List.map_set]
      rw [hset] at hown2
      have F2 : Fr NoS w (wr.setCell ⟨g, 0, none⟩ (.int .u8 ((vbyte N 8 0).toNat : Int))) := F.setCell (fun h => by simp at h; omega) _
      clear hst hset hown
      have hbeh : bv (vbytes N 8) ++ [.int .u8 beh] = bv (vbytes N 8 ++ [UInt8.ofNat beh.toNat]) := by
        rw [bv_append]; simp [bv]; omega
      have HB := Lib.hid hbeh
      clear hbeh
      go_wp2_with (at_builtin; refine wpList_app _ rfl _ _ 23 rfl w.heap.size 5 (.int .u8 0) 1 infoB Try.underlying23 rfl (.slice (some ⟨g, 0, none⟩) 8 c2) 8 (bv (vbytes N 8)) rfl (hown2.alloc _) (some ⟨wr.heap.size, 0, none⟩) 1 1 [.int .u8 beh] rfl rfl (Rd.freshAt (by simp) _ _ rfl) (one_int _ _) (by unfold maxLen; omega) (by omega) (by simp; omega) ?_; intro A3 c3 w3 hown3 hgrow3 _)
      rw [HB.out] at hown3
      have F3 : Fr NoS w w3 := (F2.alloc _).grown hgrow3 (fun j hj hlt => by simp [Value.ownBlock] at hj; omega)
      have hc3 := RetS.cap hown3
      have hgl : (vbytes N 8 ++ [UInt8.ofNat beh.toNat]).length = 8 + 1 := by simp [vbytes_length]
      have G := get_any (vbytes N 8 ++ [UInt8.ofNat beh.toNat]) A3 c3 w3 (Rd.of_own hown3) (by omega) (by omega) hc3.2
      rw [vget_vbytes N 8 _ hN.1 (by omega) HF.out, hgl] at G
      have G := Lib.hid G
      clear hown2 hown3 hcell hfz hmk hgl F2 hgrow3
      refine G.out.mono ?_
      rintro e w4 ⟨rfl, rfl⟩
      simp only [vtup]
      go_wp2_with fail
      refine (awake_any _).mono ?_
      rintro e w8 ⟨rfl, hb8⟩
      go_wp2_with fail
      go_ret
      exact ⟨rfl, Fr.below (F3.trans (Fr.of_below hb8 _))⟩

set_option maxHeartbeats 2000000 in
theorem pads_2_0 (n more beh : Int) (w : World) (N : Int) (hand : bits .and .u64 n 4611686018427387903 = N) (hN : 0 ≤ N ∧ N ≤ 4611686018427387903) (hbe : 0 ≤ beh ∧ beh ≤ 255) (hL : (vput N).length = 4) (hq : low more 2 = 0) :
    Calls Try.prog 6 #[.int .u64 n, .int .i64 more, .int .u8 beh] w fun e w' => e = .returned (.bool true) ∧ Below w.heap.size w w' := by
  have HF := Lib.hid (vput_fits N hN.2 4 (by omega))
  have C2 : ∀ W, Calls Try.prog 11 #[.int .u64 N] W fun e w' => e = .returned (.int .i64 4) ∧ ∃ k, w' = W.drewN k := fun W => by
    have := vlenp_any N W hN.1 (by omega); rw [hL] at this; exact this
  have C2 := Lib.hid C2
  have HQ := Lib.hid hq
  clear hL hq
  go_enter Try.func6, Try.ntmps6
  go_wp2_with fail
  clear hand
  refine wp_loop_rounds 3 ?_
  rw [rounds_succ]
  go_wp2_with fail
  go_quiet ((go_at_call 11; first | exact Calls.quiet_of (C2.out _) | exact quiet_add (C2.out _)))
  go_wp2_with fail
  rw [rounds_succ]
  go_wp2_with fail
  go_quiet ((go_at_call 11; first | exact Calls.quiet_of (C2.out _) | exact quiet_add (C2.out _)))
  go_wp2_with fail
  rw [rounds_succ]
  go_wp2_with fail
  go_quiet ((go_at_call 11; first | exact Calls.quiet_of (C2.out _) | exact quiet_add (C2.out _)))
  go_wp2_with fail
  go_quiet ((go_at_call 11; first | exact Calls.quiet_of (C2.out _) | exact quiet_add (C2.out _)))
  go_wp2_with fail
  refine (low_any more 2 _ (by omega) (by omega)).mono ?_
  rintro e w3 ⟨rfl, rfl⟩
  rw [HQ.out]
  go_wp2_with fail
  go_loopw [8, 9] (fun v i wr => ∃ (k : Nat) (A' : Option Addr) (c' : Nat), k ≤ 4 ∧ i = .int .i64 (3 - (k : Int)) ∧ v = .slice A' k c' ∧ wr.ownsRow w.heap.size 5 1 (.slice A' k c') k (bv ((rbytes N 4).take k)) ∧ Fr NoS w wr) (fun _ i _ => ((intOf i) + 1).toNat)
  case atStart => exact ⟨0, none, 0, by omega, rfl, rfl, World.ownsRow_nil _ _ _ _, (Fr.refl _ w).drewN _⟩
  case round =>
    obtain ⟨k, A2, c2, hk, rfl, rfl, hown, F⟩ := hrel
    have hsz := F.size
    by_cases hkm : k < 4
    · go_wp2_with (at_builtin; refine wpList_app _ rfl _ _ 23 rfl w.heap.size 5 (.int .u8 0) 1 infoB Try.underlying23 rfl (.slice A2 k c2) k _ rfl (hown.alloc _) (some ⟨wr.heap.size, 0, none⟩) 1 1 [.int .u8 _] rfl rfl (Rd.fresh _ _ _) (one_int _ _) (by unfold maxLen; omega) (by omega) (by simp; omega) ?_; intro A3 c3 w3 hown3 hgrow3 _)
      have R := pad_step hkm (rbyte_val N 4 k hN.1) F hsz (Nat.le_refl _) hown hown3 hgrow3
      clear hown3 hgrow3 hown F
      go_wp2
      go_roundw
      case rel => exact ⟨k + 1, A3, c3, by omega, by go_num, rfl, R.1, R.2⟩
      case measure => simp [intOf]; omega
    · have : k = 4 := by omega
      subst this
      rw [List.take_of_length_le (by rw [rbytes_length]; omega)] at hown
      obtain ⟨g, cap, hv, hg1, hg2⟩ := hown.form (by omega)
      injection hv with e1 _ e3
      subst e1 e3
      have hcell : wr.cell? ⟨g, 0, none⟩ = some (.int .u8 ((rbyte N 4 0).toNat : Int)) := by
        rw [hown.cellAt 0 (by omega)]; rfl
      have hfz := hown.frozenAt 0
      have hst := hown.stored 0 (.int .u8 ((vbyte N 4 0).toNat : Int))
      have hmk := rmark N 4 2 hN.1 (by omega) HF.out (by decide)
      simp only [Int.reduceMul] at hmk
      have hown2 := hst.1
      have hset : (bv (rbytes N 4)).set 0 (.int .u8 ((vbyte N 4 0).toNat : Int)) = bv (vbytes N 4) := by
        rw [← rbytes_set N 4 (by omega)]; simp [bv, List.map_set]
      rw [hset] at hown2
      have F2 : Fr NoS w (wr.setCell ⟨g, 0, none⟩ (.int .u8 ((vbyte N 4 0).toNat : Int))) := F.setCell (fun h => by simp at h; omega) _
      clear hst hset hown
      have hbeh : bv (vbytes N 4) ++ [.int .u8 beh] = bv (vbytes N 4 ++ [UInt8.ofNat beh.toNat]) := by
        rw [bv_append]; simp [bv]; omega
      have HB := Lib.hid hbeh
      clear hbeh
      go_wp2_with (at_builtin; refine wpList_app _ rfl _ _ 23 rfl w.heap.size 5 (.int .u8 0) 1 infoB Try.underlying23 rfl (.slice (some ⟨g, 0, none⟩) 4 c2) 4 (bv (vbytes N 4)) rfl (hown2.alloc _) (some ⟨wr.heap.size, 0, none⟩) 1 1 [.int .u8 beh] rfl rfl (Rd.freshAt (by simp) _ _ rfl) (one_int _ _) (by unfold maxLen; omega) (by omega) (by simp; omega) ?_; intro A3 c3 w3 hown3 hgrow3 _)
      rw [HB.out] at hown3
      have F3 : Fr NoS w w3 := (F2.alloc _).grown hgrow3 (fun j hj hlt => by simp [Value.ownBlock] at hj; omega)
      have hc3 := RetS.cap hown3
      have hgl : (vbytes N 4 ++ [UInt8.ofNat beh.toNat]).length = 4 + 1 := by simp [vbytes_length]
      have G := get_any (vbytes N 4 ++ [UInt8.ofNat beh.toNat]) A3 c3 w3 (Rd.of_own hown3) (by omega) (by omega) hc3.2
      rw [vget_vbytes N 4 _ hN.1 (by omega) HF.out, hgl] at G
      have G := Lib.hid G
      clear hown2 hown3 hcell hfz hmk hgl F2 hgrow3
      refine G.out.mono ?_
      rintro e w4 ⟨rfl, rfl⟩
      simp only [vtup]
      go_wp2_with fail
      refine (awake_any _).mono ?_
      rintro e w8 ⟨rfl, hb8⟩
      go_wp2_with fail
      go_ret
      exact ⟨rfl, Fr.below (F3.trans (Fr.of_below hb8 _))⟩

set_option maxHeartbeats 2000000 in
theorem pads_2_1 (n more beh : Int) (w : World) (N : Int) (hand : bits .and .u64 n 4611686018427387903 = N) (hN : 0 ≤ N ∧ N ≤ 4611686018427387903) (hbe : 0 ≤ beh ∧ beh ≤ 255) (hL : (vput N).length = 4) (hq : low more 2 = 1) :
    Calls Try.prog 6 #[.int .u64 n, .int .i64 more, .int .u8 beh] w fun e w' => e = .returned (.bool true) ∧ Below w.heap.size w w' := by
  have HF := Lib.hid (vput_fits N hN.2 8 (by omega))
  have C2 : ∀ W, Calls Try.prog 11 #[.int .u64 N] W fun e w' => e = .returned (.int .i64 4) ∧ ∃ k, w' = W.drewN k := fun W => by
    have := vlenp_any N W hN.1 (by omega); rw [hL] at this; exact this
  have C2 := Lib.hid C2
  have HQ := Lib.hid hq
  clear hL hq
  go_enter Try.func6, Try.ntmps6
  go_wp2_with fail
  clear hand
  refine wp_loop_rounds 3 ?_
  rw [rounds_succ]
  go_wp2_with fail
  go_quiet ((go_at_call 11; first | exact Calls.quiet_of (C2.out _) | exact quiet_add (C2.out _)))
  go_wp2_with fail
  rw [rounds_succ]
  go_wp2_with fail
  go_quiet ((go_at_call 11; first | exact Calls.quiet_of (C2.out _) | exact quiet_add (C2.out _)))
  go_wp2_with fail
  rw [rounds_succ]
  go_wp2_with fail
  go_quiet ((go_at_call 11; first | exact Calls.quiet_of (C2.out _) | exact quiet_add (C2.out _)))
  go_wp2_with fail
  go_quiet ((go_at_call 11; first | exact Calls.quiet_of (C2.out _) | exact quiet_add (C2.out _)))
  go_wp2_with fail
  refine (low_any more 2 _ (by omega) (by omega)).mono ?_
  rintro e w3 ⟨rfl, rfl⟩
  rw [HQ.out]
  go_wp2_with fail
  go_loopw [8, 9] (fun v i wr => ∃ (k : Nat) (A' : Option Addr) (c' : Nat), k ≤ 8 ∧ i = .int .i64 (7 - (k : Int)) ∧ v = .slice A' k c' ∧ wr.ownsRow w.heap.size 5 1 (.slice A' k c') k (bv ((rbytes N 8).take k)) ∧ Fr NoS w wr) (fun _ i _ => ((intOf i) + 1).toNat)
  case atStart => exact ⟨0, none, 0, by omega, rfl, rfl, World.ownsRow_nil _ _ _ _, (Fr.refl _ w).drewN _⟩
  case round =>
    obtain ⟨k, A2, c2, hk, rfl, rfl, hown, F⟩ := hrel
    have hsz := F.size
    by_cases hkm : k < 8
    · go_wp2_with (at_builtin; refine wpList_app _ rfl _ _ 23 rfl w.heap.size 5 (.int .u8 0) 1 infoB Try.underlying23 rfl (.slice A2 k c2) k _ rfl (hown.alloc _) (some ⟨wr.heap.size, 0, none⟩) 1 1 [.int .u8 _] rfl rfl (Rd.fresh _ _ _) (one_int _ _) (by unfold maxLen; omega) (by omega) (by simp; omega) ?_; intro A3 c3 w3 hown3 hgrow3 _)
      have R := pad_step hkm (rbyte_val N 8 k hN.1) F hsz (Nat.le_refl _) hown hown3 hgrow3
      clear hown3 hgrow3 hown F
      go_wp2
      go_roundw
      case rel => exact ⟨k + 1, A3, c3, by omega, by go_num, rfl, R.1, R.2⟩
      case measure => simp [intOf]; omega
    · have : k = 8 := by omega
      subst this
      rw [List.take_of_length_le (by rw [rbytes_length]; omega)] at hown
      obtain ⟨g, cap, hv, hg1, hg2⟩ := hown.form (by omega)
      injection hv with e1 _ e3
      subst e1 e3
      have hcell : wr.cell? ⟨g, 0, none⟩ = some (.int .u8 ((rbyte N 8 0).toNat : Int)) := by
        rw [hown.cellAt 0 (by omega)]; rfl
      have hfz := hown.frozenAt 0
      have hst := hown.stored 0 (.int .u8 ((vbyte N 8 0).toNat : Int))
      have hmk := rmark N 8 3 hN.1 (by omega) HF.out (by decide)
      simp only [Int.reduceMul] at hmk
      have hown2 := hst.1
      have hset : (bv (rbytes N 8)).set 0 (.int .u8 ((vbyte N 8 0).toNat : Int)) = bv (vbytes N 8) := by
        rw [← rbytes_set N 8 (by omega)]; simp [bv, List.map_set]
      rw [hset] at hown2
      have F2 : Fr NoS w (wr.setCell ⟨g, 0, none⟩ (.int .u8 ((vbyte N 8 0).toNat : Int))) := F.setCell (fun h => by simp at h; omega) _
      clear hst hset hown
      have hbeh : bv (vbytes N 8) ++ [.int .u8 beh] = bv (vbytes N 8 ++ [UInt8.ofNat beh.toNat]) := by
        rw [bv_append]; simp [bv]; omega
      have HB := Lib.hid hbeh
      clear hbeh
      go_wp2_with (at_builtin; refine wpList_app _ rfl _ _ 23 rfl w.heap.size 5 (.int .u8 0) 1 infoB Try.underlying23 rfl (.slice (some ⟨g, 0, none⟩) 8 c2) 8 (bv (vbytes N 8)) rfl (hown2.alloc _) (some ⟨wr.heap.size, 0, none⟩) 1 1 [.int .u8 beh] rfl rfl (Rd.freshAt (by simp) _ _ rfl) (one_int _ _) (by unfold maxLen; omega) (by omega) (by simp; omega) ?_; intro A3 c3 w3 hown3 hgrow3 _)
      rw [HB.out] at hown3
      have F3 : Fr NoS w w3 := (F2.alloc _).grown hgrow3 (fun j hj hlt => by simp [Value.ownBlock] at hj; omega)
      have hc3 := RetS.cap hown3
      have hgl : (vbytes N 8 ++ [UInt8.ofNat beh.toNat]).length = 8 + 1 := by simp [vbytes_length]
      have G := get_any (vbytes N 8 ++ [UInt8.ofNat beh.toNat]) A3 c3 w3 (Rd.of_own hown3) (by omega) (by omega) hc3.2
      rw [vget_vbytes N 8 _ hN.1 (by omega) HF.out, hgl] at G
      have G := Lib.hid G
      clear hown2 hown3 hcell hfz hmk hgl F2 hgrow3
      refine G.out.mono ?_
      rintro e w4 ⟨rfl, rfl⟩
      simp only [vtup]
      go_wp2_with fail
      refine (awake_any _).mono ?_
      rintro e w8 ⟨rfl, hb8⟩
      go_wp2_with fail
      go_ret
      exact ⟨rfl, Fr.below (F3.trans (Fr.of_below hb8 _))⟩

set_option maxHeartbeats 2000000 in
theorem pads_3_0 (n more beh : Int) (w : World) (N : Int) (hand : bits .and .u64 n 4611686018427387903 = N) (hN : 0 ≤ N ∧ N ≤ 4611686018427387903) (hbe : 0 ≤ beh ∧ beh ≤ 255) (hL : (vput N).length = 8) (hq : low more 1 = 0) :
    Calls Try.prog 6 #[.int .u64 n, .int .i64 more, .int .u8 beh] w fun e w' => e = .returned (.bool true) ∧ Below w.heap.size w w' := by
  have HF := Lib.hid (vput_fits N hN.2 8 (by omega))
  have C2 : ∀ W, Calls Try.prog 11 #[.int .u64 N] W fun e w' => e = .returned (.int .i64 8) ∧ ∃ k, w' = W.drewN k := fun W => by
    have := vlenp_any N W hN.1 (by omega); rw [hL] at this; exact this
  have C2 := Lib.hid C2
  have HQ := Lib.hid hq
  clear hL hq
  go_enter Try.func6, Try.ntmps6
  go_wp2_with fail
  clear hand
  refine wp_loop_rounds 4 ?_
  rw [rounds_succ]
  go_wp2_with fail
  go_quiet ((go_at_call 11; first | exact Calls.quiet_of (C2.out _) | exact quiet_add (C2.out _)))
  go_wp2_with fail
  rw [rounds_succ]
  go_wp2_with fail
  go_quiet ((go_at_call 11; first | exact Calls.quiet_of (C2.out _) | exact quiet_add (C2.out _)))
  go_wp2_with fail
  rw [rounds_succ]
  go_wp2_with fail
  go_quiet ((go_at_call 11; first | exact Calls.quiet_of (C2.out _) | exact quiet_add (C2.out _)))
  go_wp2_with fail
  rw [rounds_succ]
  go_wp2_with fail
  go_quiet ((go_at_call 11; first | exact Calls.quiet_of (C2.out _) | exact quiet_add (C2.out _)))
  go_wp2_with fail
  go_quiet ((go_at_call 11; first | exact Calls.quiet_of (C2.out _) | exact quiet_add (C2.out _)))
  go_wp2_with fail
  refine (low_any more 1 _ (by omega) (by omega)).mono ?_
  rintro e w3 ⟨rfl, rfl⟩
  rw [HQ.out]
  go_wp2_with fail
  go_loopw [8, 9] (fun v i wr => ∃ (k : Nat) (A' : Option Addr) (c' : Nat), k ≤ 8 ∧ i = .int .i64 (7 - (k : Int)) ∧ v = .slice A' k c' ∧ wr.ownsRow w.heap.size 5 1 (.slice A' k c') k (bv ((rbytes N 8).take k)) ∧ Fr NoS w wr) (fun _ i _ => ((intOf i) + 1).toNat)
  case atStart => exact ⟨0, none, 0, by omega, rfl, rfl, World.ownsRow_nil _ _ _ _, (Fr.refl _ w).drewN _⟩
  case round =>
    obtain ⟨k, A2, c2, hk, rfl, rfl, hown, F⟩ := hrel
    have hsz := F.size
    by_cases hkm : k < 8
    · go_wp2_with (at_builtin; refine wpList_app _ rfl _ _ 23 rfl w.heap.size 5 (.int .u8 0) 1 infoB Try.underlying23 rfl (.slice A2 k c2) k _ rfl (hown.alloc _) (some ⟨wr.heap.size, 0, none⟩) 1 1 [.int .u8 _] rfl rfl (Rd.fresh _ _ _) (one_int _ _) (by unfold maxLen; omega) (by omega) (by simp; omega) ?_; intro A3 c3 w3 hown3 hgrow3 _)
      have R := pad_step hkm (rbyte_val N 8 k hN.1) F hsz (Nat.le_refl _) hown hown3 hgrow3
      clear hown3 hgrow3 hown F
      go_wp2
      go_roundw
      case rel => exact ⟨k + 1, A3, c3, by omega, by go_num, rfl, R.1, R.2⟩
      case measure => simp [intOf]; omega
    · have : k = 8 := by omega
      subst this
      rw [List.take_of_length_le (by rw [rbytes_length]; omega)] at hown
      obtain ⟨g, cap, hv, hg1, hg2⟩ := hown.form (by omega)
      injection hv with e1 _ e3
      subst e1 e3
      have hcell : wr.cell? ⟨g, 0, none⟩ = some (.int .u8 ((rbyte N 8 0).toNat : Int)) := by
        rw [hown.cellAt 0 (by omega)]; rfl
      have hfz := hown.frozenAt 0
      have hst := hown.stored 0 (.int .u8 ((vbyte N 8 0).toNat : Int))
      have hmk := rmark N 8 3 hN.1 (by omega) HF.out (by decide)
      simp only [Int.reduceMul] at hmk
      have hown2 := hst.1
      have hset : (bv (rbytes N 8)).set 0 (.int .u8 ((vbyte N 8 0).toNat : Int)) = bv (vbytes N 8) := by
        rw [← rbytes_set N 8 (by omega)]; simp [bv, List.map_set]
      rw [hset] at hown2
      have F2 : Fr NoS w (wr.setCell ⟨g, 0, none⟩ (.int .u8 ((vbyte N 8 0).toNat : Int))) := F.setCell (fun h => by simp at h; omega) _
      clear hst hset hown
      have hbeh : bv (vbytes N 8) ++ [.int .u8 beh] = bv (vbytes N 8 ++ [UInt8.ofNat beh.toNat]) := by
        rw [bv_append]; simp [bv]; omega
      have HB := Lib.hid hbeh
      clear hbeh
      go_wp2_with (at_builtin; refine wpList_app _ rfl _ _ 23 rfl w.heap.size 5 (.int .u8 0) 1 infoB Try.underlying23 rfl (.slice (some ⟨g, 0, none⟩) 8 c2) 8 (bv (vbytes N 8)) rfl (hown2.alloc _) (some ⟨wr.heap.size, 0, none⟩) 1 1 [.int .u8 beh] rfl rfl (Rd.freshAt (by simp) _ _ rfl) (one_int _ _) (by unfold maxLen; omega) (by omega) (by simp; omega) ?_; intro A3 c3 w3 hown3 hgrow3 _)
      rw [HB.out] at hown3
      have F3 : Fr NoS w w3 := (F2.alloc _).grown hgrow3 (fun j hj hlt => by simp [Value.ownBlock] at hj; omega)
      have hc3 := RetS.cap hown3
      have hgl : (vbytes N 8 ++ [UInt8.ofNat beh.toNat]).length = 8 + 1 := by simp [vbytes_length]
      have G := get_any (vbytes N 8 ++ [UInt8.ofNat beh.toNat]) A3 c3 w3 (Rd.of_own hown3) (by omega) (by omega) hc3.2
      rw [vget_vbytes N 8 _ hN.1 (by omega) HF.out, hgl] at G
      have G := Lib.hid G
      clear hown2 hown3 hcell hfz hmk hgl F2 hgrow3
      refine G.out.mono ?_
      rintro e w4 ⟨rfl, rfl⟩
      simp only [vtup]
      go_wp2_with fail
      refine (awake_any _).mono ?_
      rintro e w8 ⟨rfl, hb8⟩
      go_wp2_with fail
      go_ret
      exact ⟨rfl, Fr.below (F3.trans (Fr.of_below hb8 _))⟩

theorem vput_pow (N : Int) (hN : N ≤ 4611686018427387903) : (vput N).length = 1 ∨ (vput N).length = 2 ∨ (vput N).length = 4 ∨ (vput N).length = 8 := vput_many N hN
theorem pads_any (n more beh : Int) (w : World) (h0 : 0 ≤ n) (hn : n ≤ 18446744073709551615) (hbe : 0 ≤ beh ∧ beh ≤ 255) :
    Calls Try.prog 6 #[.int .u64 n, .int .i64 more, .int .u8 beh] w fun e w' => e = .returned (.bool true) ∧ Below w.heap.size w w' := by
  obtain ⟨N, hand, hN⟩ := mask62 n h0 hn
  have l4 := low_bd more 4 (by omega) (by omega)
  have l3 := low_bd more 3 (by omega) (by omega)
  have l2 := low_bd more 2 (by omega) (by omega)
  have l1 := low_bd more 1 (by omega) (by omega)
  rcases vput_many N hN.2 with h | h | h | h
  · rcases (show low more 4 = 0 ∨ low more 4 = 1 ∨ low more 4 = 2 ∨ low more 4 = 3 from by omega) with q | q | q | q
    · exact pads_0_0 n more beh w N hand hN hbe h q
    · exact pads_0_1 n more beh w N hand hN hbe h q
    · exact pads_0_2 n more beh w N hand hN hbe h q
    · exact pads_0_3 n more beh w N hand hN hbe h q
  · rcases (show low more 3 = 0 ∨ low more 3 = 1 ∨ low more 3 = 2 from by omega) with q | q | q
    · exact pads_1_0 n more beh w N hand hN hbe h q
    · exact pads_1_1 n more beh w N hand hN hbe h q
    · exact pads_1_2 n more beh w N hand hN hbe h q
  · rcases (show low more 2 = 0 ∨ low more 2 = 1 from by omega) with q | q
    · exact pads_2_0 n more beh w N hand hN hbe h q
    · exact pads_2_1 n more beh w N hand hN hbe h q
  · exact pads_3_0 n more beh w N hand hN hbe h (by omega)
end Go.Proofs.Ythidklmbdgjilaa
