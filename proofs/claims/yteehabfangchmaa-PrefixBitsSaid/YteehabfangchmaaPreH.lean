/- PrefixBits returns true at every input; nothing old turns. -/
import Derived.Test.YteehabfangchmaaPreE
import Derived.Laws.OwnMore
namespace Go.Proofs.Yteehabfangchmaa
open Go.RowKit

theorem or_most (x : Int) (b : Nat) (h0 : 0 ≤ x) (h1 : x ≤ 255) (hb8 : b ≤ 8) : bits .or .u64 x ((2 : Int) ^ b - 1) = phead x b + (2 ^ b - 1) := by
  obtain ⟨X, rfl⟩ := Int.eq_ofNat_of_zero_le h0
  have key : ∀ b : Fin 9, ∀ x : Fin 256, ((x.val ||| (2 ^ b.val - 1) : Nat) : Int) = phead x.val b.val + (2 ^ b.val - 1) := by decide +kernel
  have hp : 1 ≤ 2 ^ b := Nat.one_le_two_pow
  have hp2 : 2 ^ b ≤ 2 ^ 8 := Nat.pow_le_pow_right (by omega) hb8
  have e : (2 : Int) ^ b - 1 = ((2 ^ b - 1 : Nat) : Int) := by rw [Int.natCast_sub hp]; simp
  have k := key ⟨b, by omega⟩ ⟨X, by omega⟩
  simp only at k
  rw [e, u64_or_nat _ _ (by omega) (by omega), k, e]
theorem and_most8 (x b : Nat) (hx : x < 256) (h8 : b ≤ 8) : bits .and .u8 (x : Int) ((2 : Int) ^ b - 1) = (x : Int) % 2 ^ b := by
  have hp : 1 ≤ 2 ^ b := Nat.one_le_two_pow
  have hp2 : 2 ^ b ≤ 2 ^ 8 := Nat.pow_le_pow_right (by omega) h8
  have e : (2 : Int) ^ b - 1 = ((2 ^ b - 1 : Nat) : Int) := by rw [Int.natCast_sub hp]; simp
  rw [e, u8_and_nat _ _ (by omega) (by omega), Nat.and_two_pow_sub_one_eq_mod]
  simp
theorem or_swap (h n : Int) (b : Nat) (hb8 : b ≤ 8) (hn0 : 0 ≤ n) (hn : n < 2 ^ b) (hh : h + n ≤ 255) (ha : ∃ a : Nat, h = ((2 ^ b * a : Nat) : Int)) : bits .or .u8 n h = h + n := by
  rw [← or_head h n b hb8 hn0 hn hh ha]
  obtain ⟨a, rfl⟩ := ha
  obtain ⟨N, rfl⟩ := Int.eq_ofNat_of_zero_le hn0
  rw [u8_or_nat _ _ (by omega) (by omega), u8_or_nat _ _ (by omega) (by omega), Nat.or_comm]
theorem pget_turned (b : Nat) (x y : UInt8) (r : List UInt8) (h : (y.toNat : Int) % 2 ^ b = (x.toNat : Int) % 2 ^ b) : pget b (y :: r) = pget b (x :: r) := by
  simp only [pget, h]
theorem pput_one (f : Int) (b : Nat) (n : Int) (x : UInt8) (r : List UInt8) (h : pput f b n = x :: r) : r.length = 0 ↔ n < 2 ^ b - 1 := by
  have hp : ∀ g m, 1 ≤ (pcont g m).length := by intro g m; cases g <;> simp only [pcont] <;> (try split) <;> simp
  unfold pput at h
  by_cases hlt : n < pmost b
  · rw [if_pos hlt] at h
    injection h with _ h2
    unfold pmost at hlt
    rw [← h2]; simp [hlt]
  · rw [if_neg hlt] at h
    injection h with _ h2
    have := hp 9 (n - pmost b)
    unfold pmost at hlt
    rw [← h2]
    omega

set_option maxRecDepth 100000 in
set_option maxHeartbeats 4000000 in
theorem bits_any (f bits n o : Int) (w : World) (h0 : 0 ≤ n) (hn : n ≤ 18446744073709551615) (hf0 : 0 ≤ f) (hf1 : f ≤ 255) (ho0 : 0 ≤ o) (ho1 : o ≤ 255) :
    Calls Try.prog 5 #[.int .u8 f, .int .i64 bits, .int .u64 n, .int .u8 o] w fun e w' => e = .returned (.bool true) ∧ Below w.heap.size w w' := by
  obtain ⟨N, hand, hN⟩ := mask62 n h0 hn
  obtain ⟨m, hm, CL⟩ := low_ex bits 8 (by omega) (by omega)
  replace CL := Lib.hid CL
  obtain ⟨b, hbm⟩ : ∃ b : Nat, b = 1 + m := ⟨_, rfl⟩
  have hbi : (1 : Int) + m = b := by omega
  have hb1 : 1 ≤ b := by omega
  have hb8 : b ≤ 8 := by omega
  clear hbm
  have C1 := Lib.hid (fun W => pput_any [] f b N none 0 W (Rd.nil _ _) (by decide) hf0 hf1 hb1 hb8 hN.1 hN.2)
  have HP := Lib.hid (fun t => pget_pput f b N t hf0 hf1 hb1 hb8 hN.1 hN.2)
  obtain ⟨x, r, hxr, hxd⟩ := pput_head f b N hf0 hf1 hb1 hb8 hN.1
  have hone := pput_one f b N x r hxr
  have hpl := pput_len f b N
  simp only [List.nil_append] at C1
  rw [hxr] at C1 HP hpl
  clear hxr
  have hrl : r.length + 1 ≤ 11 := by simpa using hpl
  clear hpl
  have hx := UInt8.toNat_lt x
  have hP := pmost_bd b hb1 hb8
  have hph : phead (x.toNat : Int) b = phead f b := by rw [phead_mul, phead_mul, hxd]
  have hor1 := or_most x.toNat b (by omega) (by omega) hb8
  have hor2 := or_most f b hf0 hf1 hb8
  rw [hph] at hor1
  have hand1 := and_most8 x.toNat b hx hb8
  have hand2 := andnot_most o b ho0 ho1 hb1 hb8
  have hmod0 := Int.emod_nonneg (x.toNat : Int) (show (2 : Int) ^ b ≠ 0 by omega)
  have hmod1 := Int.emod_lt_of_pos (x.toNat : Int) (show (0 : Int) < 2 ^ b by omega)
  obtain ⟨hd0, hd1, hda⟩ := phead_bd o b ho0 ho1 hb1 hb8
  have hor3 := or_swap (phead o b) ((x.toNat : Int) % 2 ^ b) b hb8 hmod0 hmod1 (by omega) hda
  have hhm := head_mod o b ((x.toNat : Int) % 2 ^ b) ho0 ho1 hb1 hb8 hmod0 (by omega)
  obtain ⟨y, hy⟩ : ∃ y : UInt8, UInt8.ofNat (phead o b + (x.toNat : Int) % 2 ^ b).toNat = y := ⟨_, rfl⟩
  rw [hy] at hhm
  have HY := Lib.hid (pget_turned b x y r (by rw [hhm.1, hhm.2]))
  have hyv := hhm.1
  clear hhm hy hda hph hxd
  obtain ⟨P, hPe⟩ : ∃ P, (2 : Int) ^ b = P := ⟨_, rfl⟩
  rw [hPe] at hone hP hor1 hor2 hor3 hand1 hand2 hmod0 hmod1 hd1 hyv
  obtain ⟨q, hqe⟩ : ∃ q, phead f b + (P - 1) = q := ⟨_, rfl⟩
  rw [hqe] at hor1 hor2
  obtain ⟨hd, hhe⟩ : ∃ q, phead o b = q := ⟨_, rfl⟩
  rw [hhe] at hor3 hand2 hd0 hd1 hyv
  obtain ⟨xm, hxe⟩ : ∃ q, (x.toNat : Int) % P = q := ⟨_, rfl⟩
  rw [hxe] at hor3 hand1 hmod0 hmod1 hyv
  clear hqe hhe hxe
  have hrz : ((r.length : Int) + 1 == 0) = false := by rw [beq_eq_false_iff_ne]; omega
  obtain ⟨t, ht1, ht2⟩ : ∃ t, ((r.length : Int) + 1 == 1) = t ∧ decide (N < P - 1) = t := by
    refine ⟨_, rfl, ?_⟩
    rw [Bool.eq_iff_iff, decide_eq_true_iff, beq_iff_eq]; omega
  clear hone
  have HH := Lib.hid (And.intro hrz (And.intro ht1 ht2))
  clear hrz ht1 ht2
  go_enter Try.func5, Try.ntmps5
  go_wp2_with fail
  refine (CL.out _).mono ?_
  rintro e w' ⟨rfl, rfl⟩
  clear CL
  go_wp2_with fail
  clear hand
  refine (C1.out _).mono ?_
  rintro e w1 ⟨A1, c1, rfl, ho1, hb1'⟩
  simp only [List.length_cons] at ho1 ⊢
  have R1 := Rd.of_own ho1
  obtain ⟨bl, off, rfl, hcell⟩ := R1 (by simp)
  have hc0 := hcell 0 _ (bv_get (k := 0) (by simp))
  simp only [List.getElem_cons_zero, Nat.add_zero] at hc0
  have F1 : Fr NoS w w1 := Fr.of_below hb1' _
  have hsz1 := F1.size
  clear hb1' hcell
  obtain ⟨hrz, ht1, ht2⟩ := HH.out
  clear HH
  go_wp2_with (at_builtin; refine Hid.out ?_)
  refine Lib.hid ?_
  refine wpList_app _ rfl _ _ 23 (by rfl) w1.heap.size 5 (.int .u8 0) 1 infoB Try.underlying23 rfl (.slice none 0 0) 0 [] (by rfl) (World.ownsRow_nil _ _ _ _) (some ⟨bl, off, none⟩) (r.length + 1) c1 (bv (x :: r)) (by rfl) (by simp) R1 (bv_one _) (by unfold maxLen; omega) (by omega) (Nat.le_refl _) ?_
  intro A2 c2 w2 ho2 hg2 _
  simp only [Nat.zero_add, List.nil_append] at ho2 ⊢
  have F2 : Fr NoS w1 w2 := (Fr.refl NoS w1).grown hg2 (fun k hk => by simp [Value.ownBlock] at hk)
  obtain ⟨g, cap, hv, _, hlt⟩ := ho2.form (by omega)
  injection hv with hA _ hc
  subst hA hc
  have hgl := (ho2.lt g rfl).1
  have hcc := ho2.cellAt 0 (by omega)
  rw [bv_get (by simp)] at hcc
  simp only [List.getElem_cons_zero] at hcc
  have hfr := ho2.frozenAt 0
  have hst := (ho2.stored 0 (.int .u8 (hd + xm))).1
  have F3 := F2.setCell (p := ⟨g, 0, none⟩) (fun h => absurd h (by simp only; omega)) (.int .u8 (hd + xm))
  have hset : (bv (x :: r)).set 0 (.int .u8 (hd + xm)) = bv (y :: r) := by
    simp only [bv, List.map_cons, List.set_cons_zero, hyv]
  rw [hset] at hst
  clear hg2 ho2 F2
  go_wp2_with fail
  have G1 := pget_any (y :: r) b (some ⟨g, 0, none⟩) c2 _ hb1 hb8 (Rd.of_own (n := r.length + 1) hst) (by simp; omega)
  have hG := HP.out []
  rw [List.append_nil] at hG
  rw [HY.out, hG] at G1
  simp only [List.length_cons, ptup] at G1
  refine G1.mono ?_
  rintro e w' ⟨rfl, rfl⟩
  clear hor1 hor2 hor3 hand1 hand2 hcc hfr hrz ht1 ht2 hyv G1 hG hset HY
  have R3 := R1.fr F3 (fun _ _ _ x => x)
  have hsz3 := F3.size
  obtain ⟨w3, hw3⟩ : ∃ w3, w2.setCell ⟨g, 0, none⟩ (.int .u8 (hd + xm)) = w3 := ⟨_, rfl⟩
  rw [hw3] at R3 hst F3 hsz3 ⊢
  clear hst hw3
  go_wp2_with (at_builtin; refine Hid.out ?_)
  refine Lib.hid ?_
  refine wpList_app _ rfl _ _ 23 (by rfl) w3.heap.size 5 (.int .u8 0) 1 infoB Try.underlying23 rfl (.slice none 0 0) 0 [] (by rfl) (World.ownsRow_nil _ _ _ _) (some ⟨bl, off, none⟩) (r.length + 1) c1 (bv (x :: r)) (by rfl) (by simp) R3 (bv_one _) (by unfold maxLen; omega) (by omega) (Nat.le_refl _) ?_
  intro A5 c5 w5 ho5 hg5 _
  simp only [Nat.zero_add, List.nil_append] at ho5 ⊢
  have F5 := F3.grown hg5 (fun k hk => by simp [Value.ownBlock] at hk)
  have hsz5 := hg5.size
  clear hg5
  go_wp2_with (at_builtin; refine Hid.out ?_)
  refine Lib.hid ?_
  refine wpList_app _ rfl _ _ 23 (by rfl) w3.heap.size 5 (.int .u8 0) 1 infoB Try.underlying23 rfl (.slice A5 (r.length + 1) c5) (r.length + 1) (bv (x :: r)) (by rfl) (ho5.alloc _) (some ⟨w5.heap.size, 0, none⟩) 1 1 [.int .u8 o] (by rfl) rfl (Rd.freshAt (by simp) _ _ rfl) (one_int _ _) (by unfold maxLen; omega) (by omega) (by simp; omega) ?_
  intro A6 c6 w6 ho6 hg6 _
  have F6 := (F5.alloc _).grown hg6 (fun j hj hlt => by have := (ho5.lt j hj).1; omega)
  rw [bv_snoc (x :: r) o (by omega) (by omega)] at ho6
  have hG := HP.out [UInt8.ofNat o.toNat]
  have hlen : ((x :: r) ++ [UInt8.ofNat o.toNat]).length = r.length + 1 + 1 := by simp
  obtain ⟨full, hfe⟩ : ∃ z, (x :: r) ++ [UInt8.ofNat o.toNat] = z := ⟨_, rfl⟩
  rw [hfe] at hG hlen ho6
  have G2 := pget_any full b A6 c6 _ hb1 hb8 (Rd.of_own (n := r.length + 1 + 1) ho6) (by omega)
  rw [hG, hlen] at G2
  simp only [List.length_cons, ptup] at G2
  clear hfe hlen hG ho6 ho5 hg6 HP
  go_wp2_with fail
  refine G2.mono ?_
  rintro e w' ⟨rfl, rfl⟩
  clear G2
  go_wp2_with fail
  refine (awake_any _).mono ?_
  rintro e w10 ⟨rfl, hb10⟩
  go_wp2_with fail
  go_ret
  exact ⟨rfl, Fr.below ((F1.trans F6).trans (Fr.of_below hb10 _))⟩
end Go.Proofs.Yteehabfangchmaa
