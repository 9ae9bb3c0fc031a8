/- VarintRounds returns true at every number, every slice of bytes and every int; nothing old turns. -/
import Derived.Test.YthidklmbdgjilaaVarH
import Derived.Test.YthidklmbdgjilaaVarP
namespace Go.Proofs.Ythidklmbdgjilaa
open Go.RowKit

theorem low4 (x : Int) : low x 4 = 0 ∨ low x 4 = 1 ∨ low x 4 = 2 ∨ low x 4 = 3 := by
  have := low_bd x 4 (by omega) (by omega); omega

theorem and62 (n : Int) (h0 : 0 ≤ n) (hn : n ≤ 18446744073709551615) : bits .and .u64 n 4611686018427387903 = n % 4611686018427387904 := by
  obtain ⟨A, rfl⟩ := Int.eq_ofNat_of_zero_le h0
  have e : (4611686018427387903 : Int) = ((4611686018427387903 : Nat) : Int) := rfl
  have e2 : A &&& 4611686018427387903 = A % 4611686018427387904 := Nat.and_two_pow_sub_one_eq_mod A 62
  rw [e, u64_and_nat _ _ (by omega) (by omega), e2]
  omega
theorem mask62 (n : Int) (h0 : 0 ≤ n) (hn : n ≤ 18446744073709551615) : ∃ N, bits .and .u64 n 4611686018427387903 = N ∧ 0 ≤ N ∧ N ≤ 4611686018427387903 :=
  ⟨_, rfl, by rw [and62 n h0 hn]; omega, by rw [and62 n h0 hn]; omega⟩

set_option maxHeartbeats 2000000 in
theorem rounds_any (n more : Int) (l : List UInt8) (A1 : Option Addr) (c1 : Nat) (w : World) (h0 : 0 ≤ n) (hn : n ≤ 18446744073709551615) (h1 : Rd w A1 (bv l)) (hl : l.length ≤ 9223372036854775807) :
    Calls Try.prog 4 #[.int .u64 n, .slice A1 l.length c1, .int .i64 more] w fun e w' => e = .returned (.bool true) ∧ Below w.heap.size w w' := by
  by_cases hs : 40 < l.length
  · go_enter Try.func4, Try.ntmps4
    go_wp2_with (go_at_call 8; refine (awake_any _).mono ?_; rintro e w1 ⟨rfl, hb⟩)
    go_ret
    exact ⟨rfl, hb⟩
  · have HQ := Lib.hid (low4 more)
    go_enter Try.func4, Try.ntmps4
    obtain ⟨N, hand, hN⟩ := mask62 n h0 hn
    go_wp2_with fail
    clear hand
    have HM := Lib.hid (vput_many N hN.2)
    have HP := Lib.hid (vget_vput N l hN.1 hN.2)
    have HS := Lib.hid (vget_vput_short N hN.1 hN.2)
    have HB := Lib.hid (vput_fits N hN.2)
    have C1 := vput_any N [] none 0 w (Rd.nil _ _) (by simp) hN.1 (by omega)
    have C2 := fun W => vlenp_any N W hN.1 (by omega)
    rw [List.nil_append] at C1
    generalize vput N = bb at HM HP HS HB C1 C2
    have hM : 1 ≤ bb.length ∧ bb.length ≤ 8 := by have := HM.out; omega
    have C1 := Lib.hid C1
    have C2 := Lib.hid C2
    have hz : ((bb.length : Int) == 0) = false := by rw [beq_eq_false_iff_ne]; omega
    refine C1.out.mono ?_
    rintro e w1 ⟨A2, c2, rfl, ho1, hb1⟩
    have hc2 := RetS.cap ho1
    have R1 := Rd.of_own ho1
    have F1 : Fr NoS w w1 := Fr.of_below hb1 _
    clear hb1 ho1
    go_wp2_with fail
    refine (C2.out _).mono ?_
    rintro e w3 ⟨rfl, k, rfl⟩
    go_wp2_with fail
    refine (copied_any bb A2 c2 _ (R1.drewN k) (by omega)).mono ?_
    rintro e w3 ⟨A3, c3, rfl, ho3, hb3⟩
    have F3 : Fr NoS w1 w3 := ((Fr.refl _ w1).drewN k).trans (Fr.of_below hb3 _)
    clear hb3
    have R3 := h1.fr (F1.trans F3) (fun _ _ _ x => x)
    have hsz := F3.size
    go_wp2_with (at_builtin; refine wpList_app _ rfl _ _ 23 rfl (w1.drewN k).heap.size 5 (.int .u8 0) 1 infoB Try.underlying23 rfl (.slice A3 bb.length c3) bb.length (bv bb) rfl ho3 A1 l.length c1 (bv l) rfl (by simp) R3 (bv_one l) (by unfold maxLen; omega) (by omega) hsz ?_; intro A4 c4 w4 ho4 hg4 _)
    have F4 : Fr NoS w1 w4 := F3.grown hg4 (fun j hj hlt => by have := (ho3.lt j hj).1; simp at this; omega)
    rw [← bv_append, ← List.length_append] at ho4
    rw [← List.length_append]
    have hc4 := RetS.cap ho4
    refine (get_any (bb ++ l) A4 c4 _ (Rd.of_own ho4) hc4.1 (by simp; omega) hc4.2).mono ?_
    rintro e w5 ⟨rfl, rfl⟩
    rw [HP.out]
    simp only [vtup]
    clear ho4 hc4 hg4 ho3 R3
    go_wp2_with fail
    have R4 := R1.fr F4 (fun _ _ _ x => x)
    have hl1 : (bb.take (bb.length - 1)).length = bb.length - 1 := by simp
    rw [← hl1]
    refine (get_any (bb.take (bb.length - 1)) A2 c2 _ (by rw [bv_take]; exact R4.take _) (by omega) (by omega) hc2.2).mono ?_
    rintro e w5 ⟨rfl, rfl⟩
    rw [HS.out _ (by omega), hl1]
    clear hl1
    simp only [vtup]
    go_wp2_with fail
    refine (low_any more 4 _ (by omega) (by omega)).mono ?_
    rintro e w5 ⟨rfl, rfl⟩
    rcases HQ.out with hq | hq | hq | hq <;> rw [hq] <;> clear hq
    all_goals go_wp2_with fail
    · refine (in_any N bb.length [] none 0 _ (Rd.nil _ _) (by simp) hN.1 HM.out (HB.out _ (by omega))).mono ?_
      rintro e w6 ⟨A6, c6, rfl, ho6, hb6⟩
      simp only [List.length_nil, Nat.zero_add, List.nil_append] at ho6 ⊢
      have hc6 := RetS.cap ho6
      go_wp2_with fail
      refine (getv_any N bb.length A6 c6 _ hN.1 HM.out (HB.out _ (by omega)) (Rd.of_own ho6) hc6.1 hc6.2).mono ?_
      rintro e w7 ⟨rfl, rfl⟩
      simp only [vtup]
      go_wp2_with fail
      refine (awake_any _).mono ?_
      rintro e w8 ⟨rfl, hb8⟩
      go_wp2_with fail
      go_ret
      exact ⟨rfl, Fr.below (((F1.trans F4).trans (Fr.of_below hb6 _)).trans (Fr.of_below hb8 _))⟩
    · refine (in_any N 1 [] none 0 _ (Rd.nil _ _) (by simp) hN.1 (by omega) (HB.out _ (by omega))).mono ?_
      rintro e w6 ⟨A6, c6, rfl, ho6, hb6⟩
      simp only [List.length_nil, Nat.zero_add, List.nil_append] at ho6 ⊢
      have hc6 := RetS.cap ho6
      go_wp2_with fail
      refine (getv_any N 1 A6 c6 _ hN.1 (by omega) (HB.out _ (by omega)) (Rd.of_own ho6) hc6.1 hc6.2).mono ?_
      rintro e w7 ⟨rfl, rfl⟩
      simp only [vtup]
      go_wp2_with fail
      refine (awake_any _).mono ?_
      rintro e w8 ⟨rfl, hb8⟩
      go_wp2_with fail
      go_ret
      exact ⟨rfl, Fr.below (((F1.trans F4).trans (Fr.of_below hb6 _)).trans (Fr.of_below hb8 _))⟩
    · refine (in_any N bb.length [] none 0 _ (Rd.nil _ _) (by simp) hN.1 HM.out (HB.out _ (by omega))).mono ?_
      rintro e w6 ⟨A6, c6, rfl, ho6, hb6⟩
      simp only [List.length_nil, Nat.zero_add, List.nil_append] at ho6 ⊢
      have hc6 := RetS.cap ho6
      go_wp2_with fail
      refine (getv_any N bb.length A6 c6 _ hN.1 HM.out (HB.out _ (by omega)) (Rd.of_own ho6) hc6.1 hc6.2).mono ?_
      rintro e w7 ⟨rfl, rfl⟩
      simp only [vtup]
      go_wp2_with fail
      refine (awake_any _).mono ?_
      rintro e w8 ⟨rfl, hb8⟩
      go_wp2_with fail
      go_ret
      exact ⟨rfl, Fr.below (((F1.trans F4).trans (Fr.of_below hb6 _)).trans (Fr.of_below hb8 _))⟩
    · refine (in_any N 2 [] none 0 _ (Rd.nil _ _) (by simp) hN.1 (by omega) (HB.out _ (by omega))).mono ?_
      rintro e w6 ⟨A6, c6, rfl, ho6, hb6⟩
      simp only [List.length_nil, Nat.zero_add, List.nil_append] at ho6 ⊢
      have hc6 := RetS.cap ho6
      go_wp2_with fail
      refine (getv_any N 2 A6 c6 _ hN.1 (by omega) (HB.out _ (by omega)) (Rd.of_own ho6) hc6.1 hc6.2).mono ?_
      rintro e w7 ⟨rfl, rfl⟩
      simp only [vtup]
      go_wp2_with fail
      refine (awake_any _).mono ?_
      rintro e w8 ⟨rfl, hb8⟩
      go_wp2_with fail
      go_ret
      exact ⟨rfl, Fr.below (((F1.trans F4).trans (Fr.of_below hb6 _)).trans (Fr.of_below hb8 _))⟩
    · refine (in_any N bb.length [] none 0 _ (Rd.nil _ _) (by simp) hN.1 HM.out (HB.out _ (by omega))).mono ?_
      rintro e w6 ⟨A6, c6, rfl, ho6, hb6⟩
      simp only [List.length_nil, Nat.zero_add, List.nil_append] at ho6 ⊢
      have hc6 := RetS.cap ho6
      go_wp2_with fail
      refine (getv_any N bb.length A6 c6 _ hN.1 HM.out (HB.out _ (by omega)) (Rd.of_own ho6) hc6.1 hc6.2).mono ?_
      rintro e w7 ⟨rfl, rfl⟩
      simp only [vtup]
      go_wp2_with fail
      refine (awake_any _).mono ?_
      rintro e w8 ⟨rfl, hb8⟩
      go_wp2_with fail
      go_ret
      exact ⟨rfl, Fr.below (((F1.trans F4).trans (Fr.of_below hb6 _)).trans (Fr.of_below hb8 _))⟩
    · refine (in_any N 4 [] none 0 _ (Rd.nil _ _) (by simp) hN.1 (by omega) (HB.out _ (by omega))).mono ?_
      rintro e w6 ⟨A6, c6, rfl, ho6, hb6⟩
      simp only [List.length_nil, Nat.zero_add, List.nil_append] at ho6 ⊢
      have hc6 := RetS.cap ho6
      go_wp2_with fail
      refine (getv_any N 4 A6 c6 _ hN.1 (by omega) (HB.out _ (by omega)) (Rd.of_own ho6) hc6.1 hc6.2).mono ?_
      rintro e w7 ⟨rfl, rfl⟩
      simp only [vtup]
      go_wp2_with fail
      refine (awake_any _).mono ?_
      rintro e w8 ⟨rfl, hb8⟩
      go_wp2_with fail
      go_ret
      exact ⟨rfl, Fr.below (((F1.trans F4).trans (Fr.of_below hb6 _)).trans (Fr.of_below hb8 _))⟩
    · refine (in_any N 8 [] none 0 _ (Rd.nil _ _) (by simp) hN.1 (by omega) (HB.out _ (by omega))).mono ?_
      rintro e w6 ⟨A6, c6, rfl, ho6, hb6⟩
      simp only [List.length_nil, Nat.zero_add, List.nil_append] at ho6 ⊢
      have hc6 := RetS.cap ho6
      go_wp2_with fail
      refine (getv_any N 8 A6 c6 _ hN.1 (by omega) (HB.out _ (by omega)) (Rd.of_own ho6) hc6.1 hc6.2).mono ?_
      rintro e w7 ⟨rfl, rfl⟩
      simp only [vtup]
      go_wp2_with fail
      refine (awake_any _).mono ?_
      rintro e w8 ⟨rfl, hb8⟩
      go_wp2_with fail
      go_ret
      exact ⟨rfl, Fr.below (((F1.trans F4).trans (Fr.of_below hb6 _)).trans (Fr.of_below hb8 _))⟩
end Go.Proofs.Ythidklmbdgjilaa
