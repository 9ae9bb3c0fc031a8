/- PrefixCuts returns true at every input; nothing old turns. -/
import Derived.Test.YteehabfangchmaaPreE
namespace Go.Proofs.Yteehabfangchmaa
open Go.RowKit

theorem toList_toArray' (s : ByteArray) : (⟨s.data.toList.toArray⟩ : ByteArray) = s := by simp

set_option maxRecDepth 100000 in
set_option maxHeartbeats 4000000 in
theorem cuts_any (bits n cut : Int) (s : ByteArray) (w : World) (h0 : 0 ≤ n) (hn : n ≤ 18446744073709551615) (hsz : s.size ≤ 9223372036854775807) :
    Calls Try.prog 6 #[.int .i64 bits, .int .u64 n, .string s, .int .i64 cut] w fun e w' => e = .returned (.bool true) ∧ Below w.heap.size w w' := by
  by_cases hs : 100 < s.size
  · go_enter Try.func6, Try.ntmps6
    go_wp2_with fail
    refine (awake_any _).mono ?_
    rintro e w1 ⟨rfl, hb⟩
    go_wp2
    go_ret
    exact ⟨rfl, hb⟩
  obtain ⟨N, hand, hN⟩ := mask62 n h0 hn
  obtain ⟨m, hm, CL⟩ := low_ex bits 7 (by omega) (by omega)
  replace CL := Lib.hid CL
  obtain ⟨b, hbm⟩ : ∃ b : Nat, b = 1 + m := ⟨_, rfl⟩
  have hbi : (1 : Int) + m = b := by omega
  have hb1 : 1 ≤ b := by omega
  have hb7 : b ≤ 7 := by omega
  clear hbm
  have hst : s.data.toList.length ≤ 2000 := by rw [data_length]; omega
  have C1 := Lib.hid (fun W => pput_any [] 0 b N none 0 W (Rd.nil _ _) (by decide) (by omega) (by omega) hb1 (by omega) hN.1 hN.2)
  have C2 := Lib.hid (fun W => ptext_any [] 255 b s none 0 W (Rd.nil _ _) (by decide) (by omega) (by omega) hb1 (by omega) (by omega))
  have HP := Lib.hid (fun j hj => pget_cut 0 b N j (by omega) (by omega) hb1 (by omega) hN.1 hN.2 hj)
  have HT := Lib.hid (fun j hj => pgettext_cut 255 b s.data.toList j (by omega) (by omega) hb1 hb7 hst hj)
  have HU := Lib.hid (pgettext_ptext 255 b s.data.toList (ptext 255 b s.data.toList) (by omega) (by omega) hb1 hb7 hst)
  have hp1 := pput_pos 0 b N
  have hp2 := pput_len 0 b N
  have hq : s.size < (ptext 255 b s.data.toList).length ∧ (ptext 255 b s.data.toList).length ≤ 111 := by
    have h1 := pput_len (pclr 255 b) b s.data.toList.length
    have h2 := pput_pos (pclr 255 b) b s.data.toList.length
    have e := data_length s
    unfold ptext; rw [List.length_append]; omega
  simp only [List.nil_append] at C1 C2
  obtain ⟨p, hpe⟩ : ∃ p, pput 0 b N = p := ⟨_, rfl⟩
  obtain ⟨q, hqe⟩ : ∃ q, ptext 255 b s.data.toList = q := ⟨_, rfl⟩
  rw [hpe] at C1 HP hp1 hp2
  rw [hqe] at C2 HT HU hq
  clear hpe hqe hst
  obtain ⟨j1, hj1, D1⟩ := low_ex cut p.length (by omega) (by omega)
  obtain ⟨j2, hj2, D2⟩ := low_ex cut q.length (by omega) (by omega)
  replace D1 := Lib.hid D1
  replace D2 := Lib.hid D2
  have hpz : ((p.length : Int) == 0) = false := by rw [beq_eq_false_iff_ne]; omega
  go_enter Try.func6, Try.ntmps6
  go_wp2_with fail
  refine (CL.out _).mono ?_
  rintro e w' ⟨rfl, rfl⟩
  go_wp2_with fail
  clear hand CL
  refine (C1.out _).mono ?_
  rintro e w1 ⟨A1, c1, rfl, ho1, hb1'⟩
  have F1 := Fr.of_below hb1' NoS
  have R1 := Rd.of_own ho1
  have hc1 := RetS.cap ho1
  clear hb1' ho1
  go_wp2_with fail
  refine (C2.out _).mono ?_
  rintro e w2 ⟨A2, c2, rfl, ho2, hb2'⟩
  have F2 := F1.trans (Fr.of_below hb2' NoS)
  replace R1 := R1.below hb2'
  have R2 := Rd.of_own ho2
  have hc2 := RetS.cap ho2
  clear hb2' ho2
  have hsz2 := F2.size
  go_wp2_with fail
  refine (D1.out _).mono ?_
  rintro e w' ⟨rfl, rfl⟩
  go_wp2_with fail
  have hl1 : (p.take j1).length = j1 := by simp; omega
  have T1 := R1.take j1
  rw [← bv_take] at T1
  have G1 := pget_any (p.take j1) b A1 c1 w2 hb1 (by omega) T1 (by omega)
  rw [HP.out _ hj1, hl1] at G1
  refine G1.mono ?_
  rintro e w' ⟨rfl, rfl⟩
  simp only [ptup]
  clear hl1 T1
  go_wp2_with fail
  refine (D2.out _).mono ?_
  rintro e w' ⟨rfl, rfl⟩
  have hl2 : (q.take j2).length = j2 := by simp; omega
  have T2 := R2.take j2
  rw [← bv_take] at T2
  go_wp2_with (at_builtin; refine Hid.out ?_)
  refine Lib.hid ?_
  refine wpList_app _ rfl _ _ 23 (by rfl) w2.heap.size 5 (.int .u8 0) 1 infoB Try.underlying23 rfl (.slice none 0 0) 0 [] (by rfl) (World.ownsRow_nil _ _ _ _) A2 j2 c2 (bv (q.take j2)) (by rfl) (by simp; omega) T2 (bv_one _) (by unfold maxLen; omega) (by omega) (Nat.le_refl _) ?_
  intro A3 c3 w3 ho3 hg3 _
  have F3 := F2.grown hg3 (fun k hk => by simp [Value.ownBlock] at hk)
  replace R2 := R2.grown hg3 (fun _ a ha => by simp [Value.ownBlock])
  have hg3s := hg3.size
  simp only [Nat.zero_add, List.nil_append] at ho3 ⊢
  clear hg3 T2
  have hc3 := RetS.cap ho3
  have G2 := gettext_any (q.take j2) b A3 c3 w3 hb1 hb7 (Rd.of_own ho3) (by omega) (by omega) hc3.2
  unfold tpgettext at G2
  rw [HT.out _ hj2, hl2] at G2
  clear hl2
  go_wp2_with fail
  refine G2.mono ?_
  rintro e w' ⟨rfl, rfl⟩
  clear G2 ho3 hc3
  go_wp2_with (at_builtin; refine Hid.out ?_)
  refine Lib.hid ?_
  refine wpList_app _ rfl _ _ 23 (by rfl) w3.heap.size 5 (.int .u8 0) 1 infoB Try.underlying23 rfl (.slice none 0 0) 0 [] (by rfl) (World.ownsRow_nil _ _ _ _) A2 q.length c2 (bv q) (by rfl) (by simp) R2 (bv_one _) (by unfold maxLen; omega) (by omega) (Nat.le_refl _) ?_
  intro A4 c4 w4 ho4 hg4 _
  have F4 := F3.grown hg4 (fun k hk => by simp [Value.ownBlock] at hk)
  replace R2 := R2.grown hg4 (fun _ a ha => by simp [Value.ownBlock])
  simp only [Nat.zero_add, List.nil_append] at ho4 ⊢
  have hg4s := hg4.size
  clear hg4
  go_wp2_with (at_builtin; refine Hid.out ?_)
  refine Lib.hid ?_
  refine wpList_app _ rfl _ _ 23 (by rfl) w3.heap.size 5 (.int .u8 0) 1 infoB Try.underlying23 rfl (.slice A4 q.length c4) q.length (bv q) (by rfl) ho4 A2 q.length c2 (bv q) (by rfl) (by simp) R2 (bv_one _) (by unfold maxLen; omega) (by omega) hg4s ?_
  intro A5 c5 w5 ho5 hg5 _
  have F5 := F4.grown hg5 (fun j hj hlt => by have := (ho4.lt j hj).1; have := F3.size; omega)
  rw [← bv_append, ← List.length_append] at ho5
  rw [← List.length_append]
  have hc5 := RetS.cap ho5
  have hql : (q ++ q).length ≤ 300 := by rw [List.length_append]; omega
  obtain ⟨qq, hqq⟩ : ∃ x, q ++ q = x := ⟨_, rfl⟩
  rw [hqq] at HU ho5 hc5 hql ⊢
  have G3 := gettext_any qq b A5 c5 w5 hb1 hb7 (Rd.of_own ho5) (by omega) hc5.1 hc5.2
  unfold tpgettext at G3
  rw [HU.out] at G3
  simp only [toList_toArray'] at G3
  clear hqq ho5 ho4 hg5
  go_wp2_with fail
  refine G3.mono ?_
  rintro e w' ⟨rfl, rfl⟩
  go_wp2_with fail
  refine (awake_any _).mono ?_
  rintro e w10 ⟨rfl, hb10⟩
  go_wp2_with fail
  go_ret
  exact ⟨rfl, Fr.below (F5.trans (Fr.of_below hb10 _))⟩
end Go.Proofs.Yteehabfangchmaa
