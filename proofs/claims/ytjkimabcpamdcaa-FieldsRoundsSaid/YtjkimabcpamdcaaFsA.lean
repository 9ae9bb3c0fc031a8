/- The document's fields: value, Name. (Printed by gen_fsA.py.) -/
import Derived.Test.YtjkimabcpamdcaaFdC
namespace Go.Proofs.Ytjkimabcpamdcaa
open Go.RowKit

set_option maxRecDepth 100000 in
set_option maxHeartbeats 2000000 in
theorem rval_any (s : ByteArray) (w : World) (hs : s.size ≤ 1000000) :
    Calls Try.prog 35 #[.string s] w fun e w' => e = .returned (.bool (valok s)) ∧ w = w' := by
  obtain ⟨n, hn⟩ : ∃ n, s.size = n := ⟨_, rfl⟩
  go_enter Try.func35, Try.ntmps35
  go_wp2
  go_loopw [3] (fun i wr => ∃ k : Nat, k ≤ n ∧ i = .int .i64 k ∧ wr = w ∧ Hid ((List.range k).all (fun k => vchar (s.data.toList.getD k 0).toNat) = true)) (fun i _ => n - (intOf i).toNat)
  case atStart => exact ⟨0, by omega, rfl, rfl, Lib.hid rfl⟩
  case round =>
    obtain ⟨k, hk, rfl, rfl, HA⟩ := hrel
    by_cases hkn : k < n
    · have hks : k < s.size := by omega
      obtain ⟨c, hc⟩ : ∃ c, (s[k]'hks).toNat = c := ⟨_, rfl⟩
      have hcl : (s.data.toList.getD k 0).toNat = c := by rw [← hc]; exact chr_at s k hks
      have h3 : c < 32 ∨ (¬ c < 32 ∧ 126 < c) ∨ (¬ c < 32 ∧ ¬ 126 < c) := by omega
      rcases h3 with h | ⟨h, h2⟩ | ⟨h, h2⟩
      · have d1 : decide ((c : Int) < 32) = true := decide_eq_true (by omega)
        have hno := Lib.hid (all_no (fun k => vchar (s.data.toList.getD k 0).toNat) n k hkn (by simp only [hcl]; unfold vchar; rw [decide_eq_false (by omega)]; rfl))
        replace hcl := Lib.hid hcl
        clear h
        go_wp2
        go_ret
        refine ⟨ret_bool ?_, rfl⟩
        unfold valok; rw [hn]; exact hno.out.symm
      · have d1 : decide ((c : Int) < 32) = false := decide_eq_false (by omega)
        have d2 : decide (126 < (c : Int)) = true := decide_eq_true (by omega)
        have hno := Lib.hid (all_no (fun k => vchar (s.data.toList.getD k 0).toNat) n k hkn (by simp only [hcl]; unfold vchar; rw [decide_eq_false (show ¬ c ≤ 126 by omega), Bool.and_false]))
        replace hcl := Lib.hid hcl
        clear h h2
        go_wp2
        go_ret
        refine ⟨ret_bool ?_, rfl⟩
        unfold valok; rw [hn]; exact hno.out.symm
      · have d1 : decide ((c : Int) < 32) = false := decide_eq_false (by omega)
        have d2 : decide (126 < (c : Int)) = false := decide_eq_false (by omega)
        have hyes : Hid ((List.range (k + 1)).all (fun k => vchar (s.data.toList.getD k 0).toNat) = true) := Lib.hid (by
          rw [all_snoc, HA.out, hcl]
          unfold vchar
          rw [decide_eq_true (by omega), decide_eq_true (by omega)]; rfl)
        replace hcl := Lib.hid hcl
        clear h h2 HA
        go_wp2
        go_roundw
        case rel => exact ⟨k + 1, by omega, by go_num, by first | rfl | trivial, hyes⟩
        case measure => simp [intOf]; omega
    · have hk' : k = n := by omega
      have HB : Hid (valok s = true) := Lib.hid (by unfold valok; rw [hn, ← hk']; exact HA.out)
      clear HA
      go_wp2
      go_ret
      exact ⟨ret_bool HB.out.symm, rfl⟩

set_option maxRecDepth 100000 in
set_option maxHeartbeats 4000000 in
theorem rname_any (s : ByteArray) (w : World) (hs : s.size ≤ 1000000) :
    Calls Try.prog 34 #[.string s] w fun e w' => e = .returned (.bool (nameok s)) ∧ w = w' := by
  obtain ⟨n, hn⟩ : ∃ n, s.size = n := ⟨_, rfl⟩
  go_enter Try.func34, Try.ntmps34
  go_wp2
  go_loopw [3] (fun i wr => ∃ k : Nat, k ≤ n ∧ i = .int .i64 k ∧ wr = w ∧ Hid ((List.range k).all (fun k => nchar n k (s.data.toList.getD k 0).toNat) = true)) (fun i _ => n - (intOf i).toNat)
  case atStart => exact ⟨0, by omega, rfl, rfl, Lib.hid rfl⟩
  case round =>
    obtain ⟨k, hk, rfl, rfl, HA⟩ := hrel
    by_cases hkn : k < n
    · have hks : k < s.size := by omega
      obtain ⟨c, hc⟩ : ∃ c, (s[k]'hks).toNat = c := ⟨_, rfl⟩
      have hcl : (s.data.toList.getD k 0).toNat = c := by rw [← hc]; exact chr_at s k hks
      have hcls : (c < 45) ∨ (c = 45) ∨ (45 < c ∧ c < 48) ∨ (48 ≤ c ∧ c ≤ 57) ∨ (c = 58 ∧ 0 < k) ∨ (c = 58 ∧ k = 0 ∧ n = 1) ∨ (c = 58 ∧ k = 0 ∧ n ≠ 1) ∨ (58 < c ∧ c < 97) ∨ (97 ≤ c ∧ c ≤ 122) ∨ (122 < c) := by omega
      rcases hcls with h | h | h | h | h | h | h | h | h | h
      · have d1 : decide (97 ≤ (c : Int)) = false := decide_eq_false (by omega)
        have d1' : decide (97 ≤ c) = false := decide_eq_false (by omega)
        have d2 : decide ((c : Int) ≤ 122) = true := decide_eq_true (by omega)
        have d2' : decide (c ≤ 122) = true := decide_eq_true (by omega)
        have d3 : decide (48 ≤ (c : Int)) = false := decide_eq_false (by omega)
        have d3' : decide (48 ≤ c) = false := decide_eq_false (by omega)
        have d4 : decide ((c : Int) ≤ 57) = true := decide_eq_true (by omega)
        have d4' : decide (c ≤ 57) = true := decide_eq_true (by omega)
        have d5 : ((c : Int) == 45) = false := by first | (rw [beq_iff_eq]; omega) | (rw [beq_eq_false_iff_ne]; omega)
        have d6 : ((c : Int) == 58) = false := by first | (rw [beq_iff_eq]; omega) | (rw [beq_eq_false_iff_ne]; omega)
        have hnc : nchar n k c = false := by unfold nchar; simp; omega
        have hno := Lib.hid (all_no (fun k => nchar n k (s.data.toList.getD k 0).toNat) n k hkn (by simp only [hcl]; exact hnc))
        replace hcl := Lib.hid hcl
        replace hnc := Lib.hid hnc
        clear h
        go_wp2
        go_ret
        refine ⟨ret_bool ?_, rfl⟩
        unfold nameok; rw [hn, hno.out]; rfl
      · have d1 : decide (97 ≤ (c : Int)) = false := decide_eq_false (by omega)
        have d1' : decide (97 ≤ c) = false := decide_eq_false (by omega)
        have d2 : decide ((c : Int) ≤ 122) = true := decide_eq_true (by omega)
        have d2' : decide (c ≤ 122) = true := decide_eq_true (by omega)
        have d3 : decide (48 ≤ (c : Int)) = false := decide_eq_false (by omega)
        have d3' : decide (48 ≤ c) = false := decide_eq_false (by omega)
        have d4 : decide ((c : Int) ≤ 57) = true := decide_eq_true (by omega)
        have d4' : decide (c ≤ 57) = true := decide_eq_true (by omega)
        have d5 : ((c : Int) == 45) = true := by first | (rw [beq_iff_eq]; omega) | (rw [beq_eq_false_iff_ne]; omega)
        have d6 : ((c : Int) == 58) = false := by first | (rw [beq_iff_eq]; omega) | (rw [beq_eq_false_iff_ne]; omega)
        have hnc : nchar n k c = true := by unfold nchar; simp; omega
        have hyes : Hid ((List.range (k + 1)).all (fun k => nchar n k (s.data.toList.getD k 0).toNat) = true) := Lib.hid (by rw [all_snoc, HA.out, hcl, hnc]; rfl)
        replace hcl := Lib.hid hcl
        replace hnc := Lib.hid hnc
        clear HA h
        go_wp2
        go_roundw
        case rel => exact ⟨k + 1, by omega, by go_num, by first | rfl | trivial, hyes⟩
        case measure => simp [intOf]; omega
      · have d1 : decide (97 ≤ (c : Int)) = false := decide_eq_false (by omega)
        have d1' : decide (97 ≤ c) = false := decide_eq_false (by omega)
        have d2 : decide ((c : Int) ≤ 122) = true := decide_eq_true (by omega)
        have d2' : decide (c ≤ 122) = true := decide_eq_true (by omega)
        have d3 : decide (48 ≤ (c : Int)) = false := decide_eq_false (by omega)
        have d3' : decide (48 ≤ c) = false := decide_eq_false (by omega)
        have d4 : decide ((c : Int) ≤ 57) = true := decide_eq_true (by omega)
        have d4' : decide (c ≤ 57) = true := decide_eq_true (by omega)
        have d5 : ((c : Int) == 45) = false := by first | (rw [beq_iff_eq]; omega) | (rw [beq_eq_false_iff_ne]; omega)
        have d6 : ((c : Int) == 58) = false := by first | (rw [beq_iff_eq]; omega) | (rw [beq_eq_false_iff_ne]; omega)
        have hnc : nchar n k c = false := by unfold nchar; simp; omega
        have hno := Lib.hid (all_no (fun k => nchar n k (s.data.toList.getD k 0).toNat) n k hkn (by simp only [hcl]; exact hnc))
        replace hcl := Lib.hid hcl
        replace hnc := Lib.hid hnc
        clear h
        go_wp2
        go_ret
        refine ⟨ret_bool ?_, rfl⟩
        unfold nameok; rw [hn, hno.out]; rfl
      · have d1 : decide (97 ≤ (c : Int)) = false := decide_eq_false (by omega)
        have d1' : decide (97 ≤ c) = false := decide_eq_false (by omega)
        have d2 : decide ((c : Int) ≤ 122) = true := decide_eq_true (by omega)
        have d2' : decide (c ≤ 122) = true := decide_eq_true (by omega)
        have d3 : decide (48 ≤ (c : Int)) = true := decide_eq_true (by omega)
        have d3' : decide (48 ≤ c) = true := decide_eq_true (by omega)
        have d4 : decide ((c : Int) ≤ 57) = true := decide_eq_true (by omega)
        have d4' : decide (c ≤ 57) = true := decide_eq_true (by omega)
        have d5 : ((c : Int) == 45) = false := by first | (rw [beq_iff_eq]; omega) | (rw [beq_eq_false_iff_ne]; omega)
        have d6 : ((c : Int) == 58) = false := by first | (rw [beq_iff_eq]; omega) | (rw [beq_eq_false_iff_ne]; omega)
        have hnc : nchar n k c = true := by unfold nchar; simp; omega
        have hyes : Hid ((List.range (k + 1)).all (fun k => nchar n k (s.data.toList.getD k 0).toNat) = true) := Lib.hid (by rw [all_snoc, HA.out, hcl, hnc]; rfl)
        replace hcl := Lib.hid hcl
        replace hnc := Lib.hid hnc
        clear HA h
        go_wp2
        go_roundw
        case rel => exact ⟨k + 1, by omega, by go_num, by first | rfl | trivial, hyes⟩
        case measure => simp [intOf]; omega
      · have d1 : decide (97 ≤ (c : Int)) = false := decide_eq_false (by omega)
        have d1' : decide (97 ≤ c) = false := decide_eq_false (by omega)
        have d2 : decide ((c : Int) ≤ 122) = true := decide_eq_true (by omega)
        have d2' : decide (c ≤ 122) = true := decide_eq_true (by omega)
        have d3 : decide (48 ≤ (c : Int)) = true := decide_eq_true (by omega)
        have d3' : decide (48 ≤ c) = true := decide_eq_true (by omega)
        have d4 : decide ((c : Int) ≤ 57) = false := decide_eq_false (by omega)
        have d4' : decide (c ≤ 57) = false := decide_eq_false (by omega)
        have d5 : ((c : Int) == 45) = false := by first | (rw [beq_iff_eq]; omega) | (rw [beq_eq_false_iff_ne]; omega)
        have d6 : ((c : Int) == 58) = true := by first | (rw [beq_iff_eq]; omega) | (rw [beq_eq_false_iff_ne]; omega)
        have d7 : ((k : Int) == 0) = false := by first | (rw [beq_iff_eq]; omega) | (rw [beq_eq_false_iff_ne]; omega)
        have hnc : nchar n k c = false := by unfold nchar; simp; omega
        have hno := Lib.hid (all_no (fun k => nchar n k (s.data.toList.getD k 0).toNat) n k hkn (by simp only [hcl]; exact hnc))
        replace hcl := Lib.hid hcl
        replace hnc := Lib.hid hnc
        clear h
        go_wp2
        go_ret
        refine ⟨ret_bool ?_, rfl⟩
        unfold nameok; rw [hn, hno.out]; rfl
      · have d1 : decide (97 ≤ (c : Int)) = false := decide_eq_false (by omega)
        have d1' : decide (97 ≤ c) = false := decide_eq_false (by omega)
        have d2 : decide ((c : Int) ≤ 122) = true := decide_eq_true (by omega)
        have d2' : decide (c ≤ 122) = true := decide_eq_true (by omega)
        have d3 : decide (48 ≤ (c : Int)) = true := decide_eq_true (by omega)
        have d3' : decide (48 ≤ c) = true := decide_eq_true (by omega)
        have d4 : decide ((c : Int) ≤ 57) = false := decide_eq_false (by omega)
        have d4' : decide (c ≤ 57) = false := decide_eq_false (by omega)
        have d5 : ((c : Int) == 45) = false := by first | (rw [beq_iff_eq]; omega) | (rw [beq_eq_false_iff_ne]; omega)
        have d6 : ((c : Int) == 58) = true := by first | (rw [beq_iff_eq]; omega) | (rw [beq_eq_false_iff_ne]; omega)
        have d7 : ((k : Int) == 0) = true := by first | (rw [beq_iff_eq]; omega) | (rw [beq_eq_false_iff_ne]; omega)
        have d8 : decide ((1 : Int) < (n : Int)) = false := decide_eq_false (by omega)
        have d8' : decide (1 < n) = false := decide_eq_false (by omega)
        have hnc : nchar n k c = false := by unfold nchar; simp; omega
        have hno := Lib.hid (all_no (fun k => nchar n k (s.data.toList.getD k 0).toNat) n k hkn (by simp only [hcl]; exact hnc))
        replace hcl := Lib.hid hcl
        replace hnc := Lib.hid hnc
        clear h
        go_wp2
        go_ret
        refine ⟨ret_bool ?_, rfl⟩
        unfold nameok; rw [hn, hno.out]; rfl
      · have d1 : decide (97 ≤ (c : Int)) = false := decide_eq_false (by omega)
        have d1' : decide (97 ≤ c) = false := decide_eq_false (by omega)
        have d2 : decide ((c : Int) ≤ 122) = true := decide_eq_true (by omega)
        have d2' : decide (c ≤ 122) = true := decide_eq_true (by omega)
        have d3 : decide (48 ≤ (c : Int)) = true := decide_eq_true (by omega)
        have d3' : decide (48 ≤ c) = true := decide_eq_true (by omega)
        have d4 : decide ((c : Int) ≤ 57) = false := decide_eq_false (by omega)
        have d4' : decide (c ≤ 57) = false := decide_eq_false (by omega)
        have d5 : ((c : Int) == 45) = false := by first | (rw [beq_iff_eq]; omega) | (rw [beq_eq_false_iff_ne]; omega)
        have d6 : ((c : Int) == 58) = true := by first | (rw [beq_iff_eq]; omega) | (rw [beq_eq_false_iff_ne]; omega)
        have d7 : ((k : Int) == 0) = true := by first | (rw [beq_iff_eq]; omega) | (rw [beq_eq_false_iff_ne]; omega)
        have d8 : decide ((1 : Int) < (n : Int)) = true := decide_eq_true (by omega)
        have d8' : decide (1 < n) = true := decide_eq_true (by omega)
        have hnc : nchar n k c = true := by unfold nchar; simp; omega
        have hyes : Hid ((List.range (k + 1)).all (fun k => nchar n k (s.data.toList.getD k 0).toNat) = true) := Lib.hid (by rw [all_snoc, HA.out, hcl, hnc]; rfl)
        replace hcl := Lib.hid hcl
        replace hnc := Lib.hid hnc
        clear HA h
        go_wp2
        go_roundw
        case rel => exact ⟨k + 1, by omega, by go_num, by first | rfl | trivial, hyes⟩
        case measure => simp [intOf]; omega
      · have d1 : decide (97 ≤ (c : Int)) = false := decide_eq_false (by omega)
        have d1' : decide (97 ≤ c) = false := decide_eq_false (by omega)
        have d2 : decide ((c : Int) ≤ 122) = true := decide_eq_true (by omega)
        have d2' : decide (c ≤ 122) = true := decide_eq_true (by omega)
        have d3 : decide (48 ≤ (c : Int)) = true := decide_eq_true (by omega)
        have d3' : decide (48 ≤ c) = true := decide_eq_true (by omega)
        have d4 : decide ((c : Int) ≤ 57) = false := decide_eq_false (by omega)
        have d4' : decide (c ≤ 57) = false := decide_eq_false (by omega)
        have d5 : ((c : Int) == 45) = false := by first | (rw [beq_iff_eq]; omega) | (rw [beq_eq_false_iff_ne]; omega)
        have d6 : ((c : Int) == 58) = false := by first | (rw [beq_iff_eq]; omega) | (rw [beq_eq_false_iff_ne]; omega)
        have hnc : nchar n k c = false := by unfold nchar; simp; omega
        have hno := Lib.hid (all_no (fun k => nchar n k (s.data.toList.getD k 0).toNat) n k hkn (by simp only [hcl]; exact hnc))
        replace hcl := Lib.hid hcl
        replace hnc := Lib.hid hnc
        clear h
        go_wp2
        go_ret
        refine ⟨ret_bool ?_, rfl⟩
        unfold nameok; rw [hn, hno.out]; rfl
      · have d1 : decide (97 ≤ (c : Int)) = true := decide_eq_true (by omega)
        have d1' : decide (97 ≤ c) = true := decide_eq_true (by omega)
        have d2 : decide ((c : Int) ≤ 122) = true := decide_eq_true (by omega)
        have d2' : decide (c ≤ 122) = true := decide_eq_true (by omega)
        have d3 : decide (48 ≤ (c : Int)) = true := decide_eq_true (by omega)
        have d3' : decide (48 ≤ c) = true := decide_eq_true (by omega)
        have d4 : decide ((c : Int) ≤ 57) = false := decide_eq_false (by omega)
        have d4' : decide (c ≤ 57) = false := decide_eq_false (by omega)
        have d5 : ((c : Int) == 45) = false := by first | (rw [beq_iff_eq]; omega) | (rw [beq_eq_false_iff_ne]; omega)
        have d6 : ((c : Int) == 58) = false := by first | (rw [beq_iff_eq]; omega) | (rw [beq_eq_false_iff_ne]; omega)
        have hnc : nchar n k c = true := by unfold nchar; simp; omega
        have hyes : Hid ((List.range (k + 1)).all (fun k => nchar n k (s.data.toList.getD k 0).toNat) = true) := Lib.hid (by rw [all_snoc, HA.out, hcl, hnc]; rfl)
        replace hcl := Lib.hid hcl
        replace hnc := Lib.hid hnc
        clear HA h
        go_wp2
        go_roundw
        case rel => exact ⟨k + 1, by omega, by go_num, by first | rfl | trivial, hyes⟩
        case measure => simp [intOf]; omega
      · have d1 : decide (97 ≤ (c : Int)) = true := decide_eq_true (by omega)
        have d1' : decide (97 ≤ c) = true := decide_eq_true (by omega)
        have d2 : decide ((c : Int) ≤ 122) = false := decide_eq_false (by omega)
        have d2' : decide (c ≤ 122) = false := decide_eq_false (by omega)
        have d3 : decide (48 ≤ (c : Int)) = true := decide_eq_true (by omega)
        have d3' : decide (48 ≤ c) = true := decide_eq_true (by omega)
        have d4 : decide ((c : Int) ≤ 57) = false := decide_eq_false (by omega)
        have d4' : decide (c ≤ 57) = false := decide_eq_false (by omega)
        have d5 : ((c : Int) == 45) = false := by first | (rw [beq_iff_eq]; omega) | (rw [beq_eq_false_iff_ne]; omega)
        have d6 : ((c : Int) == 58) = false := by first | (rw [beq_iff_eq]; omega) | (rw [beq_eq_false_iff_ne]; omega)
        have hnc : nchar n k c = false := by unfold nchar; simp; omega
        have hno := Lib.hid (all_no (fun k => nchar n k (s.data.toList.getD k 0).toNat) n k hkn (by simp only [hcl]; exact hnc))
        replace hcl := Lib.hid hcl
        replace hnc := Lib.hid hnc
        clear h
        go_wp2
        go_ret
        refine ⟨ret_bool ?_, rfl⟩
        unfold nameok; rw [hn, hno.out]; rfl
    · have hk' : k = n := by omega
      have HB : Hid (nameok s = (decide (1 ≤ n) && decide (n ≤ 60))) := Lib.hid (by
        have := HA.out
        rw [hk'] at this
        unfold nameok; rw [hn, this, Bool.true_and])
      clear HA
      have h3 : n = 0 ∨ (1 ≤ n ∧ n ≤ 60) ∨ 60 < n := by omega
      rcases h3 with h | ⟨h, h2⟩ | h
      · have d1 : decide (1 ≤ n) = false := decide_eq_false (by omega)
        have d1' : decide ((1 : Int) ≤ (n : Int)) = false := decide_eq_false (by omega)
        rw [d1, Bool.false_and] at HB
        replace h := Lib.hid h
        go_wp2
        go_ret
        exact ⟨ret_bool HB.out.symm, rfl⟩
      · have d1 : decide (1 ≤ n) = true := decide_eq_true (by omega)
        have d1' : decide ((1 : Int) ≤ (n : Int)) = true := decide_eq_true (by omega)
        have d2 : decide (n ≤ 60) = true := decide_eq_true (by omega)
        have d2' : decide ((n : Int) ≤ 60) = true := decide_eq_true (by omega)
        rw [d1, d2, Bool.true_and] at HB
        go_wp2
        go_ret
        exact ⟨ret_bool HB.out.symm, rfl⟩
      · have d1 : decide (1 ≤ n) = true := decide_eq_true (by omega)
        have d1' : decide ((1 : Int) ≤ (n : Int)) = true := decide_eq_true (by omega)
        have d2 : decide (n ≤ 60) = false := decide_eq_false (by omega)
        have d2' : decide ((n : Int) ≤ 60) = false := decide_eq_false (by omega)
        rw [d1, d2, Bool.true_and] at HB
        go_wp2
        go_ret
        exact ⟨ret_bool HB.out.symm, rfl⟩
end Go.Proofs.Ytjkimabcpamdcaa
