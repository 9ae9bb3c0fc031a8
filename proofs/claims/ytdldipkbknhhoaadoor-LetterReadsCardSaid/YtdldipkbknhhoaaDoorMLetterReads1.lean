/- What the proof of LetterReads stands on, part 1: 14 texts of ours, one behind the other. -/
import Derived.Test.YtdldipkbknhhoaaDoorMLetterReads0
/- fields: Name, plain: which texts may be. -/
namespace Go.Proofs.YtdldipkbknhhoaaDoor
open Go.RowKit

/-- A name's byte, at its place, of a name so long. -/
def nchar (n k : Nat) (c : Nat) : Bool := (decide (97 ≤ c) && decide (c ≤ 122)) || (decide (48 ≤ c) && decide (c ≤ 57)) || decide (c = 45) || (decide (c = 58) && decide (k = 0) && decide (n ≠ 1))
def nameok (s : ByteArray) : Bool := ((List.range s.size).all fun k => nchar s.size k (s.data.toList.getD k 0).toNat) && decide (1 ≤ s.size) && decide (s.size ≤ 60)
def vchar (c : Nat) : Bool := decide (32 ≤ c) && decide (c ≤ 126)
def valok (s : ByteArray) : Bool := (List.range s.size).all fun k => vchar (s.data.toList.getD k 0).toNat
theorem chr_at (s : ByteArray) (k : Nat) (h : k < s.size) : (s.data.toList.getD k 0).toNat = (s[k]'h).toNat := by
  have : s.data.toList.getD k 0 = s[k]'h := by
    rw [List.getD_eq_getElem?_getD, List.getElem?_eq_getElem (by rw [data_length]; exact h), Option.getD_some, Array.getElem_toList]; rfl
  rw [this]
theorem all_snoc (f : Nat → Bool) (n : Nat) : (List.range (n + 1)).all f = ((List.range n).all f && f n) := by rw [List.range_succ, List.all_append]; simp
theorem all_no (f : Nat → Bool) (n k : Nat) (hk : k < n) (h : f k = false) : (List.range n).all f = false := by
  rw [List.all_eq_false]
  exact ⟨k, List.mem_range.2 hk, by rw [h]; simp⟩

set_option maxRecDepth 100000 in
set_option maxHeartbeats 2000000 in
theorem plain_any (s : ByteArray) (w : World) (hs : s.size ≤ 1000000) :
    Calls Tryd.prog 51 #[.string s] w fun e w' => e = .returned (.bool (valok s)) ∧ w = w' := by
  obtain ⟨n, hn⟩ : ∃ n, s.size = n := ⟨_, rfl⟩
  go_enter Tryd.func51, Tryd.ntmps51
  go_wp2
  go_loopw [6] (fun i wr => ∃ k : Nat, k ≤ n ∧ i = .int .i64 k ∧ wr = w ∧ Hid ((List.range k).all (fun k => vchar (s.data.toList.getD k 0).toNat) = true)) (fun i _ => n - (intOf i).toNat)
  case atStart => exact ⟨0, by omega, rfl, rfl, Lib.hid rfl⟩
  case round =>
    obtain ⟨k, hk, rfl, rfl, HA⟩ := hrel
    by_cases hkn : k < n
    · have hks : k < s.size := by omega
      obtain ⟨c, hc⟩ : ∃ c, (s[k]'hks).toNat = c := ⟨_, rfl⟩
      have hcl : (s.data.toList.getD k 0).toNat = c := by rw [← hc]; exact chr_at s k hks
      have h3 : c < 32 ∨ (¬ c < 32 ∧ 126 < c) ∨ (¬ c < 32 ∧ ¬ 126 < c) := by omega
      rcases h3 with h | ⟨h, h2⟩ | ⟨h, h2⟩
      · have d1 : decide ((c : Int) < 32) = true := decide_eq_true (by omega)
        have hno := Lib.hid (all_no (fun k => vchar (s.data.toList.getD k 0).toNat) n k hkn (by simp only [hcl]; unfold vchar; rw [decide_eq_false (by omega)]; rfl))
        replace hcl := Lib.hid hcl
        clear h
        go_wp2
        go_ret
        refine ⟨ret_bool ?_, rfl⟩
        unfold valok; rw [hn]; exact hno.out.symm
      · have d1 : decide ((c : Int) < 32) = false := decide_eq_false (by omega)
        have d2 : decide (126 < (c : Int)) = true := decide_eq_true (by omega)
        have hno := Lib.hid (all_no (fun k => vchar (s.data.toList.getD k 0).toNat) n k hkn (by simp only [hcl]; unfold vchar; rw [decide_eq_false (show ¬ c ≤ 126 by omega), Bool.and_false]))
        replace hcl := Lib.hid hcl
        clear h h2
        go_wp2
        go_ret
        refine ⟨ret_bool ?_, rfl⟩
        unfold valok; rw [hn]; exact hno.out.symm
      · have d1 : decide ((c : Int) < 32) = false := decide_eq_false (by omega)
        have d2 : decide (126 < (c : Int)) = false := decide_eq_false (by omega)
        have hyes : Hid ((List.range (k + 1)).all (fun k => vchar (s.data.toList.getD k 0).toNat) = true) := Lib.hid (by
          rw [all_snoc, HA.out, hcl]
          unfold vchar
          rw [decide_eq_true (by omega), decide_eq_true (by omega)]; rfl)
        replace hcl := Lib.hid hcl
        clear h h2 HA
        go_wp2
        go_roundw
        case rel => exact ⟨k + 1, by omega, by go_num, by first | rfl | trivial, hyes⟩
        case measure => simp [intOf]; omega
    · have hk' : k = n := by omega
      have HB : Hid (valok s = true) := Lib.hid (by unfold valok; rw [hn, ← hk']; exact HA.out)
      clear HA
      go_wp2
      go_ret
      exact ⟨ret_bool HB.out.symm, rfl⟩

set_option maxRecDepth 100000 in
set_option maxHeartbeats 4000000 in
theorem name_any (s : ByteArray) (w : World) (hs : s.size ≤ 1000000) :
    Calls Tryd.prog 50 #[.string s] w fun e w' => e = .returned (.bool (nameok s)) ∧ w = w' := by
  obtain ⟨n, hn⟩ : ∃ n, s.size = n := ⟨_, rfl⟩
  go_enter Tryd.func50, Tryd.ntmps50
  go_wp2
  go_loopw [7] (fun i wr => ∃ k : Nat, k ≤ n ∧ i = .int .i64 k ∧ wr = w ∧ Hid ((List.range k).all (fun k => nchar n k (s.data.toList.getD k 0).toNat) = true)) (fun i _ => n - (intOf i).toNat)
  case atStart => exact ⟨0, by omega, rfl, rfl, Lib.hid rfl⟩
  case round =>
    obtain ⟨k, hk, rfl, rfl, HA⟩ := hrel
    by_cases hkn : k < n
    · have hks : k < s.size := by omega
      obtain ⟨c, hc⟩ : ∃ c, (s[k]'hks).toNat = c := ⟨_, rfl⟩
      have hcl : (s.data.toList.getD k 0).toNat = c := by rw [← hc]; exact chr_at s k hks
      have hcls : (c < 45) ∨ (c = 45) ∨ (45 < c ∧ c < 48) ∨ (48 ≤ c ∧ c ≤ 57) ∨ (c = 58 ∧ 0 < k) ∨ (c = 58 ∧ k = 0 ∧ n = 1) ∨ (c = 58 ∧ k = 0 ∧ n ≠ 1) ∨ (58 < c ∧ c < 97) ∨ (97 ≤ c ∧ c ≤ 122) ∨ (122 < c) := by omega
      rcases hcls with h | h | h | h | h | h | h | h | h | h
      · have d1 : decide ((c : Int) < 97) = true := decide_eq_true (by omega)
        have d2 : decide (122 < (c : Int)) = false := decide_eq_false (by omega)
        have d3 : decide ((c : Int) < 48) = true := decide_eq_true (by omega)
        have d4 : decide (57 < (c : Int)) = false := decide_eq_false (by omega)
        have d5 : ((c : Int) != 45) = true := by first | (rw [bne_iff_ne]; omega) | (rw [bne_eq_false_iff_eq]; omega)
        have d6 : ((c : Int) != 58) = true := by first | (rw [bne_iff_ne]; omega) | (rw [bne_eq_false_iff_eq]; omega)
        have hnc : nchar n k c = false := by unfold nchar; simp; omega
        have hno := Lib.hid (all_no (fun k => nchar n k (s.data.toList.getD k 0).toNat) n k hkn (by simp only [hcl]; exact hnc))
        replace hcl := Lib.hid hcl
        replace hnc := Lib.hid hnc
        clear h
        go_wp2
        go_ret
        refine ⟨ret_bool ?_, rfl⟩
        unfold nameok; rw [hn, hno.out]; rfl
      · have d1 : decide ((c : Int) < 97) = true := decide_eq_true (by omega)
        have d2 : decide (122 < (c : Int)) = false := decide_eq_false (by omega)
        have d3 : decide ((c : Int) < 48) = true := decide_eq_true (by omega)
        have d4 : decide (57 < (c : Int)) = false := decide_eq_false (by omega)
        have d5 : ((c : Int) != 45) = false := by first | (rw [bne_iff_ne]; omega) | (rw [bne_eq_false_iff_eq]; omega)
        have d6 : ((c : Int) != 58) = true := by first | (rw [bne_iff_ne]; omega) | (rw [bne_eq_false_iff_eq]; omega)
        have hnc : nchar n k c = true := by unfold nchar; simp; omega
        have hyes : Hid ((List.range (k + 1)).all (fun k => nchar n k (s.data.toList.getD k 0).toNat) = true) := Lib.hid (by rw [all_snoc, HA.out, hcl, hnc]; rfl)
        replace hcl := Lib.hid hcl
        replace hnc := Lib.hid hnc
        clear HA h
        go_wp2
        go_roundw
        case rel => exact ⟨k + 1, by omega, by go_num, by first | rfl | trivial, hyes⟩
        case measure => simp [intOf]; omega
      · have d1 : decide ((c : Int) < 97) = true := decide_eq_true (by omega)
        have d2 : decide (122 < (c : Int)) = false := decide_eq_false (by omega)
        have d3 : decide ((c : Int) < 48) = true := decide_eq_true (by omega)
        have d4 : decide (57 < (c : Int)) = false := decide_eq_false (by omega)
        have d5 : ((c : Int) != 45) = true := by first | (rw [bne_iff_ne]; omega) | (rw [bne_eq_false_iff_eq]; omega)
        have d6 : ((c : Int) != 58) = true := by first | (rw [bne_iff_ne]; omega) | (rw [bne_eq_false_iff_eq]; omega)
        have hnc : nchar n k c = false := by unfold nchar; simp; omega
        have hno := Lib.hid (all_no (fun k => nchar n k (s.data.toList.getD k 0).toNat) n k hkn (by simp only [hcl]; exact hnc))
        replace hcl := Lib.hid hcl
        replace hnc := Lib.hid hnc
        clear h
        go_wp2
        go_ret
        refine ⟨ret_bool ?_, rfl⟩
        unfold nameok; rw [hn, hno.out]; rfl
      · have d1 : decide ((c : Int) < 97) = true := decide_eq_true (by omega)
        have d2 : decide (122 < (c : Int)) = false := decide_eq_false (by omega)
        have d3 : decide ((c : Int) < 48) = false := decide_eq_false (by omega)
        have d4 : decide (57 < (c : Int)) = false := decide_eq_false (by omega)
        have d5 : ((c : Int) != 45) = true := by first | (rw [bne_iff_ne]; omega) | (rw [bne_eq_false_iff_eq]; omega)
        have d6 : ((c : Int) != 58) = true := by first | (rw [bne_iff_ne]; omega) | (rw [bne_eq_false_iff_eq]; omega)
        have hnc : nchar n k c = true := by unfold nchar; simp; omega
        have hyes : Hid ((List.range (k + 1)).all (fun k => nchar n k (s.data.toList.getD k 0).toNat) = true) := Lib.hid (by rw [all_snoc, HA.out, hcl, hnc]; rfl)
        replace hcl := Lib.hid hcl
        replace hnc := Lib.hid hnc
        clear HA h
        go_wp2
        go_roundw
        case rel => exact ⟨k + 1, by omega, by go_num, by first | rfl | trivial, hyes⟩
        case measure => simp [intOf]; omega
      · have d1 : decide ((c : Int) < 97) = true := decide_eq_true (by omega)
        have d2 : decide (122 < (c : Int)) = false := decide_eq_false (by omega)
        have d3 : decide ((c : Int) < 48) = false := decide_eq_false (by omega)
        have d4 : decide (57 < (c : Int)) = true := decide_eq_true (by omega)
        have d5 : ((c : Int) != 45) = true := by first | (rw [bne_iff_ne]; omega) | (rw [bne_eq_false_iff_eq]; omega)
        have d6 : ((c : Int) != 58) = false := by first | (rw [bne_iff_ne]; omega) | (rw [bne_eq_false_iff_eq]; omega)
        have d7 : decide (0 < k) = true := decide_eq_true (by omega)
        have d7' : decide ((0 : Int) < (k : Int)) = true := decide_eq_true (by omega)
        have hnc : nchar n k c = false := by unfold nchar; simp; omega
        have hno := Lib.hid (all_no (fun k => nchar n k (s.data.toList.getD k 0).toNat) n k hkn (by simp only [hcl]; exact hnc))
        replace hcl := Lib.hid hcl
        replace hnc := Lib.hid hnc
        clear h
        go_wp2
        go_ret
        refine ⟨ret_bool ?_, rfl⟩
        unfold nameok; rw [hn, hno.out]; rfl
      · have d1 : decide ((c : Int) < 97) = true := decide_eq_true (by omega)
        have d2 : decide (122 < (c : Int)) = false := decide_eq_false (by omega)
        have d3 : decide ((c : Int) < 48) = false := decide_eq_false (by omega)
        have d4 : decide (57 < (c : Int)) = true := decide_eq_true (by omega)
        have d5 : ((c : Int) != 45) = true := by first | (rw [bne_iff_ne]; omega) | (rw [bne_eq_false_iff_eq]; omega)
        have d6 : ((c : Int) != 58) = false := by first | (rw [bne_iff_ne]; omega) | (rw [bne_eq_false_iff_eq]; omega)
        have d7 : decide (0 < k) = false := decide_eq_false (by omega)
        have d7' : decide ((0 : Int) < (k : Int)) = false := decide_eq_false (by omega)
        have d8 : ((n : Int) == 1) = true := by first | (rw [beq_iff_eq]; omega) | (rw [beq_eq_false_iff_ne]; omega)
        have hnc : nchar n k c = false := by unfold nchar; simp; omega
        have hno := Lib.hid (all_no (fun k => nchar n k (s.data.toList.getD k 0).toNat) n k hkn (by simp only [hcl]; exact hnc))
        replace hcl := Lib.hid hcl
        replace hnc := Lib.hid hnc
        clear h
        go_wp2
        go_ret
        refine ⟨ret_bool ?_, rfl⟩
        unfold nameok; rw [hn, hno.out]; rfl
      · have d1 : decide ((c : Int) < 97) = true := decide_eq_true (by omega)
        have d2 : decide (122 < (c : Int)) = false := decide_eq_false (by omega)
        have d3 : decide ((c : Int) < 48) = false := decide_eq_false (by omega)
        have d4 : decide (57 < (c : Int)) = true := decide_eq_true (by omega)
        have d5 : ((c : Int) != 45) = true := by first | (rw [bne_iff_ne]; omega) | (rw [bne_eq_false_iff_eq]; omega)
        have d6 : ((c : Int) != 58) = false := by first | (rw [bne_iff_ne]; omega) | (rw [bne_eq_false_iff_eq]; omega)
        have d7 : decide (0 < k) = false := decide_eq_false (by omega)
        have d7' : decide ((0 : Int) < (k : Int)) = false := decide_eq_false (by omega)
        have d8 : ((n : Int) == 1) = false := by first | (rw [beq_iff_eq]; omega) | (rw [beq_eq_false_iff_ne]; omega)
        have hnc : nchar n k c = true := by unfold nchar; simp; omega
        have hyes : Hid ((List.range (k + 1)).all (fun k => nchar n k (s.data.toList.getD k 0).toNat) = true) := Lib.hid (by rw [all_snoc, HA.out, hcl, hnc]; rfl)
        replace hcl := Lib.hid hcl
        replace hnc := Lib.hid hnc
        clear HA h
        go_wp2
        go_roundw
        case rel => exact ⟨k + 1, by omega, by go_num, by first | rfl | trivial, hyes⟩
        case measure => simp [intOf]; omega
      · have d1 : decide ((c : Int) < 97) = true := decide_eq_true (by omega)
        have d2 : decide (122 < (c : Int)) = false := decide_eq_false (by omega)
        have d3 : decide ((c : Int) < 48) = false := decide_eq_false (by omega)
        have d4 : decide (57 < (c : Int)) = true := decide_eq_true (by omega)
        have d5 : ((c : Int) != 45) = true := by first | (rw [bne_iff_ne]; omega) | (rw [bne_eq_false_iff_eq]; omega)
        have d6 : ((c : Int) != 58) = true := by first | (rw [bne_iff_ne]; omega) | (rw [bne_eq_false_iff_eq]; omega)
        have hnc : nchar n k c = false := by unfold nchar; simp; omega
        have hno := Lib.hid (all_no (fun k => nchar n k (s.data.toList.getD k 0).toNat) n k hkn (by simp only [hcl]; exact hnc))
        replace hcl := Lib.hid hcl
        replace hnc := Lib.hid hnc
        clear h
        go_wp2
        go_ret
        refine ⟨ret_bool ?_, rfl⟩
        unfold nameok; rw [hn, hno.out]; rfl
      · have d1 : decide ((c : Int) < 97) = false := decide_eq_false (by omega)
        have d2 : decide (122 < (c : Int)) = false := decide_eq_false (by omega)
        have d3 : decide ((c : Int) < 48) = false := decide_eq_false (by omega)
        have d4 : decide (57 < (c : Int)) = true := decide_eq_true (by omega)
        have d5 : ((c : Int) != 45) = true := by first | (rw [bne_iff_ne]; omega) | (rw [bne_eq_false_iff_eq]; omega)
        have d6 : ((c : Int) != 58) = true := by first | (rw [bne_iff_ne]; omega) | (rw [bne_eq_false_iff_eq]; omega)
        have hnc : nchar n k c = true := by unfold nchar; simp; omega
        have hyes : Hid ((List.range (k + 1)).all (fun k => nchar n k (s.data.toList.getD k 0).toNat) = true) := Lib.hid (by rw [all_snoc, HA.out, hcl, hnc]; rfl)
        replace hcl := Lib.hid hcl
        replace hnc := Lib.hid hnc
        clear HA h
        go_wp2
        go_roundw
        case rel => exact ⟨k + 1, by omega, by go_num, by first | rfl | trivial, hyes⟩
        case measure => simp [intOf]; omega
      · have d1 : decide ((c : Int) < 97) = false := decide_eq_false (by omega)
        have d2 : decide (122 < (c : Int)) = true := decide_eq_true (by omega)
        have d3 : decide ((c : Int) < 48) = false := decide_eq_false (by omega)
        have d4 : decide (57 < (c : Int)) = true := decide_eq_true (by omega)
        have d5 : ((c : Int) != 45) = true := by first | (rw [bne_iff_ne]; omega) | (rw [bne_eq_false_iff_eq]; omega)
        have d6 : ((c : Int) != 58) = true := by first | (rw [bne_iff_ne]; omega) | (rw [bne_eq_false_iff_eq]; omega)
        have hnc : nchar n k c = false := by unfold nchar; simp; omega
        have hno := Lib.hid (all_no (fun k => nchar n k (s.data.toList.getD k 0).toNat) n k hkn (by simp only [hcl]; exact hnc))
        replace hcl := Lib.hid hcl
        replace hnc := Lib.hid hnc
        clear h
        go_wp2
        go_ret
        refine ⟨ret_bool ?_, rfl⟩
        unfold nameok; rw [hn, hno.out]; rfl
    · have hk' : k = n := by omega
      have HB : Hid (nameok s = (decide (1 ≤ n) && decide (n ≤ 60))) := Lib.hid (by
        have := HA.out
        rw [hk'] at this
        unfold nameok; rw [hn, this, Bool.true_and])
      clear HA
      have h3 : n = 0 ∨ (1 ≤ n ∧ n ≤ 60) ∨ 60 < n := by omega
      rcases h3 with h | ⟨h, h2⟩ | h
      · have d1 : decide (1 ≤ n) = false := decide_eq_false (by omega)
        have d1' : decide ((1 : Int) ≤ (n : Int)) = false := decide_eq_false (by omega)
        rw [d1, Bool.false_and] at HB
        replace h := Lib.hid h
        go_wp2
        go_ret
        exact ⟨ret_bool HB.out.symm, rfl⟩
      · have d1 : decide (1 ≤ n) = true := decide_eq_true (by omega)
        have d1' : decide ((1 : Int) ≤ (n : Int)) = true := decide_eq_true (by omega)
        have d2 : decide (n ≤ 60) = true := decide_eq_true (by omega)
        have d2' : decide ((n : Int) ≤ 60) = true := decide_eq_true (by omega)
        rw [d1, d2, Bool.true_and] at HB
        go_wp2
        go_ret
        exact ⟨ret_bool HB.out.symm, rfl⟩
      · have d1 : decide (1 ≤ n) = true := decide_eq_true (by omega)
        have d1' : decide ((1 : Int) ≤ (n : Int)) = true := decide_eq_true (by omega)
        have d2 : decide (n ≤ 60) = false := decide_eq_false (by omega)
        have d2' : decide ((n : Int) ≤ 60) = false := decide_eq_false (by omega)
        rw [d1, d2, Bool.true_and] at HB
        go_wp2
        go_ret
        exact ⟨ret_bool HB.out.symm, rfl⟩
end Go.Proofs.YtdldipkbknhhoaaDoor

/- fields: Put. -/
namespace Go.Proofs.YtdldipkbknhhoaaDoor
open Go.RowKit

set_option maxHeartbeats 2000000 in
theorem contf_any (l : List Fd) (A : Option Addr) (c : Nat) (g : Nat) (lb : Array Value) (q : Fd → Bool) (w : World) (eg : Ent g) (hr : Rd w A (fdv l)) (hl : l.length ≤ 1000000)
    (hq : ∀ W x, Below w.heap.size w W → x ∈ l → Calls Tryd.prog g (#[x.agg] ++ lb) W fun e w' => e = .returned (.bool (q x)) ∧ Below w.heap.size w w') :
    Calls Tryd.prog 48 #[.slice A l.length c, .func (.func g) #[] lb] w fun e w' => e = .returned (.bool (l.any q)) ∧ Below w.heap.size w w' := by
  have CI := Lib.hid (idxf_any l A c g lb q w eg hr hl hq)
  rw [← fidx_any q l]
  clear hq hr
  obtain ⟨V, hV⟩ : ∃ V, fidx q l = V := ⟨_, rfl⟩
  rw [hV] at CI ⊢
  clear hV
  go_enter Tryd.func48, Tryd.ntmps48
  go_wp2_with fail
  refine CI.out.mono ?_
  rintro e w' ⟨rfl, hb⟩
  clear CI
  replace hb := Lib.hid hb
  go_wp2_with fail
  go_ret
  exact ⟨rfl, hb.out⟩

theorem put1_any (x : Fd) (w : World) (hs : x.value.size ≤ 1000000) :
    Calls Tryd.prog 49 (#[x.agg] ++ #[]) w fun e w' => e = .returned (.bool (decide (400 < x.value.size))) ∧ Below w.heap.size w w' := by
  unfold Fd.agg
  show Calls Tryd.prog 49 #[.agg #[.string x.name, .string x.value]] w _
  obtain ⟨n, hn⟩ : ∃ n, x.value.size = n := ⟨_, rfl⟩
  have hd : decide ((400 : Int) < (n : Int)) = decide (400 < n) := by apply decide_eq_decide.2; omega
  rw [hn]
  go_enter Tryd.func49, Tryd.ntmps49
  go_wp2
  go_ret
  refine ⟨ret_bool ?_, (Below.refl _ w).alloc (Nat.le_refl _) _⟩
  first | exact hd | rfl
theorem ent_put1 : Ent 49 := enters_of Tryd.func49 (by kernel_rfl) rfl

def flines (fs : List Fd) : List UInt8 := fs.flatMap fline
theorem flines_snoc (fs : List Fd) (f : Fd) : flines (fs ++ [f]) = flines fs ++ fline f := by simp [flines]
def fok (f : Fd) : Bool := nameok f.name && valok f.value
def fput (fs : List Fd) : List UInt8 × Int :=
  if decide (16 < fs.length) || fs.any (fun x => decide (400 < x.value.size)) then ([], 4) else if fs.all fok then (0 :: 0 :: flines fs, 0) else ([], 5)
theorem pline_len (f : Fd) (h1 : f.name.size ≤ 60) (h2 : f.value.size ≤ 400) : (fline f).length ≤ 500 := by
  unfold fline
  have hv := ptext_len 0 7 f.value.data.toList
  rw [data_length] at hv
  split
  · rename_i k _
    have := pput_len 192 6 k; omega
  · rw [List.length_append]
    unfold fhead
    split
    · rename_i k _
      have := pput_len 80 4 k; omega
    · have hn := ptext_len 32 3 f.name.data.toList
      rw [data_length] at hn
      omega
theorem nameok_size {s : ByteArray} (h : nameok s = true) : s.size ≤ 60 := by
  unfold nameok at h
  simp only [Bool.and_eq_true, decide_eq_true_eq] at h
  exact h.2
theorem flines_len : ∀ (fs : List Fd), (∀ f ∈ fs, f.name.size ≤ 60 ∧ f.value.size ≤ 400) → (flines fs).length ≤ 500 * fs.length
  | [], _ => by simp [flines]
  | f :: fs, h => by
    have ih := flines_len fs (fun g hg => h g (by simp [hg]))
    have := pline_len f (h f (by simp)).1 (h f (by simp)).2
    rw [show flines (f :: fs) = fline f ++ flines fs from by simp [flines], List.length_append, List.length_cons]
    omega

def RetP (w : World) (x : List UInt8 × Int) (e : Ending) (w' : World) : Prop :=
  ∃ A c, e = .returned (.tuple #[.slice A x.1.length c, .int .i64 x.2]) ∧ w'.ownsRow w.heap.size 5 1 (.slice A x.1.length c) x.1.length (bv x.1) ∧ Below w.heap.size w w'

set_option maxRecDepth 100000 in
set_option maxHeartbeats 4000000 in
theorem fput_any (fs : List Fd) (A : Option Addr) (cap n : Nat) (w : World) (hn : fs.length = n) (hr : Rd w A (fdv fs)) (hl : n ≤ 1000000) (hs : ∀ f ∈ fs, f.name.size ≤ 1000000 ∧ f.value.size ≤ 1000000) :
    Calls Tryd.prog 36 #[.slice A n cap] w (RetP w (fput fs)) := by
  by_cases h16 : 16 < n
  · have d1 : decide ((16 : Int) < (n : Int)) = true := decide_eq_true (by omega)
    have hp : Hid (fput fs = ([], 4)) := Lib.hid (by unfold fput; rw [hn, decide_eq_true h16]; rfl)
    clear hn hr hs
    go_enter Tryd.func36, Tryd.ntmps36
    go_wp2_with fail
    go_ret2
    rw [hp.out]
    exact ⟨none, 0, rfl, World.ownsRow_nil _ _ _ _, Below.refl _ _⟩
  · have d1 : decide ((16 : Int) < (n : Int)) = false := decide_eq_false (by omega)
    have CF := contf_any fs A cap _ #[] (fun x => decide (400 < x.value.size)) w ent_put1 hr (by omega) (fun W x hW hx => (put1_any x W (hs x hx).2).mono (fun e w' h => ⟨h.1, hW.trans (h.2.mono hW.size)⟩))
    rw [hn] at CF
    obtain ⟨B, hB⟩ : ∃ B, (fs.any fun x => decide (400 < x.value.size)) = B := ⟨_, rfl⟩
    rw [hB] at CF
    cases B
    · have hv400 : ∀ f ∈ fs, f.value.size ≤ 400 := fun f hf => by
        have := List.any_eq_false.1 hB f hf
        simpa using this
      have hp : fput fs = if fs.all fok then (0 :: 0 :: flines fs, 0) else ([], 5) := by
        unfold fput; rw [hn, decide_eq_false h16, hB]; rfl
      have HP := Lib.hid hp
      have HR := Lib.hid hr
      have HS := Lib.hid hs
      have HN := Lib.hid hn
      have HV := Lib.hid hv400
      replace CF := Lib.hid CF
      replace hB := Lib.hid hB
      clear hp hr hs hn hv400
      go_enter Tryd.func36, Tryd.ntmps36
      go_wp2_with fail
      refine CF.out.mono ?_
      rintro e w1 ⟨rfl, b1⟩
      have H0 : Hid (∀ cs, cs = (bv [0, 0]).toArray → (w1.alloc (.cells cs 5)).ownsRow w.heap.size 5 1 (.slice (some ⟨w1.heap.size, 0, none⟩) 2 2) 2 (bv ([0, 0] ++ flines (fs.take 0))) ∧ Below w.heap.size w (w1.alloc (.cells cs 5))) := Lib.hid (fun cs hcs => by
        subst hcs
        exact ⟨World.ownsRow_lit w1 _ 2 b1.size (by simp [maxLen]) rfl, b1.alloc b1.size _⟩)
      clear CF b1
      go_wp2_with fail
      have K0 := H0.out _ rfl
      replace K0 := Lib.hid K0
      clear H0 d1
      go_loopw [4, 17] (fun v i wr => ∃ (k m c4 : Nat) (A4 : Option Addr), k ≤ n ∧ i = .int .i64 k ∧ v = .slice A4 m c4 ∧ Hid (([0, 0] ++ flines (fs.take k)).length = m ∧ (fs.take k).all fok = true ∧ wr.ownsRow w.heap.size 5 1 (.slice A4 m c4) m (bv ([0, 0] ++ flines (fs.take k))) ∧ Below w.heap.size w wr)) (fun _ i _ => n - (intOf i).toNat)
      case atStart => exact ⟨0, 2, 2, _, by omega, rfl, rfl, Lib.hid ⟨rfl, rfl, K0.out.1, K0.out.2⟩⟩
      case round =>
        clear K0
        obtain ⟨k, m, c4, A4, hk, rfl, rfl, HK⟩ := hrel
        obtain ⟨hm, hall, ho, hb⟩ := HK.out
        clear HK
        by_cases hkn : k < n
        · obtain ⟨f, hf⟩ : ∃ f, fs[k]? = some f := ⟨_, List.getElem?_eq_getElem (by rw [HN.out]; exact hkn)⟩
          obtain ⟨hkl, hfe⟩ := List.getElem?_eq_some_iff.1 hf
          obtain ⟨b, off, rfl, x0, x1⟩ := load_fd (HR.out.below hb) hkl
          rw [hfe] at x0 x1
          have hfm := List.mem_of_getElem? hf
          have hfs := HS.out f hfm
          have hfv := HV.out f hfm
          have htk : fs.take (k + 1) = fs.take k ++ [f] := by rw [List.take_succ_eq_append_getElem hkl, hfe]
          obtain ⟨fa, fb⟩ := f
          simp only at x0 x1 hfs hfv
          have hn60 := @nameok_size fa
          replace HR := HR
          obtain ⟨B1, hB1⟩ : ∃ B1, nameok fa = B1 := ⟨_, rfl⟩
          obtain ⟨B2, hB2⟩ : ∃ B2, valok fb = B2 := ⟨_, rfl⟩
          have hfk : fok ⟨fa, fb⟩ = (B1 && B2) := by unfold fok; rw [hB1, hB2]
          rw [hB1] at hn60
          have NM := Lib.hid (fun W => name_any fa W hfs.1)
          have PL := Lib.hid (fun W => plain_any fb W hfs.2)
          rw [hB1] at NM
          rw [hB2] at PL
          have hno : (B1 && B2) = false → fput fs = ([], 5) := fun h => by
            rw [HP.out, if_neg]
            intro hh
            have := List.all_eq_true.1 hh _ hfm
            rw [hfk, h] at this; cases this
          have hlm : m ≤ 20000 := by
            have := flines_len (fs.take k) (fun g hg => ⟨nameok_size (by
              have := List.all_eq_true.1 hall g hg
              unfold fok at this
              rw [Bool.and_eq_true] at this
              exact this.1), HV.out g (List.mem_of_mem_take hg)⟩)
            rw [List.length_append, List.length_take] at *
            simp only [List.length_cons, List.length_nil] at *
            omega
          replace hfm := Lib.hid hfm
          replace hf := Lib.hid hf
          replace hfe := Lib.hid hfe
          replace htk := Lib.hid htk
          replace hB1 := Lib.hid hB1
          replace hB2 := Lib.hid hB2
          replace hm := Lib.hid hm
          replace hall := Lib.hid hall
          replace ho := Lib.hid ho
          replace hb := Lib.hid hb
          cases B1
          · have hp5 := Lib.hid (hno rfl)
            clear hno hn60 hfk
            go_wp2_with fail
            refine (NM.out _).mono ?_
            rintro e w2 ⟨rfl, rfl⟩
            go_wp2_with fail
            go_ret2
            rw [hp5.out]
            exact ⟨none, 0, rfl, World.ownsRow_nil _ _ _ _, hb.out.alloc hb.out.size _⟩
          · cases B2
            · have hp5 := Lib.hid (hno rfl)
              clear hno hn60 hfk
              go_wp2_with fail
              refine (NM.out _).mono ?_
              rintro e w2 ⟨rfl, rfl⟩
              go_wp2_with fail
              refine (PL.out _).mono ?_
              rintro e w2 ⟨rfl, rfl⟩
              go_wp2_with fail
              go_ret2
              rw [hp5.out]
              exact ⟨none, 0, rfl, World.ownsRow_nil _ _ _ _, hb.out.alloc hb.out.size _⟩
            · have hll := pline_len ⟨fa, fb⟩ (hn60 rfl) hfv
              have hall2 : Hid ((fs.take (k + 1)).all fok = true) := Lib.hid (by rw [htk.out, List.all_append, hall.out]; simp [hfk])
              have hfl : Hid ([0, 0] ++ flines (fs.take (k + 1)) = [0, 0] ++ flines (fs.take k) ++ fline ⟨fa, fb⟩) := Lib.hid (by rw [htk.out, flines_snoc, List.append_assoc])
              obtain ⟨q, hq⟩ : ∃ q, (fline ⟨fa, fb⟩).length = q := ⟨_, rfl⟩
              have LN := Lib.hid (fun W => line_any fa fb W hfs.1 hfs.2)
              rw [hq] at LN hll
              have hm2 : Hid (([0, 0] ++ flines (fs.take (k + 1))).length = m + q) := Lib.hid (by rw [hfl.out, List.length_append, hm.out, hq])
              have b2 := Lib.hid (hb.out.alloc hb.out.size (.cells #[.string fa, .string fb] 47))
              have o2 := Lib.hid (ho.out.alloc (.cells #[.string fa, .string fb] 47))
              clear hno hn60 hfk
              replace hq := Lib.hid hq
              go_wp2_with fail
              refine (NM.out _).mono ?_
              rintro e w2 ⟨rfl, rfl⟩
              go_wp2_with fail
              refine (PL.out _).mono ?_
              rintro e w2 ⟨rfl, rfl⟩
              go_wp2_with fail
              refine (LN.out _).mono ?_
              rintro e w3 ⟨A5, c5, rfl, o5, b5⟩
              have o3 := Lib.hid (own_fr o2.out (Fr.of_below b5 NoS) (fun _ _ x => x))
              have r5 := Lib.hid (Rd.of_own o5)
              have b3 := Lib.hid (b2.out.trans (b5.mono b2.out.size))
              clear o5 b5 o2 b2 ho hb LN NM PL
              go_wp2_with (at_builtin; refine wpList_app _ rfl _ _ 23 rfl w.heap.size 5 (.int .u8 0) 1 infoB Tryd.underlying23 rfl (.slice A4 m c4) m (bv ([0, 0] ++ flines (fs.take k))) rfl o3.out A5 q c5 (bv (fline ⟨fa, fb⟩)) rfl (by rw [bv_length]; exact hq.out) r5.out (bv_one _) (by unfold maxLen; omega) (by omega) b3.out.size ?_; intro A6 c6 w6 ho6 hg6 _; rw [← bv_append, ← hfl.out] at ho6; have b6 := Lib.hid (Fr.under b3.out b3.out.size ((Fr.refl (fun q => (Value.slice A4 m c4).ownBlock = some q) _).grown hg6 (fun _ hq _ => hq)) (fun q hq _ => (o3.out.lt q hq).1)); replace ho6 := Lib.hid ho6; clear hg6)
              go_roundw
              case rel => exact ⟨k + 1, m + q, c6, A6, by omega, by go_num, by first | rfl | go_num, Lib.hid ⟨hm2.out, hall2.out, ho6.out, b6.out⟩⟩
              case measure => simp [intOf]; omega
        · have hk' : k = n := by omega
          have htk : fs.take k = fs := List.take_of_length_le (by rw [HN.out]; omega)
          rw [htk] at hm hall ho
          have hp0 : Hid (fput fs = (0 :: 0 :: flines fs, 0)) := Lib.hid (by rw [HP.out, if_pos hall])
          replace hm := Lib.hid hm
          replace hall := Lib.hid hall
          replace ho := Lib.hid ho
          replace hb := Lib.hid hb
          replace htk := Lib.hid htk
          go_wp2_with fail
          go_ret2
          rw [hp0.out]
          have e : (0 :: 0 :: flines fs : List UInt8).length = m := hm.out
          refine ⟨A4, c4, by rw [e]; rfl, ?_, hb.out⟩
          rw [e]; exact ho.out
    · have hp : Hid (fput fs = ([], 4)) := Lib.hid (by unfold fput; rw [hn, decide_eq_false h16, hB]; rfl)
      replace CF := Lib.hid CF
      replace hB := Lib.hid hB
      clear hn hr hs
      go_enter Tryd.func36, Tryd.ntmps36
      go_wp2_with fail
      refine CF.out.mono ?_
      rintro e w1 ⟨rfl, b1⟩
      replace b1 := Lib.hid b1
      clear CF
      go_wp2_with fail
      go_ret2
      rw [hp.out]
      exact ⟨none, 0, rfl, World.ownsRow_nil _ _ _ _, b1.out⟩
end Go.Proofs.YtdldipkbknhhoaaDoor

/- 's[l:h]', 's[l:]' of a slice: the value under one name, and what it reads as. Nothing of the program. -/
namespace Go.Proofs.YtdldipkbknhhoaaDoor
open Go.RowKit

/-- Where a cut's elements lie. -/
structure CutOf (A X : Option Addr) (l h cap : Nat) : Prop where
  rd : ∀ (w : World) (xs : List Value), h ≤ xs.length → xs.length ≤ cap → Rd w A xs → Rd w X ((xs.drop l).take (h - l))
  blk : ∀ a, X = some a → ∃ a0, A = some a0 ∧ a0.block = a.block
  nl : X = none → A = none
  eq : cap ≠ l → X = A.map (·.add l)

theorem cutOf (A : Option Addr) (l h cap : Nat) (hl : l ≤ h) (hh : h ≤ cap) : CutOf A (if cap = l then A else A.map (·.add l)) l h cap := by
  refine ⟨fun w xs h1 h2 hr => (hr.drop (k := l) (by omega) h2).take _, fun a ha => ?_, fun h => by split at h <;> simpa using h, fun h => by rw [if_neg h]⟩
  split at ha
  · exact ⟨a, ha, rfl⟩
  · cases A with
    | none => cases ha
    | some a0 =>
      injection ha with ha
      subst ha
      exact ⟨a0, rfl, by unfold Addr.add; split <;> rfl⟩

section
variable {P : Program} {t e : TypeId} {z : Value} {bytes : Nat}
theorem cut_lh (ht : P.underlying t = some (.slice e)) (hinfo : (P.info? e).map (fun i => (i.zero, i.size, i.bytes)) = some (some z, 1, bytes)) (A : Option Addr) (len cap l h : Nat) (hl : l ≤ h) (hh : h ≤ cap) :
    ∃ X, (∀ w : World, (Instr.sliceAt t (.slice A len cap) (some (.int .i64 l)) (some (.int .i64 h)) none).run P w = .ok (.slice X (h - l) (cap - l)) w) ∧ CutOf A X l h cap := by
  refine ⟨_, fun w => ?_, cutOf A l h cap hl hh⟩
  obtain ⟨i, hi, -, hz, -⟩ := info_parts hinfo
  simp [Instr.sliceAt, Instr.slice, run_underlying ht, Instr.sliceBounds, run_sliceBound, (by omega : (l : Int) ≤ h), (by omega : (h : Int) ≤ cap), sizeOf, typeInfo, hi, hz]
theorem cut_l (ht : P.underlying t = some (.slice e)) (hinfo : (P.info? e).map (fun i => (i.zero, i.size, i.bytes)) = some (some z, 1, bytes)) (A : Option Addr) (len cap l : Nat) (hl : l ≤ len) (hh : len ≤ cap) :
    ∃ X, (∀ w : World, (Instr.sliceAt t (.slice A len cap) (some (.int .i64 l)) none none).run P w = .ok (.slice X (len - l) (cap - l)) w) ∧ CutOf A X l len cap := by
  refine ⟨_, fun w => ?_, cutOf A l len cap hl hh⟩
  obtain ⟨i, hi, -, hz, -⟩ := info_parts hinfo
  simp [Instr.sliceAt, Instr.slice, run_underlying ht, Instr.sliceBounds, run_sliceBound, (by omega : (l : Int) ≤ len), sizeOf, typeInfo, hi, hz]
theorem cut_h (ht : P.underlying t = some (.slice e)) (hinfo : (P.info? e).map (fun i => (i.zero, i.size, i.bytes)) = some (some z, 1, bytes)) (A : Option Addr) (len cap h : Nat) (hh : h ≤ cap) :
    ∀ w : World, (Instr.sliceAt t (.slice A len cap) none (some (.int .i64 h)) none).run P w = .ok (.slice A h cap) w := by
  intro w
  obtain ⟨i, hi, -, hz, -⟩ := info_parts hinfo
  have e : (if cap = 0 then A else Option.map (fun x => x.add (0 * 1)) A) = A := by
    split
    · rfl
    · cases A with
      | none => rfl
      | some a => simp [Addr.add]
  simp only [Nat.zero_mul] at e
  simp [Instr.sliceAt, Instr.slice, run_underlying ht, Instr.sliceBounds, run_sliceBound, (by omega : (h : Int) ≤ cap), sizeOf, typeInfo, hi, hz, e]
end
theorem CutOf.bytes {A X : Option Addr} {l h cap : Nat} (q : CutOf A X l h cap) {w : World} {xs : List UInt8} (hr : Rd w A (bv xs)) (h1 : h ≤ xs.length) (h2 : xs.length ≤ cap) : Rd w X (bv ((xs.drop l).take (h - l))) := by
  rw [bv, List.map_take, List.map_drop]; exact q.rd w _ (by simpa [bv] using h1) (by simpa [bv] using h2) hr
/-- min, max of two numbers, under one name. -/
theorem run_min2 {P : Program} (x y m : Int) (h : m = min x y) (ts : Array TypeId) (t : TypeId) (w : World) : (Builtin.min_ ts t #[.int .i64 x, .int .i64 y]).run P w = .ok (.int .i64 m) w := by
  rw [run_min_int2, h]
  congr 2
  split <;> omega
theorem run_max2 {P : Program} (x y m : Int) (h : m = max x y) (ts : Array TypeId) (t : TypeId) (w : World) : (Builtin.max_ ts t #[.int .i64 x, .int .i64 y]).run P w = .ok (.int .i64 m) w := by
  rw [run_max_int2, h]
  congr 2
  split <;> omega
theorem run_min3 {P : Program} (x y z m : Int) (h : m = min (min x y) z) (ts : Array TypeId) (t : TypeId) (w : World) : (Builtin.min_ ts t #[.int .i64 x, .int .i64 y, .int .i64 z]).run P w = .ok (.int .i64 m) w := by
  simp only [Builtin.min_, Builtin.min2, List.foldlM_cons, List.foldlM_nil, Sem.run_bind, Sem.run_pure, Result.andThen_ok, h]
  congr 2
  split <;> split <;> omega
theorem u8_ne {a b : UInt8} (h : a ≠ b) : ((a.toNat : Int) == (b.toNat : Int)) = false := by
  rw [beq_eq_false_iff_ne]; intro e; exact h (UInt8.toNat_inj.1 (Int.ofNat.inj e))
theorem u8_ne' {a b : UInt8} (h : a ≠ b) : ((a.toNat : Int) != (b.toNat : Int)) = true := by
  rw [bne_iff_ne]; intro e; exact h (UInt8.toNat_inj.1 (Int.ofNat.inj e))
section
variable {P : Program} {t e : TypeId} {z : Value} {bytes : Nat}
theorem cut_hI (ht : P.underlying t = some (.slice e)) (hinfo : (P.info? e).map (fun i => (i.zero, i.size, i.bytes)) = some (some z, 1, bytes)) (A : Option Addr) (len cap h : Nat) (hi : Int) (he : hi = h) (hh : h ≤ cap) :
    ∀ w : World, (Instr.sliceAt t (.slice A len cap) none (some (.int .i64 hi)) none).run P w = .ok (.slice A h cap) w := by
  subst he; exact cut_h ht hinfo A len cap h hh
end
theorem Rd.take_bytes {w : World} {A : Option Addr} {xs : List UInt8} (h : Rd w A (bv xs)) (k : Nat) : Rd w A (bv (xs.take k)) := by rw [bv, List.map_take]; exact h.take k
/-- A cut up to the end. -/
theorem CutOf.bytes' {A X : Option Addr} {l h cap : Nat} (q : CutOf A X l h cap) {w : World} {xs : List UInt8} (hr : Rd w A (bv xs)) (h1 : xs.length = h) (h2 : h ≤ cap) : Rd w X (bv (xs.drop l)) := by
  have := q.bytes hr (by omega) (by omega)
  rwa [List.take_of_length_le (by simp; omega)] at this
section
variable {P : Program} {t e : TypeId} {z : Value} {bytes : Nat}
theorem cut_lhI (ht : P.underlying t = some (.slice e)) (hinfo : (P.info? e).map (fun i => (i.zero, i.size, i.bytes)) = some (some z, 1, bytes)) (A : Option Addr) (len cap l h : Nat) (li hi : Int) (h1 : li = l) (h2 : hi = h) (hl : l ≤ h) (hh : h ≤ cap) :
    ∃ X, (∀ w : World, (Instr.sliceAt t (.slice A len cap) (some (.int .i64 li)) (some (.int .i64 hi)) none).run P w = .ok (.slice X (h - l) (cap - l)) w) ∧ CutOf A X l h cap := by
  subst h1 h2; exact cut_lh ht hinfo A len cap l h hl hh
end
end Go.Proofs.YtdldipkbknhhoaaDoor

/- fields: the reader: number, text, value. -/
namespace Go.Proofs.YtdldipkbknhhoaaDoor
open Go.RowKit

theorem res1 {P : Program} {fn : Func} {p : Tmp} {s : TypeId} (h : fn.results = #[.cell p s]) (tmps : Array Value) (w : World) (a : Addr) (x : Value)
    (ha : tmps.getD p undef = .pointer (some a)) (hx : (loadVar s a).run P w = .ok x w) : (results fn tmps).run P w = .ok x w := by
  simp only [Array.getD_eq_getD_getElem?] at ha
  simp only [results, h]
  simp [Sem.run_bind, Result.andThen, ha, asAddr, hx]

theorem HasRow.set2 {W : World} {B : Nat} {t : TypeId} {x y : Value} (h : HasRow W B t #[x, y]) (u v : Value) : HasRow ((W.setCell ⟨B, 0, none⟩ u).setCell ⟨B, 1, none⟩ v) B t #[u, v] :=
  heap_setCell_same _ B 1 _ t v (heap_setCell_same W B 0 _ t u h)
theorem loadF {w : World} {g : Nat} {a b : ByteArray} (h : HasRow w g 47 #[.string a, .string b]) : (loadVar 47 ⟨g, 0, none⟩).run Tryd.prog w = .ok (.agg #[.string a, .string b]) w := by
  have k0 := h.cell 0 _ rfl
  have k1 := h.cell 1 _ rfl
  simp [go_sem, k0, k1]
set_option maxRecDepth 100000 in
set_option maxHeartbeats 2000000 in
theorem fixed_far (w : World) : Calls Tryd.prog 64 #[] w fun e w' => ∃ g, e = .returned (.slice (some ⟨g, 0, none⟩) 16 16) ∧ w.heap.size ≤ g ∧ (∀ (N : Nat) (a b : ByteArray), fixed[N]? = some (⟨a, b⟩ : Fd) → w'.cell? ⟨g, N * 2, none⟩ = some (.string a) ∧ w'.cell? ⟨g, N * 2 + 1, none⟩ = some (.string b)) ∧ Below w.heap.size w w' := by
  go_enter Tryd.func64, Tryd.ntmps64
  go_wp2
  go_ret
  refine ⟨_, rfl, Nat.le_refl _, fun N a b h => ?_, (Below.refl _ w).alloc (Nat.le_refl _) _⟩
  obtain ⟨hN, e⟩ := List.getElem?_eq_some_iff.1 h
  obtain ⟨b', off', e1, x0, x1⟩ := load_fd (Rd.fresh_mark w (fdv fixed) _ _) hN
  injection e1 with e1
  injection e1 with e1 e2
  subst e1 e2
  rw [e, Nat.zero_add] at x0 x1
  exact ⟨x0, x1⟩
structure Rdr (w : World) (p : Nat) (A : Option Addr) (n c : Nat) (l : List UInt8) (e : Int) : Prop where
  row : HasRow w p 73 #[.slice A n c, .int .i64 e]
  rd : Rd w A (bv l)
  len : l.length = n
  cap : n ≤ c
  capx : c ≤ 9223372036854775807
  far : ∀ a, A = some a → a.block ≠ p
  lt : ∀ a, A = some a → a.block < w.heap.size
  small : n ≤ 1000000
def RdrB (B : Nat) (w : World) (p : Nat) (l : List UInt8) (e : Int) : Prop := ∃ A n c, Rdr w p A n c l e ∧ ∀ a, A = some a → a.block < B
section
variable {w w' : World} {p : Nat} {A : Option Addr} {n c : Nat} {l : List UInt8} {e : Int}
theorem Rdr.fr {S : Nat → Prop} (h : Rdr w p A n c l e) (F : Fr S w w') (hp : ¬ S p) (hA : ∀ a, A = some a → ¬ S a.block) : Rdr w' p A n c l e :=
  ⟨h.row.fr F hp, h.rd.fr F (fun _ a ha => hA a ha), h.len, h.cap, h.capx, h.far, (fun a ha => by have := h.lt a ha; have := F.size; omega), h.small⟩
theorem Rdr.below (h : Rdr w p A n c l e) (b : Below w.heap.size w w') : Rdr w' p A n c l e := h.fr (Fr.of_below b NoS) (fun x => x) (fun _ _ x => x)
theorem Rdr.setE (h : Rdr w p A n c l e) (e' : Int) : Rdr (w.setCell ⟨p, 1, none⟩ (.int .i64 e')) p A n c l e' :=
  ⟨heap_setCell_same w p 1 _ _ _ h.row, h.rd.fr ((Fr.refl (fun k => k = p) w).setCell (p := ⟨p, 1, none⟩) (fun _ => rfl) _) (fun _ a ha e => h.far a ha e), h.len, h.cap, h.capx, h.far, (fun a ha => by have := h.lt a ha; simpa [World.setCell] using this), h.small⟩
theorem Rdr.setB (h : Rdr w p A n c l e) (X : Option Addr) (m : Nat) (hm : m ≤ n) (hc : CutOf A X m n c) : Rdr (w.setCell ⟨p, 0, none⟩ (.slice X (n - m) (c - m))) p X (n - m) (c - m) (l.drop m) e := by
  have hl := h.len
  have hcap := h.cap
  have hcx := h.capx
  have hsm := h.small
  refine ⟨heap_setCell_same w p 0 _ _ _ h.row, ?_, by rw [List.length_drop, hl], by omega, by omega, fun a ha => ?_, fun a ha => ?_, by omega⟩
  · have := hc.bytes' h.rd hl h.cap
    exact this.fr ((Fr.refl (fun k => k = p) w).setCell (p := ⟨p, 0, none⟩) (fun _ => rfl) _) (fun _ a ha e => by
      obtain ⟨a0, h1, h2⟩ := hc.blk a ha
      exact h.far a0 h1 (h2.trans e))
  · obtain ⟨a0, h1, h2⟩ := hc.blk a ha
    rw [← h2]; exact h.far a0 h1
  · obtain ⟨a0, h1, h2⟩ := hc.blk a ha
    have := h.lt a0 h1
    rw [← h2]
    simpa [World.setCell] using this
theorem frp_cell (w : World) (p i : Nat) (v : Value) : Fr (fun k => k = p) w (w.setCell ⟨p, i, none⟩ v) := (Fr.refl (fun k => k = p) w).setCell (p := ⟨p, i, none⟩) (fun _ => rfl) v
end

/-- The reader behind a write into a result's block g. -/
theorem rdr_out {w0 w : World} {p g : Nat} {A : Option Addr} {n c : Nat} {l : List UInt8} {e : Int} {x y : Value} (h : Rdr w p A n c l e) (hR : HasRow w g 47 #[x, y]) (hpg : p ≠ g) (hA : ∀ a, A = some a → a.block ≠ g) (F : Fr (fun k => k = p) w0 w) (hg : w0.heap.size ≤ g) (u v : Value) :
    HasRow ((w.setCell ⟨g, 0, none⟩ u).setCell ⟨g, 1, none⟩ v) g 47 #[u, v] ∧ Rdr ((w.setCell ⟨g, 0, none⟩ u).setCell ⟨g, 1, none⟩ v) p A n c l e ∧ Fr (fun k => k = p) w0 ((w.setCell ⟨g, 0, none⟩ u).setCell ⟨g, 1, none⟩ v) := by
  refine ⟨hR.set2 u v, (h.fr (frp_cell _ g 0 u) (fun e => hpg e) (fun a ha => hA a ha)).fr (frp_cell _ g 1 v) (fun e => hpg e) (fun a ha => hA a ha), ?_⟩
  exact (F.setCell (p := ⟨g, 0, none⟩) (fun h => absurd h (by simp only; omega)) u).setCell (p := ⟨g, 1, none⟩) (fun h => absurd h (by simp only; omega)) v
def fdz : Fd := ⟨⟨#[]⟩, ⟨#[]⟩⟩
def pnum (b : Nat) (l : List UInt8) : List UInt8 × Int × Fd :=
  if (pget b l).2.2 ≠ 0 then (l, (pget b l).2.2, fdz) else if 16 ≤ (pget b l).1 then (l, 5, fdz) else (l.drop (pget b l).2.1.toNat, 0, fixed.getD (pget b l).1.toNat fdz)
def ptxt (b : Nat) (l : List UInt8) (e : Int) : List UInt8 × Int × ByteArray :=
  if e ≠ 0 then (l, e, ⟨#[]⟩) else (l.drop (pgettext b l).2.1.toNat, (pgettext b l).2.2, ⟨(pgettext b l).1.toArray⟩)
def pval (l : List UInt8) (e : Int) : List UInt8 × Int × ByteArray :=
  if (ptxt 7 l e).2.1 ≠ 0 then ptxt 7 l e else if 400 < (ptxt 7 l e).2.2.size then ((ptxt 7 l e).1, 4, (ptxt 7 l e).2.2) else if valok (ptxt 7 l e).2.2 = true then ptxt 7 l e else ((ptxt 7 l e).1, 5, (ptxt 7 l e).2.2)

theorem pget_bd (b : Nat) (l : List UInt8) (hb1 : 1 ≤ b) (hb8 : b ≤ 8) (h : (pget b l).2.2 = 0) : 0 ≤ (pget b l).1 ∧ (pget b l).1 ≤ 4611686018427387903 ∧ 1 ≤ (pget b l).2.1 ∧ (pget b l).2.1 ≤ l.length := by
  cases l with
  | nil => simp [pget] at h
  | cons x r => have := pget_ok b x r hb1 hb8 h; simpa using this

section
variable {w w' : World} {p : Nat} {A : Option Addr} {n c : Nat} {l : List UInt8} {e : Int}
set_option maxRecDepth 100000 in
set_option maxHeartbeats 4000000 in
theorem number_any (h : Rdr w p A n c l e) (B : Nat) (hB : ∀ a, A = some a → a.block < B) (b : Nat) (hb1 : 1 ≤ b) (hb8 : b ≤ 8) (l' : List UInt8) (e1 : Int) (fa fb : ByteArray) (hp : pnum b l = (l', e1, ⟨fa, fb⟩)) :
    Calls Tryd.prog 55 #[.pointer (some ⟨p, 0, none⟩), .int .i64 b] w fun en w' => en = .returned (.agg #[.string fa, .string fb]) ∧ RdrB B w' p l' e1 ∧ Fr (fun k => k = p) w w' := by
  have hplt := h.row.lt
  have B1 := (Below.refl _ w).alloc (Nat.le_refl _) (.cells #[.string ⟨#[]⟩, .string ⟨#[]⟩] 47)
  have R1 := HasRow.new w 47 #[.string ⟨#[]⟩, .string ⟨#[]⟩]
  obtain ⟨W1, hW1⟩ : ∃ W1, w.alloc (.cells #[.string ⟨#[]⟩, .string ⟨#[]⟩] 47) = W1 := ⟨_, rfl⟩
  rw [hW1] at B1 R1
  obtain ⟨g, hg⟩ : ∃ g, w.heap.size = g := ⟨_, rfl⟩
  rw [hg] at R1
  have hpg : p ≠ g := by omega
  have H1 := Lib.hid (h.below B1)
  have HLt := Lib.hid hB
  have HFar : Hid (∀ a, A = some a → a.block ≠ g) := Lib.hid (fun a ha e => by
    have := h.lt a ha
    omega)
  replace hW1 := Lib.hid hW1
  replace hg := Lib.hid hg
  replace B1 := Lib.hid B1
  replace R1 := Lib.hid R1
  clear h
  go_enter Tryd.func55, Tryd.ntmps55
  go_wp2_with fail
  rw [hW1.out, hg.out]
  refine (fixed_far W1).mono ?_
  rintro en w2 ⟨gF, rfl, hgF, rdF, b2⟩
  have B2 := Lib.hid (B1.out.trans (b2.mono B1.out.size))
  have R2 := Lib.hid (R1.out.below b2)
  have H2 := Lib.hid (H1.out.below b2)
  replace rdF := Lib.hid rdF
  have x0 := H2.out.row.cell 0 _ rfl
  have hgFp : gF ≠ p := by have := B1.out.size; omega
  clear R1 B1 b2 H1
  go_wp2_with fail
  have PG := pget_any l b A c w2 hb1 hb8 H2.out.rd (by have := H2.out.len; have := H2.out.small; omega)
  rw [H2.out.len] at PG
  refine PG.mono ?_
  rintro en w2b ⟨rfl, rfl⟩
  have hbd := pget_bd b l hb1 hb8
  unfold pnum at hp
  obtain ⟨N, hN⟩ : ∃ N, (pget b l).1 = N := ⟨_, rfl⟩
  obtain ⟨M, hM⟩ : ∃ M, (pget b l).2.1 = M := ⟨_, rfl⟩
  obtain ⟨E, hE⟩ : ∃ E, (pget b l).2.2 = E := ⟨_, rfl⟩
  unfold ptup
  rw [hN, hM, hE]
  rw [hN, hM, hE] at hp hbd
  rw [H2.out.len] at hbd
  replace hN := Lib.hid hN
  replace hM := Lib.hid hM
  replace hE := Lib.hid hE
  clear PG x0
  have x1 := H2.out.row.cell 1 _ rfl
  have f1 := H2.out.row.frozen 1
  have g0 := R2.out.cell 0 _ rfl
  have g1 := R2.out.cell 1 _ rfl
  have q0 := R2.out.frozen 0
  have q1 := R2.out.frozen 1
  have HLt2 := HLt
  by_cases hE0 : E = 0
  · obtain ⟨n0, n1, m1, m2⟩ := hbd hE0
    subst hE0
    rw [if_neg (by simp)] at hp
    by_cases h16 : 16 ≤ N
    · rw [if_pos h16] at hp
      injection hp with hp1 hp2
      injection hp2 with hp2 hp3
      unfold fdz at hp3
      injection hp3 with hp3 hp4
      subst hp1 hp2 hp3 hp4
      have d1 : decide (16 ≤ N) = true := decide_eq_true h16
      have HE := Lib.hid (H2.out.setE 5)
      clear hbd
      have HO := Lib.hid (rdr_out HE.out (R2.out.other (B' := p) (fun e => hpg e.symm) 1 (.int .i64 5)) hpg HFar.out ((Fr.of_below B2.out (fun k => k = p)).trans (frp_cell w2 p 1 (.int .i64 5))) (by rw [hg.out]; exact Nat.le_refl _) (.string ⟨#[]⟩) (.string ⟨#[]⟩))
      go_wp2_with fail
      refine bodyPost_ret (v := .agg #[.string ⟨#[]⟩, .string ⟨#[]⟩]) (res1 rfl _ _ ⟨g, 0, none⟩ _ rfl (loadF HO.out.1)) rfl ?_
      exact ⟨rfl, ⟨_, _, _, HO.out.2.1, HLt2.out⟩, HO.out.2.2⟩
    · rw [if_neg h16] at hp
      injection hp with hp1 hp2
      injection hp2 with hp2 hp3
      obtain ⟨N, rfl⟩ : ∃ N' : Nat, N = N' := ⟨N.toNat, by omega⟩
      obtain ⟨M, rfl⟩ : ∃ M' : Nat, M = M' := ⟨M.toNat, by omega⟩
      rw [Int.toNat_natCast] at hp1 hp3
      subst hp1 hp2
      have hN16 : N < 16 := by omega
      have hMn : M ≤ n := by omega
      have d1 : decide (16 ≤ (N : Int)) = false := decide_eq_false h16
      have d1' : decide (16 ≤ N) = false := decide_eq_false (by omega)
      have hN16I : (N : Int) < 16 := by omega
      have hfx : fixed[N]? = some ⟨fa, fb⟩ := by
        rw [List.getD_eq_getElem?_getD] at hp3
        rw [List.getElem?_eq_getElem (show N < fixed.length from hN16)] at hp3 ⊢
        rw [← hp3]; rfl
      have HE := Lib.hid (H2.out.setE 0)
      obtain ⟨X, hX, hXc⟩ := cut_l (P := Tryd.prog) Tryd.underlying23 infoB A n c M hMn H2.out.cap
      obtain ⟨n2, hn2⟩ : ∃ n2, n - M = n2 := ⟨_, rfl⟩
      obtain ⟨c2, hc2⟩ : ∃ c2, c - M = c2 := ⟨_, rfl⟩
      have HB := HE.out.setB X M hMn hXc
      rw [hn2, hc2] at HB
      rw [hn2, hc2] at hX
      have e0 := HE.out.row.cell 0 _ rfl
      have e1 := HE.out.row.frozen 0
      have F3 := (((Fr.of_below B2.out (fun k => k = p)).trans (frp_cell w2 p 1 (.int .i64 0))).trans (frp_cell _ p 0 (.slice X n2 c2)))
      have hrow := rdF.out N fa fb hfx
      have y0 := (((frp_cell w2 p 1 (.int .i64 0)).trans (frp_cell _ p 0 (.slice X n2 c2))).cell (World.block_lt_of_cell? w2 _ hrow.1) hgFp).trans hrow.1
      have y1 := (((frp_cell w2 p 1 (.int .i64 0)).trans (frp_cell _ p 0 (.slice X n2 c2))).cell (World.block_lt_of_cell? w2 _ hrow.2) hgFp).trans hrow.2
      have HO := Lib.hid (rdr_out HB ((R2.out.other (B' := p) (fun e => hpg e.symm) 1 (.int .i64 0)).other (B' := p) (fun e => hpg e.symm) 0 (.slice X n2 c2)) hpg (fun a ha => by
        obtain ⟨a0, h1, h2⟩ := hXc.blk a ha
        rw [← h2]; exact HFar.out a0 h1) F3 (by rw [hg.out]; exact Nat.le_refl _) (.string fa) (.string fb))
      have HLt2 : Hid (∀ a, X = some a → a.block < B) := Lib.hid (fun a ha => by
        obtain ⟨a0, h1, h2⟩ := hXc.blk a ha
        rw [← h2]; exact HLt.out a0 h1)
      clear hbd hp3 hfx F3 HB hrow hXc
      replace hn2 := Lib.hid hn2
      replace hc2 := Lib.hid hc2
      go_wp2_with fail
      refine bodyPost_ret (v := .agg #[.string fa, .string fb]) (res1 rfl _ _ ⟨g, 0, none⟩ _ rfl (loadF HO.out.1)) rfl ?_
      exact ⟨rfl, ⟨_, _, _, HO.out.2.1, HLt2.out⟩, HO.out.2.2⟩
  · rw [if_pos hE0] at hp
    injection hp with hp1 hp2
    injection hp2 with hp2 hp3
    unfold fdz at hp3
    injection hp3 with hp3 hp4
    subst hp1 hp2 hp3 hp4
    have d1 : (E == 0) = false := by rw [beq_eq_false_iff_ne]; exact hE0
    have d1' : (E != 0) = true := by rw [bne_iff_ne]; exact hE0
    have HE := Lib.hid (H2.out.setE E)
    have HO := Lib.hid (rdr_out HE.out (R2.out.other (B' := p) (fun e => hpg e.symm) 1 (.int .i64 E)) hpg HFar.out ((Fr.of_below B2.out (fun k => k = p)).trans (frp_cell w2 p 1 (.int .i64 E))) (by rw [hg.out]; exact Nat.le_refl _) (.string ⟨#[]⟩) (.string ⟨#[]⟩))
    clear hbd
    go_wp2_with fail
    refine bodyPost_ret (v := .agg #[.string ⟨#[]⟩, .string ⟨#[]⟩]) (res1 rfl _ _ ⟨g, 0, none⟩ _ rfl (loadF HO.out.1)) rfl ?_
    exact ⟨rfl, ⟨_, _, _, HO.out.2.1, HLt2.out⟩, HO.out.2.2⟩
end
end Go.Proofs.YtdldipkbknhhoaaDoor

/- fields: the reader: text, value. -/
namespace Go.Proofs.YtdldipkbknhhoaaDoor
open Go.RowKit

theorem pgettext_bd (b : Nat) (l : List UInt8) (hb1 : 1 ≤ b) (hb7 : b ≤ 7) : 0 ≤ (pgettext b l).2.1 ∧ (pgettext b l).2.1 ≤ l.length ∧ (pgettext b l).1.length ≤ l.length := by
  cases l with
  | nil => simp [pgettext]
  | cons x r =>
    have key : pgettext b (x :: r) = if (x.toNat : Int) / 2 ^ b % 2 = 1 then ([], 0, 6)
      else if (pget b (x :: r)).2.2 ≠ 0 then ([], 0, (pget b (x :: r)).2.2)
      else if 2000 < (pget b (x :: r)).1 then ([], 0, 4)
      else if ((x :: r).length : Int) - (pget b (x :: r)).2.1 < (pget b (x :: r)).1 then ([], 0, 3)
      else (((x :: r).drop (pget b (x :: r)).2.1.toNat).take (pget b (x :: r)).1.toNat, (pget b (x :: r)).2.1 + (pget b (x :: r)).1, 0) := rfl
    rw [key]
    split
    · simp; omega
    · split
      · simp; omega
      · rename_i h
        have hE : (pget b (x :: r)).2.2 = 0 := by simpa using h
        have := pget_bd b (x :: r) hb1 (by omega) hE
        split
        · simp; omega
        · split
          · simp; omega
          · refine ⟨by simp only; omega, by simp only; omega, ?_⟩
            simp only [List.length_take, List.length_drop]; omega

section
variable {w w' : World} {p : Nat} {A : Option Addr} {n c : Nat} {l : List UInt8} {e : Int}
set_option maxRecDepth 100000 in
set_option maxHeartbeats 4000000 in
theorem text_any (h : Rdr w p A n c l e) (B : Nat) (hB : ∀ a, A = some a → a.block < B) (b : Nat) (hb1 : 1 ≤ b) (hb7 : b ≤ 7) (l' : List UInt8) (e1 : Int) (s : ByteArray) (hp : ptxt b l e = (l', e1, s)) :
    Calls Tryd.prog 56 #[.pointer (some ⟨p, 0, none⟩), .int .i64 b] w fun en w' => en = .returned (.string s) ∧ RdrB B w' p l' e1 ∧ Fr (fun k => k = p) w w' := by
  have x0 := h.row.cell 0 _ rfl
  have x1 := h.row.cell 1 _ rfl
  unfold ptxt at hp
  by_cases he : e = 0
  · subst he
    rw [if_neg (by simp)] at hp
    injection hp with hp1 hp2
    injection hp2 with hp2 hp3
    have PG := gettext_any l b A c w hb1 hb7 h.rd (by have := h.len; have := h.small; omega) (by rw [h.len]; exact h.cap) h.capx
    rw [h.len] at PG
    have hbd := pgettext_bd b l hb1 hb7
    unfold tpgettext at PG
    rw [hp3, hp2] at PG
    obtain ⟨M, hM⟩ : ∃ M, (pgettext b l).2.1 = M := ⟨_, rfl⟩
    rw [hM] at PG hp1 hbd
    rw [h.len] at hbd
    obtain ⟨M, rfl⟩ : ∃ M' : Nat, M = M' := ⟨M.toNat, by omega⟩
    rw [Int.toNat_natCast] at hp1
    have hMn : M ≤ n := by omega
    have HE := Lib.hid (h.setE e1)
    obtain ⟨X, hX, hXc⟩ := cut_l (P := Tryd.prog) Tryd.underlying23 infoB A n c M hMn h.cap
    obtain ⟨n2, hn2⟩ : ∃ n2, n - M = n2 := ⟨_, rfl⟩
    obtain ⟨c2, hc2⟩ : ∃ c2, c - M = c2 := ⟨_, rfl⟩
    have HB := HE.out.setB X M hMn hXc
    rw [hn2, hc2, hp1] at HB
    rw [hn2, hc2] at hX
    have e0 := HE.out.row.cell 0 _ rfl
    have f0 := HE.out.row.frozen 0
    have f1 := h.row.frozen 1
    have F3 := Lib.hid ((frp_cell w p 1 (.int .i64 e1)).trans (frp_cell _ p 0 (.slice X n2 c2)))
    have HLt : Hid (∀ a, X = some a → a.block < B) := Lib.hid (fun a ha => by
      obtain ⟨a0, h1, h2⟩ := hXc.blk a ha
      rw [← h2]; exact hB a0 h1)
    replace HB := Lib.hid HB
    replace PG := Lib.hid PG
    clear hbd h hXc hp1 hp2 hp3
    replace hM := Lib.hid hM
    replace hn2 := Lib.hid hn2
    replace hc2 := Lib.hid hc2
    go_enter Tryd.func56, Tryd.ntmps56
    go_wp2_with fail
    refine PG.out.mono ?_
    rintro en w2 ⟨rfl, rfl⟩
    clear PG
    go_wp2_with fail
    go_ret
    exact ⟨rfl, ⟨_, _, _, HB.out, HLt.out⟩, F3.out⟩
  · rw [if_pos he] at hp
    injection hp with hp1 hp2
    injection hp2 with hp2 hp3
    subst hp1 hp2 hp3
    have d1 : (e != 0) = true := by rw [bne_iff_ne]; exact he
    have H := Lib.hid h
    clear h
    go_enter Tryd.func56, Tryd.ntmps56
    go_wp2_with fail
    go_ret
    exact ⟨rfl, ⟨_, _, _, H.out, hB⟩, Fr.refl _ _⟩

set_option maxRecDepth 100000 in
set_option maxHeartbeats 4000000 in
theorem value_any (h : Rdr w p A n c l e) (B : Nat) (hB : ∀ a, A = some a → a.block < B) (l' : List UInt8) (e1 : Int) (s : ByteArray) (hp : pval l e = (l', e1, s)) :
    Calls Tryd.prog 57 #[.pointer (some ⟨p, 0, none⟩)] w fun en w' => en = .returned (.string s) ∧ RdrB B w' p l' e1 ∧ Fr (fun k => k = p) w w' := by
  have TX := Lib.hid (text_any h B hB 7 (by omega) (by omega) (ptxt 7 l e).1 (ptxt 7 l e).2.1 (ptxt 7 l e).2.2 rfl)
  have hsz : (ptxt 7 l e).2.2.size ≤ 1000000 := by
    unfold ptxt
    split
    · exact Nat.zero_le _
    · have := (pgettext_bd 7 l (by omega) (by omega)).2.2
      have := h.len
      have := h.small
      simp only [ByteArray.size, List.size_toArray]; omega
  unfold pval at hp
  obtain ⟨l2, hl2⟩ : ∃ x, (ptxt 7 l e).1 = x := ⟨_, rfl⟩
  obtain ⟨e2, he2⟩ : ∃ x, (ptxt 7 l e).2.1 = x := ⟨_, rfl⟩
  obtain ⟨s2, hs2⟩ : ∃ x, (ptxt 7 l e).2.2 = x := ⟨_, rfl⟩
  have hw : ptxt 7 l e = (l2, e2, s2) := by rw [← hl2, ← he2, ← hs2]
  rw [hw] at hp TX hsz
  simp only at hp TX hsz
  replace hl2 := Lib.hid hl2
  replace he2 := Lib.hid he2
  replace hs2 := Lib.hid hs2
  replace hw := Lib.hid hw
  clear h
  obtain ⟨m, hm⟩ : ∃ m, s2.size = m := ⟨_, rfl⟩
  by_cases h0 : e2 = 0
  · subst h0
    rw [if_neg (by simp)] at hp
    by_cases h400 : 400 < s2.size
    · rw [if_pos h400] at hp
      injection hp with hp1 hp2
      injection hp2 with hp2 hp3
      subst hp1 hp2 hp3
      rw [hm] at h400
      have d1 : decide (400 < m) = true := decide_eq_true h400
      have d1' : decide ((400 : Int) < (m : Int)) = true := decide_eq_true (by omega)
      go_enter Tryd.func57, Tryd.ntmps57
      go_wp2_with fail
      refine TX.out.mono ?_
      rintro en w2 ⟨rfl, ⟨A2, n2, c2, H2, L2⟩, F2⟩
      have x1 := H2.row.cell 1 _ rfl
      replace L2 := Lib.hid L2
      have f1 := H2.row.frozen 1
      have HE := Lib.hid (H2.setE 4)
      have F3 := Lib.hid (F2.trans (frp_cell w2 p 1 (.int .i64 4)))
      clear TX H2 F2
      go_wp2_with fail
      go_ret
      exact ⟨rfl, ⟨_, _, _, HE.out, L2.out⟩, F3.out⟩
    · rw [if_neg h400] at hp
      rw [hm] at h400
      have d1 : decide (400 < m) = false := decide_eq_false h400
      have d1' : decide ((400 : Int) < (m : Int)) = false := decide_eq_false (by omega)
      have PL := Lib.hid (fun W => plain_any s2 W (by omega))
      obtain ⟨V, hV⟩ : ∃ V, valok s2 = V := ⟨_, rfl⟩
      rw [hV] at hp PL
      replace hV := Lib.hid hV
      cases V
      · rw [if_neg (by simp)] at hp
        injection hp with hp1 hp2
        injection hp2 with hp2 hp3
        subst hp1 hp2 hp3
        go_enter Tryd.func57, Tryd.ntmps57
        go_wp2_with fail
        refine TX.out.mono ?_
        rintro en w2 ⟨rfl, ⟨A2, n2, c2, H2, L2⟩, F2⟩
        have x1 := H2.row.cell 1 _ rfl
        replace L2 := Lib.hid L2
        have f1 := H2.row.frozen 1
        have HE := Lib.hid (H2.setE 5)
        have F3 := Lib.hid (F2.trans (frp_cell w2 p 1 (.int .i64 5)))
        clear TX H2 F2
        go_wp2_with fail
        refine (PL.out _).mono ?_
        rintro en w3 ⟨rfl, rfl⟩
        go_wp2_with fail
        go_ret
        exact ⟨rfl, ⟨_, _, _, HE.out, L2.out⟩, F3.out⟩
      · rw [if_pos rfl] at hp
        injection hp with hp1 hp2
        injection hp2 with hp2 hp3
        subst hp1 hp2 hp3
        go_enter Tryd.func57, Tryd.ntmps57
        go_wp2_with fail
        refine TX.out.mono ?_
        rintro en w2 ⟨rfl, ⟨A2, n2, c2, H2, L2⟩, F2⟩
        have x1 := H2.row.cell 1 _ rfl
        replace L2 := Lib.hid L2
        replace H2 := Lib.hid H2
        replace F2 := Lib.hid F2
        clear TX
        go_wp2_with fail
        refine (PL.out _).mono ?_
        rintro en w3 ⟨rfl, rfl⟩
        go_wp2_with fail
        go_ret
        exact ⟨rfl, ⟨_, _, _, H2.out, L2.out⟩, F2.out⟩
  · rw [if_pos h0] at hp
    injection hp with hp1 hp2
    injection hp2 with hp2 hp3
    subst hp1 hp2 hp3
    have d1 : (e2 != 0) = true := by rw [bne_iff_ne]; exact h0
    go_enter Tryd.func57, Tryd.ntmps57
    go_wp2_with fail
    refine TX.out.mono ?_
    rintro en w2 ⟨rfl, ⟨A2, n2, c2, H2, L2⟩, F2⟩
    have x1 := H2.row.cell 1 _ rfl
    replace L2 := Lib.hid L2
    replace H2 := Lib.hid H2
    replace F2 := Lib.hid F2
    clear TX
    go_wp2_with fail
    go_ret
    exact ⟨rfl, ⟨_, _, _, H2.out, L2.out⟩, F2.out⟩
end
end Go.Proofs.YtdldipkbknhhoaaDoor

/- fields: the reader: line. -/
namespace Go.Proofs.YtdldipkbknhhoaaDoor
open Go.RowKit

def pln : List UInt8 → List UInt8 × Int × Fd
  | [] => ([], 5, fdz)
  | x :: r =>
    if x.toNat / 64 = 3 then pnum 6 (x :: r)
    else if x.toNat / 16 = 5 then ((pval (pnum 4 (x :: r)).1 (pnum 4 (x :: r)).2.1).1, (pval (pnum 4 (x :: r)).1 (pnum 4 (x :: r)).2.1).2.1, ⟨(pnum 4 (x :: r)).2.2.name, (pval (pnum 4 (x :: r)).1 (pnum 4 (x :: r)).2.1).2.2⟩)
    else if x.toNat / 16 = 2 then
      ((pval (ptxt 3 (x :: r) 0).1 (if (ptxt 3 (x :: r) 0).2.1 = 0 ∧ nameok (ptxt 3 (x :: r) 0).2.2 = false then 5 else (ptxt 3 (x :: r) 0).2.1)).1,
       (pval (ptxt 3 (x :: r) 0).1 (if (ptxt 3 (x :: r) 0).2.1 = 0 ∧ nameok (ptxt 3 (x :: r) 0).2.2 = false then 5 else (ptxt 3 (x :: r) 0).2.1)).2.1,
       ⟨(ptxt 3 (x :: r) 0).2.2, (pval (ptxt 3 (x :: r) 0).1 (if (ptxt 3 (x :: r) 0).2.1 = 0 ∧ nameok (ptxt 3 (x :: r) 0).2.2 = false then 5 else (ptxt 3 (x :: r) 0).2.1)).2.2⟩)
    else ((pval (x :: r) 5).1, (pval (x :: r) 5).2.1, ⟨⟨#[]⟩, (pval (x :: r) 5).2.2⟩)

theorem fld0 (a b : ByteArray) (w : World) : (Instr.field 47 (.agg #[.string a, .string b]) 0).run Tryd.prog w = .ok (.string a) w := rfl
section
variable {w w' : World} {p : Nat} {A : Option Addr} {n c : Nat} {r : List UInt8} {x : UInt8}
set_option maxRecDepth 100000 in
set_option maxHeartbeats 8000000 in
theorem line2_any (h : Rdr w p A n c (x :: r) 0) (B : Nat) (hB : ∀ a, A = some a → a.block < B) (l' : List UInt8) (e1 : Int) (fa fb : ByteArray) (hp : pln (x :: r) = (l', e1, ⟨fa, fb⟩)) :
    Calls Tryd.prog 41 #[.pointer (some ⟨p, 0, none⟩)] w fun en w' => en = .returned (.agg #[.string fa, .string fb]) ∧ RdrB B w' p l' e1 ∧ Fr (fun k => k = p) w w' := by
  have hplt := h.row.lt
  have B1 := (Below.refl _ w).alloc (Nat.le_refl _) (.cells #[.string ⟨#[]⟩, .string ⟨#[]⟩] 47)
  have B2 := B1.alloc B1.size (.cells #[.string ⟨#[]⟩, .string ⟨#[]⟩] 47)
  have R1 := (HasRow.new w 47 #[.string ⟨#[]⟩, .string ⟨#[]⟩]).alloc (.cells #[.string ⟨#[]⟩, .string ⟨#[]⟩] 47)
  have R2 := HasRow.new (w.alloc (.cells #[.string ⟨#[]⟩, .string ⟨#[]⟩] 47)) 47 #[.string ⟨#[]⟩, .string ⟨#[]⟩]
  rw [World.size_alloc] at R2
  obtain ⟨W1, hW1⟩ : ∃ W1, (w.alloc (.cells #[.string ⟨#[]⟩, .string ⟨#[]⟩] 47)).alloc (.cells #[.string ⟨#[]⟩, .string ⟨#[]⟩] 47) = W1 := ⟨_, rfl⟩
  rw [hW1] at B2 R1 R2
  obtain ⟨g, hg⟩ : ∃ g, w.heap.size = g := ⟨_, rfl⟩
  rw [hg] at R1 R2
  have hpg : p ≠ g := by omega
  have hpg1 : p ≠ g + 1 := by omega
  have H1 := h.below B2
  have HFar : Hid (∀ a, A = some a → a.block < min B g) := Lib.hid (fun a ha => by have := h.lt a ha; have := hB a ha; omega)
  have h0 := Lib.hid (⟨h.row.cell 1 _ rfl, fun o1 o2 => ((h.row.alloc o1).alloc o2).frozen 1⟩ : w.cell? ⟨p, 1, none⟩ = _ ∧ ∀ o1 o2, ((w.alloc o1).alloc o2).frozen? ⟨p, 1, none⟩ = false)
  have x0a := fun o1 o2 => Lib.cell?_alloc_some o2 (Lib.cell?_alloc_some o1 (h.row.cell 0 _ rfl))
  obtain ⟨b, off, rfl, hcell⟩ := h.rd.at_ (k := 0) (by simp)
  simp only [bv, List.map_cons, List.getElem_cons_zero, Nat.add_zero] at hcell
  have hn0 := h.len
  simp only [List.length_cons] at hn0
  have hn1 : 0 < n := by omega
  have ha := fun o1 o2 => Lib.cell?_alloc_some o2 (Lib.cell?_alloc_some o1 hcell)
  obtain ⟨X, hX⟩ : ∃ X, x.toNat = X := ⟨_, rfl⟩
  rw [hX] at ha
  have hX256 : X < 256 := by rw [← hX]; exact x.toNat_lt
  replace H1 := Lib.hid H1
  replace hW1 := Lib.hid hW1
  replace B2 := Lib.hid B2
  replace R1 := Lib.hid R1
  replace R2 := Lib.hid R2
  clear h B1 hcell hn0
  rw [pln, hX] at hp
  replace hX := Lib.hid hX
  replace hg := Lib.hid hg
  go_enter Tryd.func41, Tryd.ntmps41
  by_cases c1 : X / 64 = 3
  · rw [if_pos c1] at hp
    go_wp2_with fail
    rw [hW1.out, hg.out]
    refine (number_any H1.out (min B g) HFar.out 6 (by omega) (by omega) l' e1 fa fb hp).mono ?_
    rintro en w2 ⟨rfl, ⟨A2, n2, c2, H2, L2⟩, F2⟩
    have Rv1 := R1.out.fr F2 (fun e => hpg e.symm)
    have y0 := Rv1.cell 0 _ rfl
    have y1 := Rv1.cell 1 _ rfl
    have y2 := Rv1.frozen 0
    have y3 := Rv1.frozen 1
    have HO := Lib.hid (rdr_out H2 Rv1 hpg (fun a ha e => by have := L2 a ha; omega) ((Fr.of_below B2.out (fun k => k = p)).trans F2) (by rw [hg.out]; exact Nat.le_refl _) (.string fa) (.string fb))
    have L9 : Hid (∀ a, A2 = some a → a.block < B) := Lib.hid (fun a ha => by have := L2 a ha; omega)
    clear H2 L2 F2 Rv1
    go_wp2_with fail
    refine bodyPost_ret (v := .agg #[.string fa, .string fb]) (res1 rfl _ _ ⟨g, 0, none⟩ _ rfl (loadF HO.out.1)) rfl ?_
    exact ⟨rfl, ⟨_, _, _, HO.out.2.1, L9.out⟩, HO.out.2.2⟩
  · rw [if_neg c1] at hp
    have hfld := fld0
    by_cases c2 : X / 16 = 5
    · rw [if_pos c2] at hp
      obtain ⟨⟨l2, e2, na, nb⟩, hq⟩ : ∃ q, pnum 4 (x :: r) = q := ⟨_, rfl⟩
      rw [hq] at hp
      simp only at hp
      obtain ⟨⟨l3, e3, s3⟩, hv⟩ : ∃ q, pval l2 e2 = q := ⟨_, rfl⟩
      rw [hv] at hp
      simp only [Prod.mk.injEq, Fd.mk.injEq] at hp
      obtain ⟨rfl, rfl, rfl, rfl⟩ := hp
      replace hv := Lib.hid hv
      replace hq := Lib.hid hq
      go_wp2_with fail
      rw [hW1.out, hg.out]
      refine (number_any H1.out (min B g) HFar.out 4 (by omega) (by omega) l2 e2 na nb hq.out).mono ?_
      rintro en w2 ⟨rfl, ⟨A2, n2, c2, H2, L2⟩, F2⟩
      have Rv1 := R1.out.fr F2 (fun e => hpg e.symm)
      have Rv2 := R2.out.fr F2 (fun e => hpg1 e.symm)
      have z1 := Rv2.cell 0 _ rfl
      have z2 := Rv2.frozen 0
      have Hq := Lib.hid (H2.fr (frp_cell w2 (g + 1) 0 (.string na)) (fun e => hpg1 e) (fun a ha e => by have := L2 a ha; omega))
      have Lq := Lib.hid L2
      have Rq1 := Lib.hid (Rv1.other (B' := g + 1) (by omega) 0 (.string na))
      have Rq2 : Hid (HasRow (w2.setCell ⟨g + 1, 0, none⟩ (.string na)) (g + 1) 47 #[.string na, .string ⟨#[]⟩]) := Lib.hid (heap_setCell_same w2 (g + 1) 0 _ _ (.string na) Rv2)
      have Fq := Lib.hid (((Fr.of_below B2.out (fun k => k = p)).trans F2).setCell (p := ⟨g + 1, 0, none⟩) (fun h => absurd h (by simp only; have := hg.out; omega)) (.string na))
      clear H2 L2 F2 Rv1 Rv2
      go_wp2_with fail
      refine (value_any Hq.out (min B g) Lq.out _ _ _ hv.out).mono ?_
      rintro en wv ⟨rfl, ⟨Av, nv, cv, Hv, Lv⟩, Fv⟩
      have Rv1 := Rq1.out.fr Fv (fun e => hpg e.symm)
      have Rv2 := Rq2.out.fr Fv (fun e => hpg1 e.symm)
      have FV := Fq.out.trans Fv
      have z1 := Rv2.cell 1 _ rfl
      have z2 := Rv2.frozen 1
      have y0 := Rv1.cell 0 _ rfl
      have y1 := Rv1.cell 1 _ rfl
      have y2 := Rv1.frozen 0
      have y3 := Rv1.frozen 1
      have Rx : HasRow (wv.setCell ⟨g + 1, 1, none⟩ (.string s3)) (g + 1) 47 #[.string na, .string s3] := heap_setCell_same wv (g + 1) 1 _ _ (.string s3) Rv2
      have HO := Lib.hid (rdr_out (Hv.fr (frp_cell wv (g + 1) 1 (.string s3)) (fun e => hpg1 e) (fun a ha e => by have := Lv a ha; omega)) (Rv1.other (B' := g + 1) (by omega) 1 (.string s3)) hpg (fun a ha e => by have := Lv a ha; omega) (FV.setCell (p := ⟨g + 1, 1, none⟩) (fun h => absurd h (by simp only; have := hg.out; omega)) (.string s3)) (by rw [hg.out]; exact Nat.le_refl _) (.string na) (.string s3))
      have L9 : Hid (∀ a, Av = some a → a.block < B) := Lib.hid (fun a ha => by have := Lv a ha; omega)
      have x8 := Rx.cell 0 _ rfl
      have x9 := Rx.cell 1 _ rfl
      clear Hv Lv Fv Rv1 Rv2 FV Rx
      go_wp2_with fail
      refine bodyPost_ret (v := .agg #[.string na, .string s3]) (res1 rfl _ _ ⟨g, 0, none⟩ _ rfl (loadF HO.out.1)) rfl ?_
      exact ⟨rfl, ⟨_, _, _, HO.out.2.1, L9.out⟩, HO.out.2.2⟩
    · rw [if_neg c2] at hp
      by_cases c3 : X / 16 = 2
      · rw [if_pos c3] at hp
        obtain ⟨⟨l2, e2, na⟩, hq⟩ : ∃ q, ptxt 3 (x :: r) 0 = q := ⟨_, rfl⟩
        rw [hq] at hp
        simp only at hp
        have hna : na.size ≤ 1000000 := by
          have h1 := (pgettext_bd 3 (x :: r) (by omega) (by omega)).2.2
          have h2 := H1.out.len
          have h3 := H1.out.small
          unfold ptxt at hq
          rw [if_neg (by simp)] at hq
          simp only [Prod.mk.injEq] at hq
          rw [← hq.2.2]
          simp only [ByteArray.size, List.size_toArray]; omega
        have TX := Lib.hid (text_any H1.out (min B g) HFar.out 3 (by omega) (by omega) l2 e2 na hq)
        replace hq := Lib.hid hq
        have NM := Lib.hid (fun W => name_any na W hna)
        obtain ⟨V, hV⟩ : ∃ V, nameok na = V := ⟨_, rfl⟩
        rw [hV] at hp NM
        replace hV := Lib.hid hV
        by_cases he2 : e2 = 0
        · subst he2
          cases V
          · rw [if_pos ⟨rfl, rfl⟩] at hp
            obtain ⟨⟨l3, e3, s3⟩, hv⟩ : ∃ q, pval l2 5 = q := ⟨_, rfl⟩
            rw [hv] at hp
            simp only [Prod.mk.injEq, Fd.mk.injEq] at hp
            obtain ⟨rfl, rfl, rfl, rfl⟩ := hp
            replace hv := Lib.hid hv
            go_wp2_with fail
            rw [hW1.out, hg.out]
            refine TX.out.mono ?_
            rintro en w2 ⟨rfl, ⟨A2, n2, c2, H2, L2⟩, F2⟩
            have Rv1 := R1.out.fr F2 (fun e => hpg e.symm)
            have Rv2 := R2.out.fr F2 (fun e => hpg1 e.symm)
            have z1 := Rv2.cell 0 _ rfl
            have z2 := Rv2.frozen 0
            have H3 := H2.fr (frp_cell w2 (g + 1) 0 (.string na)) (fun e => hpg1 e) (fun a ha e => by have := L2 a ha; omega)
            have Rq3 : HasRow (w2.setCell ⟨g + 1, 0, none⟩ (.string na)) (g + 1) 47 #[.string na, .string ⟨#[]⟩] := heap_setCell_same w2 (g + 1) 0 _ _ (.string na) Rv2
            have k1 := H3.row.cell 1 _ rfl
            have k2 := H3.row.frozen 1
            have k3 := Rq3.cell 0 _ rfl
            have Hq := Lib.hid (H3.setE 5)
            have Lq := Lib.hid L2
            have Rq1 := Lib.hid ((Rv1.other (B' := g + 1) (by omega) 0 (.string na)).other (B' := p) (fun e => hpg e.symm) 1 (.int .i64 5))
            have Rq2 := Lib.hid (Rq3.other (B' := p) (fun e => hpg1 e.symm) 1 (.int .i64 5))
            have Fq := Lib.hid ((((Fr.of_below B2.out (fun k => k = p)).trans F2).setCell (p := ⟨g + 1, 0, none⟩) (fun h => absurd h (by simp only; have := hg.out; omega)) (.string na)).trans (frp_cell _ p 1 (.int .i64 5)))
            clear H2 L2 F2 Rv1 Rv2 H3 Rq3
            go_wp2_with fail
            refine (NM.out _).mono ?_
            rintro en w3 ⟨rfl, rfl⟩
            go_wp2_with fail
            refine (value_any Hq.out (min B g) Lq.out _ _ _ hv.out).mono ?_
            rintro en wv ⟨rfl, ⟨Av, nv, cv, Hv, Lv⟩, Fv⟩
            have Rv1 := Rq1.out.fr Fv (fun e => hpg e.symm)
            have Rv2 := Rq2.out.fr Fv (fun e => hpg1 e.symm)
            have FV := Fq.out.trans Fv
            have z1 := Rv2.cell 1 _ rfl
            have z2 := Rv2.frozen 1
            have y0 := Rv1.cell 0 _ rfl
            have y1 := Rv1.cell 1 _ rfl
            have y2 := Rv1.frozen 0
            have y3 := Rv1.frozen 1
            have Rx : HasRow (wv.setCell ⟨g + 1, 1, none⟩ (.string s3)) (g + 1) 47 #[.string na, .string s3] := heap_setCell_same wv (g + 1) 1 _ _ (.string s3) Rv2
            have HO := Lib.hid (rdr_out (Hv.fr (frp_cell wv (g + 1) 1 (.string s3)) (fun e => hpg1 e) (fun a ha e => by have := Lv a ha; omega)) (Rv1.other (B' := g + 1) (by omega) 1 (.string s3)) hpg (fun a ha e => by have := Lv a ha; omega) (FV.setCell (p := ⟨g + 1, 1, none⟩) (fun h => absurd h (by simp only; have := hg.out; omega)) (.string s3)) (by rw [hg.out]; exact Nat.le_refl _) (.string na) (.string s3))
            have L9 : Hid (∀ a, Av = some a → a.block < B) := Lib.hid (fun a ha => by have := Lv a ha; omega)
            have x8 := Rx.cell 0 _ rfl
            have x9 := Rx.cell 1 _ rfl
            clear Hv Lv Fv Rv1 Rv2 FV Rx
            go_wp2_with fail
            refine bodyPost_ret (v := .agg #[.string na, .string s3]) (res1 rfl _ _ ⟨g, 0, none⟩ _ rfl (loadF HO.out.1)) rfl ?_
            exact ⟨rfl, ⟨_, _, _, HO.out.2.1, L9.out⟩, HO.out.2.2⟩
          · rw [if_neg (by simp)] at hp
            obtain ⟨⟨l3, e3, s3⟩, hv⟩ : ∃ q, pval l2 0 = q := ⟨_, rfl⟩
            rw [hv] at hp
            simp only [Prod.mk.injEq, Fd.mk.injEq] at hp
            obtain ⟨rfl, rfl, rfl, rfl⟩ := hp
            replace hv := Lib.hid hv
            go_wp2_with fail
            rw [hW1.out, hg.out]
            refine TX.out.mono ?_
            rintro en w2 ⟨rfl, ⟨A2, n2, c2, H2, L2⟩, F2⟩
            have Rv1 := R1.out.fr F2 (fun e => hpg e.symm)
            have Rv2 := R2.out.fr F2 (fun e => hpg1 e.symm)
            have z1 := Rv2.cell 0 _ rfl
            have z2 := Rv2.frozen 0
            have Hq := Lib.hid (H2.fr (frp_cell w2 (g + 1) 0 (.string na)) (fun e => hpg1 e) (fun a ha e => by have := L2 a ha; omega))
            have k1 := Hq.out.row.cell 1 _ rfl
            have Lq := Lib.hid L2
            have Rq1 := Lib.hid (Rv1.other (B' := g + 1) (by omega) 0 (.string na))
            have Rq2 : Hid (HasRow (w2.setCell ⟨g + 1, 0, none⟩ (.string na)) (g + 1) 47 #[.string na, .string ⟨#[]⟩]) := Lib.hid (heap_setCell_same w2 (g + 1) 0 _ _ (.string na) Rv2)
            have k3 := Rq2.out.cell 0 _ rfl
            have Fq := Lib.hid (((Fr.of_below B2.out (fun k => k = p)).trans F2).setCell (p := ⟨g + 1, 0, none⟩) (fun h => absurd h (by simp only; have := hg.out; omega)) (.string na))
            clear H2 L2 F2 Rv1 Rv2
            go_wp2_with fail
            refine (NM.out _).mono ?_
            rintro en w3 ⟨rfl, rfl⟩
            go_wp2_with fail
            refine (value_any Hq.out (min B g) Lq.out _ _ _ hv.out).mono ?_
            rintro en wv ⟨rfl, ⟨Av, nv, cv, Hv, Lv⟩, Fv⟩
            have Rv1 := Rq1.out.fr Fv (fun e => hpg e.symm)
            have Rv2 := Rq2.out.fr Fv (fun e => hpg1 e.symm)
            have FV := Fq.out.trans Fv
            have z1 := Rv2.cell 1 _ rfl
            have z2 := Rv2.frozen 1
            have y0 := Rv1.cell 0 _ rfl
            have y1 := Rv1.cell 1 _ rfl
            have y2 := Rv1.frozen 0
            have y3 := Rv1.frozen 1
            have Rx : HasRow (wv.setCell ⟨g + 1, 1, none⟩ (.string s3)) (g + 1) 47 #[.string na, .string s3] := heap_setCell_same wv (g + 1) 1 _ _ (.string s3) Rv2
            have HO := Lib.hid (rdr_out (Hv.fr (frp_cell wv (g + 1) 1 (.string s3)) (fun e => hpg1 e) (fun a ha e => by have := Lv a ha; omega)) (Rv1.other (B' := g + 1) (by omega) 1 (.string s3)) hpg (fun a ha e => by have := Lv a ha; omega) (FV.setCell (p := ⟨g + 1, 1, none⟩) (fun h => absurd h (by simp only; have := hg.out; omega)) (.string s3)) (by rw [hg.out]; exact Nat.le_refl _) (.string na) (.string s3))
            have L9 : Hid (∀ a, Av = some a → a.block < B) := Lib.hid (fun a ha => by have := Lv a ha; omega)
            have x8 := Rx.cell 0 _ rfl
            have x9 := Rx.cell 1 _ rfl
            clear Hv Lv Fv Rv1 Rv2 FV Rx
            go_wp2_with fail
            refine bodyPost_ret (v := .agg #[.string na, .string s3]) (res1 rfl _ _ ⟨g, 0, none⟩ _ rfl (loadF HO.out.1)) rfl ?_
            exact ⟨rfl, ⟨_, _, _, HO.out.2.1, L9.out⟩, HO.out.2.2⟩
        · rw [if_neg (fun h => he2 h.1)] at hp
          obtain ⟨⟨l3, e3, s3⟩, hv⟩ : ∃ q, pval l2 e2 = q := ⟨_, rfl⟩
          rw [hv] at hp
          simp only [Prod.mk.injEq, Fd.mk.injEq] at hp
          obtain ⟨rfl, rfl, rfl, rfl⟩ := hp
          replace hv := Lib.hid hv
          have d1 : (e2 == 0) = false := by rw [beq_eq_false_iff_ne]; exact he2
          go_wp2_with fail
          rw [hW1.out, hg.out]
          refine TX.out.mono ?_
          rintro en w2 ⟨rfl, ⟨A2, n2, c2, H2, L2⟩, F2⟩
          have Rv1 := R1.out.fr F2 (fun e => hpg e.symm)
          have Rv2 := R2.out.fr F2 (fun e => hpg1 e.symm)
          have z1 := Rv2.cell 0 _ rfl
          have z2 := Rv2.frozen 0
          have Hq := Lib.hid (H2.fr (frp_cell w2 (g + 1) 0 (.string na)) (fun e => hpg1 e) (fun a ha e => by have := L2 a ha; omega))
          have k1 := Hq.out.row.cell 1 _ rfl
          have Lq := Lib.hid L2
          have Rq1 := Lib.hid (Rv1.other (B' := g + 1) (by omega) 0 (.string na))
          have Rq2 : Hid (HasRow (w2.setCell ⟨g + 1, 0, none⟩ (.string na)) (g + 1) 47 #[.string na, .string ⟨#[]⟩]) := Lib.hid (heap_setCell_same w2 (g + 1) 0 _ _ (.string na) Rv2)
          have Fq := Lib.hid (((Fr.of_below B2.out (fun k => k = p)).trans F2).setCell (p := ⟨g + 1, 0, none⟩) (fun h => absurd h (by simp only; have := hg.out; omega)) (.string na))
          clear H2 L2 F2 Rv1 Rv2
          go_wp2_with fail
          refine (value_any Hq.out (min B g) Lq.out _ _ _ hv.out).mono ?_
          rintro en wv ⟨rfl, ⟨Av, nv, cv, Hv, Lv⟩, Fv⟩
          have Rv1 := Rq1.out.fr Fv (fun e => hpg e.symm)
          have Rv2 := Rq2.out.fr Fv (fun e => hpg1 e.symm)
          have FV := Fq.out.trans Fv
          have z1 := Rv2.cell 1 _ rfl
          have z2 := Rv2.frozen 1
          have y0 := Rv1.cell 0 _ rfl
          have y1 := Rv1.cell 1 _ rfl
          have y2 := Rv1.frozen 0
          have y3 := Rv1.frozen 1
          have Rx : HasRow (wv.setCell ⟨g + 1, 1, none⟩ (.string s3)) (g + 1) 47 #[.string na, .string s3] := heap_setCell_same wv (g + 1) 1 _ _ (.string s3) Rv2
          have HO := Lib.hid (rdr_out (Hv.fr (frp_cell wv (g + 1) 1 (.string s3)) (fun e => hpg1 e) (fun a ha e => by have := Lv a ha; omega)) (Rv1.other (B' := g + 1) (by omega) 1 (.string s3)) hpg (fun a ha e => by have := Lv a ha; omega) (FV.setCell (p := ⟨g + 1, 1, none⟩) (fun h => absurd h (by simp only; have := hg.out; omega)) (.string s3)) (by rw [hg.out]; exact Nat.le_refl _) (.string na) (.string s3))
          have L9 : Hid (∀ a, Av = some a → a.block < B) := Lib.hid (fun a ha => by have := Lv a ha; omega)
          have x8 := Rx.cell 0 _ rfl
          have x9 := Rx.cell 1 _ rfl
          clear Hv Lv Fv Rv1 Rv2 FV Rx
          go_wp2_with fail
          refine bodyPost_ret (v := .agg #[.string na, .string s3]) (res1 rfl _ _ ⟨g, 0, none⟩ _ rfl (loadF HO.out.1)) rfl ?_
          exact ⟨rfl, ⟨_, _, _, HO.out.2.1, L9.out⟩, HO.out.2.2⟩
      · rw [if_neg c3] at hp
        obtain ⟨⟨l3, e3, s3⟩, hv⟩ : ∃ q, pval (x :: r) 5 = q := ⟨_, rfl⟩
        rw [hv] at hp
        simp only [Prod.mk.injEq, Fd.mk.injEq] at hp
        obtain ⟨rfl, rfl, rfl, rfl⟩ := hp
        replace hv := Lib.hid hv
        have x1a := fun o1 o2 => Lib.cell?_alloc_some o2 (Lib.cell?_alloc_some o1 h0.out.1)
        have x1f := h0.out.2
        have Hq := Lib.hid (H1.out.setE 5)
        have Lq := HFar
        have Rq1 := Lib.hid (R1.out.other (B' := p) (fun e => hpg e.symm) 1 (.int .i64 5))
        have Rq2 := Lib.hid (R2.out.other (B' := p) (fun e => hpg1 e.symm) 1 (.int .i64 5))
        have Fq := Lib.hid ((Fr.of_below B2.out (fun k => k = p)).trans (frp_cell W1 p 1 (.int .i64 5)))
        go_wp2_with fail
        rw [← World.setCell_alloc_past _ p 1 _ hplt, ← World.setCell_alloc_past _ p 1 _ (by rw [World.size_alloc]; omega), hW1.out, hg.out]
        refine (value_any Hq.out (min B g) Lq.out _ _ _ hv.out).mono ?_
        rintro en wv ⟨rfl, ⟨Av, nv, cv, Hv, Lv⟩, Fv⟩
        have Rv1 := Rq1.out.fr Fv (fun e => hpg e.symm)
        have Rv2 := Rq2.out.fr Fv (fun e => hpg1 e.symm)
        have FV := Fq.out.trans Fv
        have z1 := Rv2.cell 1 _ rfl
        have z2 := Rv2.frozen 1
        have y0 := Rv1.cell 0 _ rfl
        have y1 := Rv1.cell 1 _ rfl
        have y2 := Rv1.frozen 0
        have y3 := Rv1.frozen 1
        have Rx : HasRow (wv.setCell ⟨g + 1, 1, none⟩ (.string s3)) (g + 1) 47 #[.string ⟨#[]⟩, .string s3] := heap_setCell_same wv (g + 1) 1 _ _ (.string s3) Rv2
        have HO := Lib.hid (rdr_out (Hv.fr (frp_cell wv (g + 1) 1 (.string s3)) (fun e => hpg1 e) (fun a ha e => by have := Lv a ha; omega)) (Rv1.other (B' := g + 1) (by omega) 1 (.string s3)) hpg (fun a ha e => by have := Lv a ha; omega) (FV.setCell (p := ⟨g + 1, 1, none⟩) (fun h => absurd h (by simp only; have := hg.out; omega)) (.string s3)) (by rw [hg.out]; exact Nat.le_refl _) (.string ⟨#[]⟩) (.string s3))
        have L9 : Hid (∀ a, Av = some a → a.block < B) := Lib.hid (fun a ha => by have := Lv a ha; omega)
        have x8 := Rx.cell 0 _ rfl
        have x9 := Rx.cell 1 _ rfl
        clear Hv Lv Fv Rv1 Rv2 FV Rx
        go_wp2_with fail
        refine bodyPost_ret (v := .agg #[.string ⟨#[]⟩, .string s3]) (res1 rfl _ _ ⟨g, 0, none⟩ _ rfl (loadF HO.out.1)) rfl ?_
        exact ⟨rfl, ⟨_, _, _, HO.out.2.1, L9.out⟩, HO.out.2.2⟩
end
end Go.Proofs.YtdldipkbknhhoaaDoor

/- fields: Get. -/
namespace Go.Proofs.YtdldipkbknhhoaaDoor
open Go.RowKit

def fgl : Nat → List UInt8 → List Fd → List Fd × Int
  | _, [], acc => (acc, 0)
  | 0, _ :: _, acc => (acc, 0)
  | f + 1, x :: r, acc => if acc.length = 16 then ([], 4) else if (pln (x :: r)).2.1 ≠ 0 then ([], (pln (x :: r)).2.1) else fgl f (pln (x :: r)).1 (acc ++ [(pln (x :: r)).2.2])
def fget (l : List UInt8) : List Fd × Int :=
  if l.length < 2 then ([], 3) else if l.getD 0 0 ≠ 0 ∨ l.getD 1 0 ≠ 0 then ([], 5) else fgl 17 (l.drop 2) []
def RetG (w : World) (x : List Fd × Int) (e : Ending) (w' : World) : Prop :=
  ∃ A c, e = .returned (.tuple #[.slice A x.1.length c, .int .i64 x.2]) ∧ w'.ownsRow w.heap.size 47 2 (.slice A x.1.length c) x.1.length (fdv x.1) ∧ Below w.heap.size w w'
theorem fgl_nil (f : Nat) (acc : List Fd) : fgl f [] acc = (acc, 0) := by cases f <;> rfl
theorem fgl_cons (f : Nat) (x : UInt8) (r : List UInt8) (acc : List Fd) : fgl (f + 1) (x :: r) acc = if acc.length = 16 then ([], 4) else if (pln (x :: r)).2.1 ≠ 0 then ([], (pln (x :: r)).2.1) else fgl f (pln (x :: r)).1 (acc ++ [(pln (x :: r)).2.2]) := rfl
def sliceLen (v : Value) : Nat := match v with | .slice _ m _ => m | _ => 0
theorem bel_fp {B p : Nat} {w0 w w' : World} (hb : Below B w0 w) (hB : B ≤ w.heap.size) (hp : B ≤ p) (F : Fr (fun k => k = p) w w') : Below B w0 w' :=
  Fr.under hb hB F (fun k hk _ => by omega)

set_option maxRecDepth 100000 in
set_option maxHeartbeats 8000000 in
theorem fget_any (l : List UInt8) (A : Option Addr) (c n : Nat) (w : World) (hn : l.length = n) (hr : Rd w A (bv l)) (hc : n ≤ c) (hcc : c ≤ 9223372036854775807) (hl : n ≤ 1000000) :
    Calls Tryd.prog 29 #[.slice A n c] w (RetG w (fget l)) := by
  rcases l with _ | ⟨x, _ | ⟨y, r⟩⟩
  · have hn0 : n = 0 := hn.symm
    subst hn0
    go_enter Tryd.func29, Tryd.ntmps29
    go_wp2_with fail
    go_ret2
    exact ⟨none, 0, rfl, World.ownsRow_nil _ _ _ _, Below.refl _ _⟩
  · have hn0 : n = 1 := hn.symm
    subst hn0
    go_enter Tryd.func29, Tryd.ntmps29
    go_wp2_with fail
    go_ret2
    exact ⟨none, 0, rfl, World.ownsRow_nil _ _ _ _, Below.refl _ _⟩
  · simp only [List.length_cons] at hn
    obtain ⟨b, off, rfl, h0⟩ := hr.at_ (k := 0) (by simp)
    obtain ⟨b', off', e1, h1⟩ := hr.at_ (k := 1) (by simp)
    injection e1 with e1
    injection e1 with e1 e2
    subst e1 e2
    simp only [bv, List.map_cons, List.getElem_cons_zero, List.getElem_cons_succ, Nat.add_zero] at h0 h1
    have hblt := World.block_lt_of_cell? w _ h0
    simp only at hblt
    have hn2 : 2 ≤ n := by omega
    have d0 : decide (n < 2) = false := decide_eq_false (by omega)
    have d0' : decide ((n : Int) < 2) = false := decide_eq_false (by omega)
    have hI0 : (0 : Int) < (n : Int) := by omega
    have hI1 : (1 : Int) < (n : Int) := by omega
    by_cases hz : x = 0 ∧ y = 0
    · obtain ⟨rfl, rfl⟩ := hz
      have hg : Hid (fget (0 :: 0 :: r) = fgl 17 r []) := Lib.hid (by unfold fget; rw [if_neg (by simp), if_neg (by simp)]; rfl)
      obtain ⟨X, hX, hXc⟩ := cut_l (P := Tryd.prog) Tryd.underlying23 infoB (some ⟨b, off, none⟩) n c 2 hn2 hc
      obtain ⟨n2, hn2e⟩ : ∃ n2, n - 2 = n2 := ⟨_, rfl⟩
      obtain ⟨c2, hc2e⟩ : ∃ c2, c - 2 = c2 := ⟨_, rfl⟩
      rw [hn2e, hc2e] at hX
      replace hX : ∀ w : World, (Instr.sliceAt 23 (.slice (some ⟨b, off, none⟩) n c) (some (.int .i64 2)) none none).run Tryd.prog w = .ok (.slice X n2 c2) w := hX
      have hRd : ∀ o, Rdr (w.alloc (.cells #[.slice X n2 c2, .int .i64 0] 73)) w.heap.size X n2 c2 r 0 ∧ o = () := fun o => by
        refine ⟨⟨HasRow.new w _ _, ?_, by omega, by omega, by omega, fun a ha => ?_, fun a ha => ?_, by omega⟩, rfl⟩
        · have := hXc.bytes' hr (by simp; omega) hc
          exact this.alloc _
        · obtain ⟨a0, q1, q2⟩ := hXc.blk a ha
          injection q1 with q1
          subst q1
          simp only at q2
          omega
        · obtain ⟨a0, q1, q2⟩ := hXc.blk a ha
          injection q1 with q1
          subst q1
          simp only at q2
          rw [World.size_alloc]; omega
      have R0 := Lib.hid (hRd ()).1
      have hXlt : Hid (∀ a, X = some a → a.block < w.heap.size) := Lib.hid (fun a ha => by
        obtain ⟨a0, q1, q2⟩ := hXc.blk a ha
        injection q1 with q1
        subst q1
        simp only at q2
        omega)
      have B0 := Lib.hid ((Below.refl _ w).alloc (Nat.le_refl _) (.cells #[.slice X n2 c2, .int .i64 0] 73))
      replace hn2e := Lib.hid hn2e
      replace hc2e := Lib.hid hc2e
      clear hRd hXc hr
      go_enter Tryd.func29, Tryd.ntmps29
      go_wp2_with fail
      obtain ⟨p, hp⟩ : ∃ p, w.heap.size = p := ⟨_, rfl⟩
      rw [hp] at R0 B0 hXlt ⊢
      clear h0 h1 d0 d0' hI0 hI1 hX hblt
      go_loopw [5] (fun v wr => ∃ (acc : List Fd) (k c4 : Nat) (A4 : Option Addr) (l1 : List UInt8), acc.length = k ∧ k ≤ 16 ∧ v = .slice A4 k c4 ∧ Hid (RdrB p wr p l1 0 ∧ fgl (17 - k) l1 acc = fgl 17 r [] ∧ wr.ownsRow p 47 2 (.slice A4 k c4) k (fdv acc) ∧ Below p w wr ∧ p < wr.heap.size)) (fun v _ => 17 - sliceLen v)
      case atStart => exact ⟨[], 0, 0, none, r, rfl, by omega, rfl, Lib.hid ⟨⟨_, _, _, R0.out, hXlt.out⟩, rfl, World.ownsRow_nil _ _ _ _, B0.out, by rw [World.size_alloc]; omega⟩⟩
      case round =>
        clear R0 B0 hXlt
        obtain ⟨acc, k, c4, A4, l1, hk, hk16, rfl, HK⟩ := hrel
        obtain ⟨⟨A1, n1, c1, H1, L1⟩, hfin, ho, hb, hplt⟩ := HK.out
        clear HK
        have x0 := H1.row.cell 0 _ rfl
        have hlen := H1.len
        rcases l1 with _ | ⟨z, r1⟩
        · have hn10 : n1 = 0 := hlen.symm
          subst hn10
          rw [fgl_nil] at hfin
          have hfin2 : Hid (fget (0 :: 0 :: r) = (acc, 0)) := Lib.hid (by rw [hg.out, ← hfin])
          replace ho := Lib.hid ho
          replace hb := Lib.hid hb
          replace hk := Lib.hid hk
          replace hp := Lib.hid hp
          clear H1 L1 hfin hlen
          go_wp2_with fail
          go_ret2
          rw [hfin2.out]
          refine ⟨A4, c4, by rw [show acc.length = k from hk.out]; rfl, ?_, by rw [hp.out]; exact hb.out⟩
          rw [hp.out, show acc.length = k from hk.out]; exact ho.out
        · simp only [List.length_cons] at hlen
          have hn1 : 0 < n1 := by omega
          have hn1I : (0 : Int) < (n1 : Int) := by omega
          obtain ⟨f, hf⟩ : ∃ f, 17 - k = f + 1 := ⟨16 - k, by omega⟩
          rw [hf, fgl_cons, hk] at hfin
          by_cases hk1 : k = 16
          · rw [if_pos hk1] at hfin
            have hfin2 : Hid (fget (0 :: 0 :: r) = ([], 4)) := Lib.hid (by rw [hg.out, ← hfin])
            have d1 : ((k : Int) == 16) = true := by rw [beq_iff_eq]; omega
            replace hb := Lib.hid hb
            replace hp := Lib.hid hp
            replace hk1 := Lib.hid hk1
            clear H1 L1 hfin ho hf
            go_wp2_with fail
            go_ret2
            rw [hfin2.out]
            exact ⟨none, 0, rfl, World.ownsRow_nil _ _ _ _, by rw [hp.out]; exact hb.out⟩
          · rw [if_neg hk1] at hfin
            have d1 : ((k : Int) == 16) = false := by rw [beq_eq_false_iff_ne]; omega
            obtain ⟨⟨l2, e2, fa, fb⟩, hq⟩ : ∃ q, pln (z :: r1) = q := ⟨_, rfl⟩
            rw [hq] at hfin
            simp only at hfin
            have hap : Hid (∀ q, (Value.slice A4 k c4).ownBlock = some q → ¬ q = p) := Lib.hid (fun q hq e => by
              cases A4 with
              | none => cases hq
              | some a4 =>
                injection hq with hq
                rcases ownS_cases ho with ⟨h9, _⟩ | ⟨g9, h9, _⟩
                · cases h9
                · injection h9 with h9
                  subst h9
                  have := own_typed ho H1.row rfl
                  exact this (e.symm.trans hq.symm))
            have LN := Lib.hid (line2_any H1 p L1 l2 e2 fa fb hq)
            replace hq := Lib.hid hq
            replace ho := Lib.hid ho
            replace hb := Lib.hid hb
            replace hp := Lib.hid hp
            clear H1 L1
            by_cases he : e2 = 0
            · subst he
              rw [if_neg (by simp)] at hfin
              replace hfin := Lib.hid hfin
              replace hf := Lib.hid hf
              go_wp2_with fail
              refine LN.out.mono ?_
              rintro en w2 ⟨rfl, ⟨A2, n3, c3, H2, L2⟩, F2⟩
              have o2 := Lib.hid (own_fr ho.out F2 hap.out)
              have B2 := Lib.hid (bel_fp hb.out (Nat.le_of_lt hplt) (Nat.le_refl _) F2)
              have e1 := fun o => Lib.cell?_alloc_some o (H2.row.cell 1 _ rfl)
              have hp2 := H2.row.lt
              have HF : Hid (∀ A6 c6 w6 oa ob, w6.ownsRow p 47 2 (.slice A6 (k + 1) c6) (k + 1) (fdv acc ++ [.string fa, .string fb]) → ((w2.alloc oa).alloc ob).grownBy w6 (Value.slice A4 k c4).ownBlock → RdrB p w6 p l2 0 ∧ w6.ownsRow p 47 2 (.slice A6 (k + 1) c6) (k + 1) (fdv (acc ++ [⟨fa, fb⟩])) ∧ Below p w w6 ∧ p < w6.heap.size) := Lib.hid (fun A6 c6 w6 oa ob h6 g6 => by
                have F6 : Fr (fun q => (Value.slice A4 k c4).ownBlock = some q) w2 w6 := (((Fr.refl _ w2).alloc oa).alloc ob).grown g6 (fun _ hq _ => hq)
                refine ⟨⟨A2, n3, c3, H2.fr F6 (fun e => hap.out p e rfl) (fun a ha e => ?_), L2⟩, by rw [fdv_append]; exact h6, Fr.under B2.out (by omega) F6 (fun q hq _ => (o2.out.lt q hq).1), by have := F6.size; omega⟩
                have q1 := L2 a ha
                have q2 := (o2.out.lt a.block e).1
                omega)
              go_wp2_with (at_builtin; refine wpList_appS rfl _ _ 22 rfl p 47 _ 2 32 infoF Tryd.underlying22 rfl (by decide) (.slice A4 k c4) k (fdv acc) rfl ((o2.out.alloc _).alloc _) ⟨w2.heap.size + 1, 0, none⟩ 1 1 [.string fa, .string fb] rfl rfl (Rd.fresh_to (by rw [World.size_alloc]) [.string fa, .string fb] _ _).cells (by intro u hu; simp at hu; rcases hu with rfl | rfl <;> rfl) (by unfold maxLen; omega) (by omega) (by simp only [World.size_alloc]; omega) ?_; intro A6 c6 w6 ho6 hg6 hat6; have H6 := HF.out A6 c6 w6 _ _ ho6 hg6; clear ho6 hg6 hat6)
              go_roundw
              case rel => exact ⟨acc ++ [⟨fa, fb⟩], k + 1, c6, A6, l2, by rw [List.length_append, hk]; rfl, by omega, rfl, Lib.hid ⟨H6.1, by rw [← hfin.out]; congr 1; have := hf.out; omega, H6.2.1, H6.2.2.1, H6.2.2.2⟩⟩
              case measure => simp only [sliceLen]; omega
            · rw [if_pos he] at hfin
              have d2 : (e2 != 0) = true := by rw [bne_iff_ne]; exact he
              have hfin2 : Hid (fget (0 :: 0 :: r) = ([], e2)) := Lib.hid (by rw [hg.out, ← hfin])
              replace hfin := Lib.hid hfin
              replace hf := Lib.hid hf
              go_wp2_with fail
              refine LN.out.mono ?_
              rintro en w2 ⟨rfl, ⟨A2, n3, c3, H2, L2⟩, F2⟩
              have B2 := bel_fp hb.out (Nat.le_of_lt hplt) (Nat.le_refl _) F2
              have B3 := Lib.hid (B2.alloc (by have := H2.row.lt; omega) (.cells #[.string fa, .string fb] 47))
              have e1 := fun o => Lib.cell?_alloc_some o (H2.row.cell 1 _ rfl)
              clear H2 L2 F2 B2
              go_wp2_with fail
              go_big_quiet (fail)
              go_wp2_with fail
              go_ret2
              rw [hfin2.out]
              exact ⟨none, 0, rfl, World.ownsRow_nil _ _ _ _, by rw [hp.out]; exact B3.out.trans ((Still.drewN _ _).below.mono (by have := B3.out.size; have := hp.out; omega))⟩
    · have hg : Hid (fget (x :: y :: r) = ([], 5)) := Lib.hid (by
        unfold fget
        rw [if_neg (by simp), if_pos]
        rcases Classical.em (x = 0) with h | h
        · exact .inr (fun e => hz ⟨h, e⟩)
        · exact .inl h)
      have hxy : ((x.toNat : Int) != 0) = true ∨ (((x.toNat : Int) != 0) = false ∧ ((y.toNat : Int) != 0) = true) := by
        rcases Classical.em (x = 0) with h | h
        · right
          subst h
          refine ⟨rfl, ?_⟩
          have : y ≠ 0 := fun e => hz ⟨rfl, e⟩
          exact u8_ne' this
        · left
          exact u8_ne' h
      obtain ⟨a, ha⟩ : ∃ a : Int, (x.toNat : Int) = a := ⟨_, rfl⟩
      obtain ⟨b2, hb2⟩ : ∃ b : Int, (y.toNat : Int) = b := ⟨_, rfl⟩
      rw [ha] at h0
      rw [hb2] at h1
      rw [ha, hb2] at hxy
      clear hr hz ha hb2
      rcases hxy with h | ⟨h, h2⟩
      all_goals
        go_enter Tryd.func29, Tryd.ntmps29
        go_wp2_with fail
        go_ret2
        rw [hg.out]
        exact ⟨none, 0, rfl, World.ownsRow_nil _ _ _ _, Below.refl _ _⟩
end Go.Proofs.YtdldipkbknhhoaaDoor

/- Low hands back a number below n, whatever it is handed; n & MaxVar is a number up to MaxVar. -/
namespace Go.Proofs.YtdldipkbknhhoaaDoor
open Go.RowKit

def low (x n : Int) : Int := wrap64 ((IntKind.u64.wrap x).tmod n)
theorem low_bd (x n : Int) (hn : 1 ≤ n) (hm : n ≤ 4611686018427387904) : 0 ≤ low x n ∧ low x n < n := by
  have h0 : 0 ≤ IntKind.u64.wrap x := by rw [IntKind.wrap_u64]; omega
  unfold low
  rw [Int.tmod_eq_emod_of_nonneg h0]
  have h1 := Int.emod_nonneg (IntKind.u64.wrap x) (show n ≠ 0 by omega)
  have h2 := Int.emod_lt_of_pos (IntKind.u64.wrap x) (show 0 < n by omega)
  rw [IntWalk.wrap64_in _ (by omega)]
  exact ⟨h1, h2⟩

set_option maxHeartbeats 400000 in
theorem low_any (x n : Int) (w : World) (hn : 1 ≤ n) (hm : n ≤ 4611686018427387904) :
    Calls Tryd.prog 18 #[.int .i64 x, .int .i64 n] w fun e w' => e = .returned (.int .i64 (low x n)) ∧ w = w' := by
  go_enter Tryd.func18, Tryd.ntmps18
  go_wp2
  go_ret
  exact ⟨rfl, rfl⟩
/-- Low, its result named. -/
theorem low_ex (x : Int) (n : Nat) (hn : 1 ≤ n) (hm : n ≤ 4611686018427387904) : ∃ m : Nat, m < n ∧ ∀ w : World, Calls Tryd.prog 18 #[.int .i64 x, .int .i64 n] w fun e w' => e = .returned (.int .i64 m) ∧ w = w' := by
  have hb := low_bd x n (by omega) (by omega)
  obtain ⟨m, hm2⟩ := Int.eq_ofNat_of_zero_le hb.1
  refine ⟨m, by omega, fun w => ?_⟩
  rw [← hm2]
  exact low_any x n w (by omega) (by omega)
end Go.Proofs.YtdldipkbknhhoaaDoor

/- How many bits a number has, as math/bits tells it; how long a number is laid. Plain arithmetic, and the walks of Low, the reference's Len and math/bits.Len64: each returns what is typed here, at every number of its kind. -/
namespace Go.Proofs.YtdldipkbknhhoaaDoor
open Go.RowKit

def vlen (n : Int) : Int := if n < 64 then 1 else if n < 16384 then 2 else if n < 1073741824 then 4 else if n < 4611686018427387904 then 8 else 0

theorem vlen1 {n : Int} (h : n < 64) : vlen n = 1 := by unfold vlen; rw [if_pos h]
theorem vlen2 {n : Int} (h0 : 64 ≤ n) (h : n < 16384) : vlen n = 2 := by unfold vlen; rw [if_neg (by omega), if_pos h]
theorem vlen4 {n : Int} (h0 : 16384 ≤ n) (h : n < 1073741824) : vlen n = 4 := by unfold vlen; rw [if_neg (by omega), if_neg (by omega), if_pos h]
theorem vlen8 {n : Int} (h0 : 1073741824 ≤ n) (h : n ≤ 4611686018427387903) : vlen n = 8 := by unfold vlen; rw [if_neg (by omega), if_neg (by omega), if_neg (by omega), if_pos (by omega)]
theorem vlen0 {n : Int} (h0 : 4611686018427387904 ≤ n) : vlen n = 0 := by unfold vlen; rw [if_neg (by omega), if_neg (by omega), if_neg (by omega), if_neg (by omega)]

def len8 (x : Int) : Int := if x < 1 then 0 else if x < 2 then 1 else if x < 4 then 2 else if x < 8 then 3 else if x < 16 then 4 else if x < 32 then 5 else if x < 64 then 6 else if x < 128 then 7 else 8
theorem len8_le (x : Int) : 0 ≤ len8 x ∧ len8 x ≤ 8 := by unfold len8; repeat' split <;> omega
def len16 (x : Int) : Int := if 256 ≤ x then 8 + len8 (x / 256) else len8 x
def len32 (x : Int) : Int := if 65536 ≤ x then 16 + len16 (x / 65536) else len16 x
def len64 (x : Int) : Int := if 4294967296 ≤ x then 32 + len32 (x / 4294967296) else len32 x
theorem len16_le (x : Int) : 0 ≤ len16 x ∧ len16 x ≤ 16 := by
  unfold len16; have := len8_le (x / 256); have := len8_le x; split <;> omega
theorem len32_le (x : Int) : 0 ≤ len32 x ∧ len32 x ≤ 32 := by
  unfold len32; have := len16_le (x / 65536); have := len16_le x; split <;> omega
theorem len64_le (x : Int) : 0 ≤ len64 x ∧ len64 x ≤ 64 := by
  unfold len64; have := len32_le (x / 4294967296); have := len32_le x; split <;> omega

theorem len8_6 (x : Int) : len8 x ≤ 6 ↔ x < 64 := by unfold len8; constructor <;> intro h <;> (repeat' split at h) <;> (repeat' split) <;> omega
theorem len8_pos (x : Int) : 1 ≤ len8 x ↔ 1 ≤ x := by unfold len8; constructor <;> intro h <;> (repeat' split at h) <;> (repeat' split) <;> omega
theorem len16_6 (x : Int) : len16 x ≤ 6 ↔ x < 64 := by
  unfold len16; have h1 := len8_pos (x / 256); have := len8_6 x; have := len8_le (x/256); split <;> omega
theorem len16_14 (x : Int) : len16 x ≤ 14 ↔ x < 16384 := by
  unfold len16; have := len8_6 (x / 256); have := len8_le x; split <;> omega
theorem len16_pos (x : Int) : 1 ≤ len16 x ↔ 1 ≤ x := by
  unfold len16; have := len8_pos (x / 256); have := len8_pos x; have := len8_le (x/256); split <;> omega
theorem len64_6 (x : Int) : len64 x ≤ 6 ↔ x < 64 := by
  unfold len64 len32; have := len16_6 x; have := len16_le (x / 65536); have := len16_le (x / 4294967296); have := len16_le (x / 4294967296 / 65536); (repeat' split) <;> omega
theorem len64_14 (x : Int) : len64 x ≤ 14 ↔ x < 16384 := by
  unfold len64 len32; have := len16_14 x; have := len16_le (x / 65536); have := len16_le (x / 4294967296); have := len16_le (x / 4294967296 / 65536); (repeat' split) <;> omega
theorem len64_30 (x : Int) : len64 x ≤ 30 ↔ x < 1073741824 := by
  unfold len64 len32; have := len16_14 (x / 65536); have := len16_le x; have := len16_le (x / 65536); have := len16_le (x / 4294967296); have := len16_le (x / 4294967296 / 65536); (repeat' split) <;> omega
theorem len64_62 (x : Int) : len64 x ≤ 62 ↔ x < 4611686018427387904 := by
  unfold len64 len32; have := len16_14 (x / 4294967296 / 65536); have := len16_le x; have := len16_le (x / 65536); have := len16_le (x / 4294967296); have := len16_le (x / 4294967296 / 65536); (repeat' split) <;> omega

set_option maxHeartbeats 400000 in
theorem reflen_any (n : Int) (w : World) (h0 : 0 ≤ n) (hn : n ≤ 18446744073709551615) :
    Calls Tryd.prog 47 #[.int .u64 n] w fun e w' => e = .returned (.int .i64 (vlen n)) ∧ w = w' := by
  go_enter Tryd.func47, Tryd.ntmps47
  go_wp2
  all_goals go_ret
  · exact ⟨ret_int (vlen1 (by omega)).symm, rfl⟩
  · exact ⟨ret_int (vlen2 (by omega) (by omega)).symm, rfl⟩
  · exact ⟨ret_int (vlen4 (by omega) (by omega)).symm, rfl⟩
  · exact ⟨ret_int (vlen8 (by omega) (by omega)).symm, rfl⟩
  · exact ⟨ret_int (vlen0 (by omega)).symm, rfl⟩

theorem tab_fin {B : ByteArray} (hB : ∀ i : Nat, i < 256 → (B.data.toList.getD i 0).toNat = (len8 i).toNat) (hs : B.size = 256) {x : Int} (h0 : 0 ≤ x) (hx : x < 256) {h : x.toNat < B.size} :
    ((B[x.toNat]'h).toNat : Int) = len8 x := by
  have e : B[x.toNat]'h = B.data.toList.getD x.toNat 0 := by
    have h' : x.toNat < B.data.size := h
    simp [List.getD, ByteArray.getElem_eq_getElem_data]
    rw [Array.getElem?_eq_getElem h']; rfl
  rw [e, hB _ (by omega)]
  have := len8_le x
  have hx' : ((x.toNat : Nat) : Int) = x := by omega
  rw [hx']
  omega

set_option maxRecDepth 100000 in
set_option maxHeartbeats 400000 in
theorem len64_any (n : Int) (w : World) (h0 : 0 ≤ n) (hn : n ≤ 18446744073709551615) :
    Calls Tryd.prog 70 #[.int .u64 n] w fun e w' => e = .returned (.int .i64 (len64 n)) ∧ w = w' := by
  go_enter Tryd.func70, Tryd.ntmps70
  go_wp2
  all_goals go_ret
  all_goals refine ⟨ret_int ?_, rfl⟩
  all_goals rw [tab_fin (by decide) rfl (by omega) (by omega)]
  all_goals (have hb1 := len8_le (n / 4294967296 / 65536 / 256); have hb2 := len8_le (n / 4294967296 / 65536); have hb3 := len8_le (n / 4294967296 / 256); have hb4 := len8_le (n / 4294967296))
  all_goals (have hb5 := len8_le (n / 65536 / 256); have hb6 := len8_le (n / 65536); have hb7 := len8_le (n / 256); have hb8 := len8_le n)
  all_goals (rw [IntWalk.wrap64_in (len8 _) (by omega), IntWalk.wrap64_in _ (by omega)]; unfold len64 len32 len16; (repeat' split) <;> omega)

end Go.Proofs.YtdldipkbknhhoaaDoor

/- varint.Len returns the document's length at every number of 64 bits; it may only draw. -/
namespace Go.Proofs.YtdldipkbknhhoaaDoor
open Go.RowKit

set_option maxHeartbeats 2000000 in
theorem vlen_any (n : Int) (w : World) (h0 : 0 ≤ n) (hn : n ≤ 18446744073709551615) :
    Calls Tryd.prog 54 #[.int .u64 n] w fun e w' => e = .returned (.int .i64 (vlen n)) ∧ ∃ k, w' = w.drewN k := by
  have hle := len64_le n
  have H6 := Lib.hid (len64_6 n)
  have H14 := Lib.hid (len64_14 n)
  have H30 := Lib.hid (len64_30 n)
  have H62 := Lib.hid (len64_62 n)
  by_cases c1 : n < 64
  · have g1 : len64 n ≤ 6 := H6.out.2 c1
    go_enter Tryd.func54, Tryd.ntmps54
    go_wp2_with fail
    refine wp_loop_rounds 5 ?_
    rw [rounds_succ]
    go_wp2_with fail
    go_quiet ((go_at_call 70; exact quiet_left (len64_any _ _ h0 hn)))
    go_wp2_with fail
    go_ret
    exact ⟨ret_int (vlen1 c1).symm, _, rfl⟩
  have g1 : 6 < len64 n := by have := H6.out; omega
  by_cases c2 : n < 16384
  · have g2 : len64 n ≤ 14 := H14.out.2 c2
    go_enter Tryd.func54, Tryd.ntmps54
    go_wp2_with fail
    refine wp_loop_rounds 5 ?_
    rw [rounds_succ]
    go_wp2_with fail
    go_quiet ((go_at_call 70; exact quiet_left (len64_any _ _ h0 hn)))
    go_wp2_with fail
    iterate 1 (rw [rounds_succ]; go_wp2_with fail; go_quiet ((go_at_call 70; exact quiet_add_left (len64_any _ _ h0 hn))); go_wp2_with fail)
    go_ret
    exact ⟨ret_int (vlen2 (by omega) c2).symm, _, rfl⟩
  have g2 : 14 < len64 n := by have := H14.out; omega
  by_cases c3 : n < 1073741824
  · have g3 : len64 n ≤ 30 := H30.out.2 c3
    go_enter Tryd.func54, Tryd.ntmps54
    go_wp2_with fail
    refine wp_loop_rounds 5 ?_
    rw [rounds_succ]
    go_wp2_with fail
    go_quiet ((go_at_call 70; exact quiet_left (len64_any _ _ h0 hn)))
    go_wp2_with fail
    iterate 2 (rw [rounds_succ]; go_wp2_with fail; go_quiet ((go_at_call 70; exact quiet_add_left (len64_any _ _ h0 hn))); go_wp2_with fail)
    go_ret
    exact ⟨ret_int (vlen4 (by omega) c3).symm, _, rfl⟩
  have g3 : 30 < len64 n := by have := H30.out; omega
  by_cases c4 : n < 4611686018427387904
  · have g4 : len64 n ≤ 62 := H62.out.2 c4
    go_enter Tryd.func54, Tryd.ntmps54
    go_wp2_with fail
    refine wp_loop_rounds 5 ?_
    rw [rounds_succ]
    go_wp2_with fail
    go_quiet ((go_at_call 70; exact quiet_left (len64_any _ _ h0 hn)))
    go_wp2_with fail
    iterate 3 (rw [rounds_succ]; go_wp2_with fail; go_quiet ((go_at_call 70; exact quiet_add_left (len64_any _ _ h0 hn))); go_wp2_with fail)
    go_ret
    exact ⟨ret_int (vlen8 (by omega) (by omega)).symm, _, rfl⟩
  have g4 : 62 < len64 n := by have := H62.out; omega
  go_enter Tryd.func54, Tryd.ntmps54
  go_wp2_with fail
  refine wp_loop_rounds 5 ?_
  rw [rounds_succ]
  go_wp2_with fail
  go_quiet ((go_at_call 70; exact quiet_left (len64_any _ _ h0 hn)))
  go_wp2_with fail
  iterate 3 (rw [rounds_succ]; go_wp2_with fail; go_quiet ((go_at_call 70; exact quiet_add_left (len64_any _ _ h0 hn))); go_wp2_with fail)
  rw [rounds_succ]
  go_wp2_with fail
  go_ret
  exact ⟨ret_int (vlen0 (by omega)).symm, _, rfl⟩

end Go.Proofs.YtdldipkbknhhoaaDoor

/- varint.Get and the reference's Get return what vget says, of whatever slice of bytes they are handed (its capacity no less than its length), and turn nothing. -/
namespace Go.Proofs.YtdldipkbknhhoaaDoor
open Go.RowKit

/-- The number that a row of bytes is, the highest first, behind what stands ahead. -/
def beN (n : Int) (l : List UInt8) : Int := l.foldl (fun n c => n * 256 + (c.toNat : Int)) n
theorem beN_nil (n : Int) : beN n [] = n := rfl
theorem beN_snoc (n : Int) (l : List UInt8) (c : UInt8) : beN n (l ++ [c]) = beN n l * 256 + (c.toNat : Int) := by simp [beN]
theorem beN_bd (n : Int) (l : List UInt8) (h0 : 0 ≤ n) (K : Int) (hn : n < K) : 0 ≤ beN n l ∧ beN n l < K * 256 ^ l.length := by
  induction l generalizing n K with
  | nil => simp [beN]; omega
  | cons c l ih =>
    have hc := UInt8.toNat_lt c
    have := ih (n * 256 + (c.toNat : Int)) (by omega) (K * 256) (by omega)
    simp only [beN, List.foldl_cons, List.length_cons] at this ⊢
    rw [Int.pow_succ, Int.mul_comm (256 ^ l.length) 256, ← Int.mul_assoc]
    exact this


theorem get1 {x : UInt8} {r : List UInt8} {k : Nat} (hk : k < r.length) {h : 1 + k < (x :: r).length} : (x :: r)[1 + k] = r[k] := by
  simp [Nat.add_comm 1 k]
theorem beN_take_succ (n : Int) (r : List UInt8) (k : Nat) (hk : k < r.length) : beN n (r.take (k + 1)) = beN n (r.take k) * 256 + (r[k].toNat : Int) := by
  rw [List.take_succ_eq_append_getElem hk, beN_snoc]
theorem pow256 (j : Nat) (h : j < 7) : (64 : Int) * 256 ^ j ≤ 18014398509481984 := by
  match j, h with
  | 0, _ | 1, _ | 2, _ | 3, _ | 4, _ | 5, _ | 6, _ => decide
theorem beN_bd64 (l : List UInt8) (x : Int) (hl : l.length < 7) : 0 ≤ beN (x % 64) l ∧ beN (x % 64) l < 18014398509481984 := by
  have h := beN_bd (x % 64) l (by omega) 64 (by omega)
  have := pow256 l.length hl
  omega

theorem or_join (a b : Int) (h0 : 0 ≤ a) (h1 : a < 18014398509481984) (h2 : 0 ≤ b) (h3 : b < 256) : bits .or .u64 (a * 256) b = a * 256 + b := by
  obtain ⟨A, rfl⟩ := Int.eq_ofNat_of_zero_le h0
  obtain ⟨B, rfl⟩ := Int.eq_ofNat_of_zero_le h2
  have e : ((A : Int) * 256) = ((A * 256 : Nat) : Int) := by omega
  have e2 := Nat.two_pow_add_eq_or_of_lt (i := 8) (b := B) (by omega) A
  rw [e, u64_or_nat _ _ (by omega) (by omega), Nat.mul_comm A 256]
  have e3 : 256 * A ||| B = 256 * A + B := e2.symm
  rw [e3]; omega
/-- How many bytes the number has that begins with c. -/
def vmany (c : UInt8) : Nat := 2 ^ (c.toNat / 64)
def vget (l : List UInt8) : Int × Int × Int :=
  match l with
  | [] => (0, 0, 3)
  | c :: r => if l.length < vmany c then (0, 0, 3) else (beN ((c.toNat : Int) % 64) (r.take (vmany c - 1)), vmany c, 0)

def vtup (x : Int × Int × Int) : Value := .tuple #[.int .u64 x.1, .int .i64 x.2.1, .int .i64 x.2.2]

set_option maxHeartbeats 400000 in
theorem get_any (l : List UInt8) (A : Option Addr) (c : Nat) (w : World) (hr : Rd w A (bv l)) (hc : l.length ≤ c) (hm : l.length ≤ 140737488355328) (hcc : c ≤ 9223372036854775807) :
    Calls Tryd.prog 39 #[.slice A l.length c] w fun e w' => e = .returned (vtup (vget l)) ∧ w = w' := by
  match l, hr, hc, hm with
  | [], hr, hc, hm =>
    go_enter Tryd.func39, Tryd.ntmps39
    go_wp2
    go_ret3
    exact ⟨rfl, rfl⟩
  | x :: r, hr, hc, hm =>
    obtain ⟨b, off, rfl, hcell⟩ := hr (by simp)
    have h0 := hcell 0 _ (bv_get (k := 0) (by simp))
    simp only [List.getElem_cons_zero, Nat.add_zero] at h0
    have hx := UInt8.toNat_lt x
    simp only [List.length_cons] at hc hm
    have hq : x.toNat / 64 = 0 ∨ x.toNat / 64 = 1 ∨ x.toNat / 64 = 2 ∨ x.toNat / 64 = 3 := by omega
    have hz : ((r.length : Int) + 1 == 0) = false := by rw [beq_eq_false_iff_ne]; omega
    have w1 : wrap64 1 = 1 := by unfold wrap64; omega
    have w2 : wrap64 2 = 2 := by unfold wrap64; omega
    have w4 : wrap64 4 = 4 := by unfold wrap64; omega
    have w8 : wrap64 8 = 8 := by unfold wrap64; omega
    rcases hq with hq | hq | hq | hq
    · have hv : vget (x :: r) = if r.length + 1 < 1 then (0, 0, 3) else (beN ((x.toNat : Int) % 64) (r.take 0), 1, 0) := by simp [vget, vmany, hq]
      have HV := Lib.hid hv
      clear hv
      have hge : 0 ≤ r.length := by omega
      go_enter Tryd.func39, Tryd.ntmps39
      go_wp2
      all_goals
        go_loop [6, 36] (fun n i => ∃ k : Nat, k ≤ 0 ∧ n = .int .u64 (beN ((x.toNat : Int) % 64) (r.take k)) ∧ i = .int .i64 k) (fun _ i => 0 - (intOf i).toNat)
        case atStart => exact ⟨0, by omega, rfl, rfl⟩
        case round =>
          obtain ⟨k, hk, rfl, rfl⟩ := hrel
          have hk' : k = 0 := by omega
          subst hk'
          go_wp2
          go_ret3
          exact ⟨by rw [HV.out, if_neg (by omega)]; rfl, rfl⟩
    · have hv : vget (x :: r) = if r.length + 1 < 2 then (0, 0, 3) else (beN ((x.toNat : Int) % 64) (r.take 1), 2, 0) := by simp [vget, vmany, hq]
      have HV := Lib.hid hv
      clear hv
      by_cases hlt : r.length + 1 < 2
      · go_enter Tryd.func39, Tryd.ntmps39
        go_wp2
        go_ret3
        exact ⟨by rw [HV.out, if_pos hlt]; rfl, rfl⟩
      · have hge : 1 ≤ r.length := by omega
        go_enter Tryd.func39, Tryd.ntmps39
        go_wp2
        all_goals
          go_loop [6, 36] (fun n i => ∃ k : Nat, k ≤ 1 ∧ n = .int .u64 (beN ((x.toNat : Int) % 64) (r.take k)) ∧ i = .int .i64 k) (fun _ i => 1 - (intOf i).toNat)
          case atStart => exact ⟨0, by omega, rfl, rfl⟩
          case round =>
            obtain ⟨k, hk, rfl, rfl⟩ := hrel
            by_cases hkl : k < 1
            · have hg := hcell (1 + k) _ (bv_get (l := x :: r) (by simp; omega))
              rw [← Nat.add_assoc, get1 (by omega)] at hg
              have hb := beN_bd64 (r.take k) (x.toNat : Int) (by simp; omega)
              have hs := Lib.hid (beN_take_succ ((x.toNat : Int) % 64) r k (by omega))
              have hcl := UInt8.toNat_lt (r[k]'(by omega))
              go_wp2
              go_round
              case rel => exact ⟨k + 1, by omega, by rw [hs.out, or_join _ _ hb.1 hb.2 (by omega) (by omega)], by go_num⟩
              case measure => simp [intOf]; omega
            · have hk' : k = 1 := by omega
              subst hk'
              go_wp2
              go_ret3
              exact ⟨by rw [HV.out, if_neg (by omega)]; rfl, rfl⟩
    · have hv : vget (x :: r) = if r.length + 1 < 4 then (0, 0, 3) else (beN ((x.toNat : Int) % 64) (r.take 3), 4, 0) := by simp [vget, vmany, hq]
      have HV := Lib.hid hv
      clear hv
      by_cases hlt : r.length + 1 < 4
      · go_enter Tryd.func39, Tryd.ntmps39
        go_wp2
        go_ret3
        exact ⟨by rw [HV.out, if_pos hlt]; rfl, rfl⟩
      · have hge : 3 ≤ r.length := by omega
        go_enter Tryd.func39, Tryd.ntmps39
        go_wp2
        all_goals
          go_loop [6, 36] (fun n i => ∃ k : Nat, k ≤ 3 ∧ n = .int .u64 (beN ((x.toNat : Int) % 64) (r.take k)) ∧ i = .int .i64 k) (fun _ i => 3 - (intOf i).toNat)
          case atStart => exact ⟨0, by omega, rfl, rfl⟩
          case round =>
            obtain ⟨k, hk, rfl, rfl⟩ := hrel
            by_cases hkl : k < 3
            · have hg := hcell (1 + k) _ (bv_get (l := x :: r) (by simp; omega))
              rw [← Nat.add_assoc, get1 (by omega)] at hg
              have hb := beN_bd64 (r.take k) (x.toNat : Int) (by simp; omega)
              have hs := Lib.hid (beN_take_succ ((x.toNat : Int) % 64) r k (by omega))
              have hcl := UInt8.toNat_lt (r[k]'(by omega))
              go_wp2
              go_round
              case rel => exact ⟨k + 1, by omega, by rw [hs.out, or_join _ _ hb.1 hb.2 (by omega) (by omega)], by go_num⟩
              case measure => simp [intOf]; omega
            · have hk' : k = 3 := by omega
              subst hk'
              go_wp2
              go_ret3
              exact ⟨by rw [HV.out, if_neg (by omega)]; rfl, rfl⟩
    · have hv : vget (x :: r) = if r.length + 1 < 8 then (0, 0, 3) else (beN ((x.toNat : Int) % 64) (r.take 7), 8, 0) := by simp [vget, vmany, hq]
      have HV := Lib.hid hv
      clear hv
      by_cases hlt : r.length + 1 < 8
      · go_enter Tryd.func39, Tryd.ntmps39
        go_wp2
        go_ret3
        exact ⟨by rw [HV.out, if_pos hlt]; rfl, rfl⟩
      · have hge : 7 ≤ r.length := by omega
        go_enter Tryd.func39, Tryd.ntmps39
        go_wp2
        all_goals
          go_loop [6, 36] (fun n i => ∃ k : Nat, k ≤ 7 ∧ n = .int .u64 (beN ((x.toNat : Int) % 64) (r.take k)) ∧ i = .int .i64 k) (fun _ i => 7 - (intOf i).toNat)
          case atStart => exact ⟨0, by omega, rfl, rfl⟩
          case round =>
            obtain ⟨k, hk, rfl, rfl⟩ := hrel
            by_cases hkl : k < 7
            · have hg := hcell (1 + k) _ (bv_get (l := x :: r) (by simp; omega))
              rw [← Nat.add_assoc, get1 (by omega)] at hg
              have hb := beN_bd64 (r.take k) (x.toNat : Int) (by simp; omega)
              have hs := Lib.hid (beN_take_succ ((x.toNat : Int) % 64) r k (by omega))
              have hcl := UInt8.toNat_lt (r[k]'(by omega))
              go_wp2
              go_round
              case rel => exact ⟨k + 1, by omega, by rw [hs.out, or_join _ _ hb.1 hb.2 (by omega) (by omega)], by go_num⟩
              case measure => simp [intOf]; omega
            · have hk' : k = 7 := by omega
              subst hk'
              go_wp2
              go_ret3
              exact ⟨by rw [HV.out, if_neg (by omega)]; rfl, rfl⟩
theorem get1' {x : UInt8} {r : List UInt8} {k : Nat} (hk : k < r.length) {h : k + 1 < (x :: r).length} : (x :: r)[k + 1] = r[k] := rfl
set_option maxHeartbeats 400000 in
theorem refget_any (l : List UInt8) (A : Option Addr) (c : Nat) (w : World) (hr : Rd w A (bv l)) (hc : l.length ≤ c) (hm : l.length ≤ 140737488355328) (_hcc : c ≤ 9223372036854775807) :
    Calls Tryd.prog 30 #[.slice A l.length c] w fun e w' => e = .returned (vtup (vget l)) ∧ w = w' := by
  match l, hr, hc, hm with
  | [], hr, hc, hm =>
    go_enter Tryd.func30, Tryd.ntmps30
    go_wp2
    go_ret3
    exact ⟨rfl, rfl⟩
  | x :: r, hr, hc, hm =>
    obtain ⟨b, off, rfl, hcell⟩ := hr (by simp)
    have h0 := hcell 0 _ (bv_get (k := 0) (by simp))
    simp only [List.getElem_cons_zero, Nat.add_zero] at h0
    have hx := UInt8.toNat_lt x
    simp only [List.length_cons] at hc hm
    have hq : x.toNat / 64 = 0 ∨ x.toNat / 64 = 1 ∨ x.toNat / 64 = 2 ∨ x.toNat / 64 = 3 := by omega
    have hz : ((r.length : Int) + 1 == 0) = false := by rw [beq_eq_false_iff_ne]; omega
    have w1 : wrap64 1 = 1 := by unfold wrap64; omega
    have w2 : wrap64 2 = 2 := by unfold wrap64; omega
    have w4 : wrap64 4 = 4 := by unfold wrap64; omega
    have w8 : wrap64 8 = 8 := by unfold wrap64; omega
    rcases hq with hq | hq | hq | hq
    · have hv : vget (x :: r) = if r.length + 1 < 1 then (0, 0, 3) else (beN ((x.toNat : Int) % 64) (r.take 0), 1, 0) := by simp [vget, vmany, hq]
      have HV := Lib.hid hv
      clear hv
      have hge : 0 ≤ r.length := by omega
      go_enter Tryd.func30, Tryd.ntmps30
      go_wp2
      all_goals
        go_loop [6, 7] (fun n i => ∃ k : Nat, k ≤ 0 ∧ n = .int .u64 (beN ((x.toNat : Int) % 64) (r.take k)) ∧ i = .int .i64 ((k : Int) + 1)) (fun _ i => 0 + 1 - (intOf i).toNat)
        case atStart => exact ⟨0, by omega, rfl, rfl⟩
        case round =>
          obtain ⟨k, hk, rfl, rfl⟩ := hrel
          have hk' : k = 0 := by omega
          subst hk'
          go_wp2
          go_ret3
          exact ⟨by rw [HV.out, if_neg (by omega)]; rfl, rfl⟩
    · have hv : vget (x :: r) = if r.length + 1 < 2 then (0, 0, 3) else (beN ((x.toNat : Int) % 64) (r.take 1), 2, 0) := by simp [vget, vmany, hq]
      have HV := Lib.hid hv
      clear hv
      by_cases hlt : r.length + 1 < 2
      · go_enter Tryd.func30, Tryd.ntmps30
        go_wp2
        go_ret3
        exact ⟨by rw [HV.out, if_pos hlt]; rfl, rfl⟩
      · have hge : 1 ≤ r.length := by omega
        go_enter Tryd.func30, Tryd.ntmps30
        go_wp2
        all_goals
          go_loop [6, 7] (fun n i => ∃ k : Nat, k ≤ 1 ∧ n = .int .u64 (beN ((x.toNat : Int) % 64) (r.take k)) ∧ i = .int .i64 ((k : Int) + 1)) (fun _ i => 1 + 1 - (intOf i).toNat)
          case atStart => exact ⟨0, by omega, rfl, rfl⟩
          case round =>
            obtain ⟨k, hk, rfl, rfl⟩ := hrel
            by_cases hkl : k < 1
            · have hg := hcell (k + 1) _ (bv_get (l := x :: r) (by simp; omega))
              rw [get1' (by omega)] at hg
              have hb := beN_bd64 (r.take k) (x.toNat : Int) (by simp; omega)
              have hs := Lib.hid (beN_take_succ ((x.toNat : Int) % 64) r k (by omega))
              have hcl := UInt8.toNat_lt (r[k]'(by omega))
              go_wp2
              go_round
              case rel => exact ⟨k + 1, by omega, by rw [hs.out, or_join _ _ hb.1 hb.2 (by omega) (by omega)], by go_num⟩
              case measure => simp [intOf]; omega
            · have hk' : k = 1 := by omega
              subst hk'
              go_wp2
              go_ret3
              exact ⟨by rw [HV.out, if_neg (by omega)]; rfl, rfl⟩
    · have hv : vget (x :: r) = if r.length + 1 < 4 then (0, 0, 3) else (beN ((x.toNat : Int) % 64) (r.take 3), 4, 0) := by simp [vget, vmany, hq]
      have HV := Lib.hid hv
      clear hv
      by_cases hlt : r.length + 1 < 4
      · go_enter Tryd.func30, Tryd.ntmps30
        go_wp2
        go_ret3
        exact ⟨by rw [HV.out, if_pos hlt]; rfl, rfl⟩
      · have hge : 3 ≤ r.length := by omega
        go_enter Tryd.func30, Tryd.ntmps30
        go_wp2
        all_goals
          go_loop [6, 7] (fun n i => ∃ k : Nat, k ≤ 3 ∧ n = .int .u64 (beN ((x.toNat : Int) % 64) (r.take k)) ∧ i = .int .i64 ((k : Int) + 1)) (fun _ i => 3 + 1 - (intOf i).toNat)
          case atStart => exact ⟨0, by omega, rfl, rfl⟩
          case round =>
            obtain ⟨k, hk, rfl, rfl⟩ := hrel
            by_cases hkl : k < 3
            · have hg := hcell (k + 1) _ (bv_get (l := x :: r) (by simp; omega))
              rw [get1' (by omega)] at hg
              have hb := beN_bd64 (r.take k) (x.toNat : Int) (by simp; omega)
              have hs := Lib.hid (beN_take_succ ((x.toNat : Int) % 64) r k (by omega))
              have hcl := UInt8.toNat_lt (r[k]'(by omega))
              go_wp2
              go_round
              case rel => exact ⟨k + 1, by omega, by rw [hs.out, or_join _ _ hb.1 hb.2 (by omega) (by omega)], by go_num⟩
              case measure => simp [intOf]; omega
            · have hk' : k = 3 := by omega
              subst hk'
              go_wp2
              go_ret3
              exact ⟨by rw [HV.out, if_neg (by omega)]; rfl, rfl⟩
    · have hv : vget (x :: r) = if r.length + 1 < 8 then (0, 0, 3) else (beN ((x.toNat : Int) % 64) (r.take 7), 8, 0) := by simp [vget, vmany, hq]
      have HV := Lib.hid hv
      clear hv
      by_cases hlt : r.length + 1 < 8
      · go_enter Tryd.func30, Tryd.ntmps30
        go_wp2
        go_ret3
        exact ⟨by rw [HV.out, if_pos hlt]; rfl, rfl⟩
      · have hge : 7 ≤ r.length := by omega
        go_enter Tryd.func30, Tryd.ntmps30
        go_wp2
        all_goals
          go_loop [6, 7] (fun n i => ∃ k : Nat, k ≤ 7 ∧ n = .int .u64 (beN ((x.toNat : Int) % 64) (r.take k)) ∧ i = .int .i64 ((k : Int) + 1)) (fun _ i => 7 + 1 - (intOf i).toNat)
          case atStart => exact ⟨0, by omega, rfl, rfl⟩
          case round =>
            obtain ⟨k, hk, rfl, rfl⟩ := hrel
            by_cases hkl : k < 7
            · have hg := hcell (k + 1) _ (bv_get (l := x :: r) (by simp; omega))
              rw [get1' (by omega)] at hg
              have hb := beN_bd64 (r.take k) (x.toNat : Int) (by simp; omega)
              have hs := Lib.hid (beN_take_succ ((x.toNat : Int) % 64) r k (by omega))
              have hcl := UInt8.toNat_lt (r[k]'(by omega))
              go_wp2
              go_round
              case rel => exact ⟨k + 1, by omega, by rw [hs.out, or_join _ _ hb.1 hb.2 (by omega) (by omega)], by go_num⟩
              case measure => simp [intOf]; omega
            · have hk' : k = 7 := by omega
              subst hk'
              go_wp2
              go_ret3
              exact ⟨by rw [HV.out, if_neg (by omega)]; rfl, rfl⟩
end Go.Proofs.YtdldipkbknhhoaaDoor

/- varint.PutLen lays a number that fits in 1, 2, 4 or 8 bytes behind a slice, in new memory. -/
namespace Go.Proofs.YtdldipkbknhhoaaDoor
open Go.RowKit

def vmark (m : Nat) : Nat := if m = 1 then 0 else if m = 2 then 1 else if m = 4 then 2 else 3
def vbyte (n : Int) (m k : Nat) : UInt8 := UInt8.ofNat (n.toNat / 2 ^ (8 * (m - 1 - k)) % 256 + if k = 0 then vmark m * 64 else 0)
def vbytes (n : Int) (m : Nat) : List UInt8 := (List.range m).map (vbyte n m)
theorem vbytes_length (n : Int) (m : Nat) : (vbytes n m).length = m := by simp [vbytes]
theorem vbytes_take_succ (n : Int) (m k : Nat) (hk : k < m) : (vbytes n m).take (k + 1) = (vbytes n m).take k ++ [vbyte n m k] := by
  rw [List.take_succ_eq_append_getElem (by simpa [vbytes] using hk)]
  simp [vbytes]
theorem vbyte_pos (n : Int) (m k : Nat) (h0 : 0 ≤ n) (hk : k ≠ 0) : ((vbyte n m k).toNat : Int) = n / 2 ^ (8 * (m - 1 - k)) % 256 := by
  obtain ⟨N, rfl⟩ := Int.eq_ofNat_of_zero_le h0
  have e : vbyte (N : Int) m k = UInt8.ofNat (N / 2 ^ (8 * (m - 1 - k)) % 256) := by unfold vbyte; rw [if_neg hk]; rfl
  rw [e, UInt8.toNat_ofNat', Nat.mod_eq_of_lt (Nat.mod_lt _ (by decide))]
  rw [Int.natCast_emod, Int.natCast_ediv, Int.natCast_pow]
  rfl
theorem vbyte_zero (n : Int) (m : Nat) (h0 : 0 ≤ n) (hm : m = 1 ∨ m = 2 ∨ m = 4 ∨ m = 8) (hnm : n < 2 ^ (8 * m - 2)) : ((vbyte n m 0).toNat : Int) = n / 2 ^ (8 * (m - 1)) + (vmark m * 64 : Nat) := by
  obtain ⟨N, rfl⟩ := Int.eq_ofNat_of_zero_le h0
  rcases hm with rfl | rfl | rfl | rfl
  all_goals
    simp only [Nat.reduceMul, Nat.reduceSub, Int.reducePow] at hnm
    simp only [vbyte, vmark, Int.toNat_natCast, UInt8.toNat_ofNat', Nat.reduceMul, Nat.reduceSub, Nat.reducePow, Int.reducePow, if_true, reduceIte, Nat.reduceEqDiff]
    omega
theorem u8_join (a b : Int) (h0 : 0 ≤ a) (h1 : a < 64) (h2 : 0 ≤ b) (h3 : b < 4) : bits .or .u8 a (b * 64) = a + b * 64 := by
  obtain ⟨A, rfl⟩ := Int.eq_ofNat_of_zero_le h0
  obtain ⟨B, rfl⟩ := Int.eq_ofNat_of_zero_le h2
  have e : ((B : Int) * 64) = ((B * 64 : Nat) : Int) := by omega
  have e2 := Nat.two_pow_add_eq_or_of_lt (i := 6) (b := A) (by omega) B
  rw [e, u8_or_nat _ _ (by omega) (by omega), Nat.mul_comm B 64, Nat.or_comm]
  have e3 : 64 * B ||| A = 64 * B + A := e2.symm
  rw [e3]; omega

theorem vhead (m a mk : Int) (h0 : 0 ≤ a) (h1 : a < 64) (hmk : len64 m - 1 = mk) (h2 : 0 ≤ mk) (h3 : mk < 4) : bits .or .u8 (a % 256) (wrap64 (len64 m - 1) % 256 * 64 % 256) = a + mk * 64 := by
  rw [hmk, IntWalk.wrap64_in _ (by omega), Int.emod_eq_of_lt (a := a) h0 (by omega), Int.emod_eq_of_lt (a := mk) h2 (by omega), Int.emod_eq_of_lt (a := mk * 64) (by omega) (by omega)]
  exact u8_join a mk h0 h1 h2 h3
theorem head1 (n : Int) (h0 : 0 ≤ n) (h : n < 2 ^ (8 * 1 - 2)) : ((vbyte n 1 0).toNat : Int) = bits .or .u8 (n % 256) (wrap64 (len64 1 - 1) % 256 * 64 % 256) := by
  have e := vbyte_zero n 1 h0 (by omega) h
  simp only [Nat.reduceMul, Nat.reduceSub, Int.reducePow] at h e
  rw [vhead 1 n 0 h0 (by omega) (by decide) (by omega) (by omega), e]; simp [vmark]
theorem head2 (n : Int) (h0 : 0 ≤ n) (h : n < 2 ^ (8 * 2 - 2)) : ((vbyte n 2 0).toNat : Int) = bits .or .u8 (n / 256 % 256) (wrap64 (len64 2 - 1) % 256 * 64 % 256) := by
  have e := vbyte_zero n 2 h0 (by omega) h
  simp only [Nat.reduceMul, Nat.reduceSub, Int.reducePow] at h e
  rw [vhead 2 (n / 256) 1 (by omega) (by omega) (by decide) (by omega) (by omega), e]; simp [vmark]
theorem head4 (n : Int) (h0 : 0 ≤ n) (h : n < 2 ^ (8 * 4 - 2)) : ((vbyte n 4 0).toNat : Int) = bits .or .u8 (n / 16777216 % 256) (wrap64 (len64 4 - 1) % 256 * 64 % 256) := by
  have e := vbyte_zero n 4 h0 (by omega) h
  simp only [Nat.reduceMul, Nat.reduceSub, Int.reducePow] at h e
  rw [vhead 4 (n / 16777216) 2 (by omega) (by omega) (by decide) (by omega) (by omega), e]; simp [vmark]
theorem head8 (n : Int) (h0 : 0 ≤ n) (h : n < 2 ^ (8 * 8 - 2)) : ((vbyte n 8 0).toNat : Int) = bits .or .u8 (n / 72057594037927936 % 256) (wrap64 (len64 8 - 1) % 256 * 64 % 256) := by
  have e := vbyte_zero n 8 h0 (by omega) h
  simp only [Nat.reduceMul, Nat.reduceSub, Int.reducePow] at h e
  rw [vhead 8 (n / 72057594037927936) 3 (by omega) (by omega) (by decide) (by omega) (by omega), e]; simp [vmark]

theorem headm (n : Int) (m : Nat) (h0 : 0 ≤ n) (hm : m = 1 ∨ m = 2 ∨ m = 4 ∨ m = 8) (h : n < 2 ^ (8 * m - 2)) : ((vbyte n m 0).toNat : Int) = bits .or .u8 (n / 2 ^ (8 * (m - 1)) % 256) (wrap64 (len64 (m : Int) - 1) % 256 * 64 % 256) := by
  rcases hm with rfl | rfl | rfl | rfl
  · have := head1 n h0 h; simpa using this
  · exact head2 n h0 h
  · exact head4 n h0 h
  · exact head8 n h0 h

set_option maxHeartbeats 400000 in
theorem bitslen_any (n : Int) (w : World) (h0 : 0 ≤ n) (hn : n ≤ 18446744073709551615) :
    Calls Tryd.prog 69 #[.int .u64 n] w fun e w' => e = .returned (.int .i64 (len64 n)) ∧ w = w' := by
  go_enter Tryd.func69, Tryd.ntmps69
  go_wp2_with (go_at_call 70; refine (len64_any _ _ (by omega) (by omega)).mono ?_; rintro e w' ⟨rfl, rfl⟩)
  go_ret
  exact ⟨rfl, rfl⟩

/-- A round's end: one byte more. -/
theorem put_step {E B : Nat} {w0 wr w' : World} {l : List UInt8} {n : Int} {m k : Nat} {v : Value} {A' : Option Addr} {c' : Nat} {x : Int} {o : Obj} (hk : k < m) (hx : ((vbyte n m k).toNat : Int) = x) (hbel : Below B w0 wr) (hB : B ≤ wr.heap.size)
    (hown : wr.ownsRow B E 1 v (l.length + k) (bv (l ++ (vbytes n m).take k)))
    (hown' : w'.ownsRow B E 1 (.slice A' (l.length + k + 1) c') (l.length + k + 1) (bv (l ++ (vbytes n m).take k) ++ [.int .u8 x])) (hg : (wr.alloc o).grownBy w' v.ownBlock) :
    w'.ownsRow B E 1 (.slice A' (l.length + k + 1) c') (l.length + k + 1) (bv (l ++ (vbytes n m).take (k + 1))) ∧ Below B w0 w' := by
  refine ⟨?_, (hbel.alloc hB _).grown hg (by simp; omega) fun j hj => (hown.lt j hj).1⟩
  rw [vbytes_take_succ _ _ _ hk, ← List.append_assoc, bv_append]
  have : bv [vbyte n m k] = [.int .u8 x] := by simp [bv, hx]
  rw [this]; exact hown'

set_option maxHeartbeats 1000000 in
theorem putlen_any (n : Int) (m : Nat) (l : List UInt8) (A : Option Addr) (c : Nat) (w : World) (hr : Rd w A (bv l)) (hl : l.length ≤ 70368744177664) (h0 : 0 ≤ n) (hn : n ≤ 4611686018427387903)
    (hm : m = 1 ∨ m = 2 ∨ m = 4 ∨ m = 8) (hnm : n < 2 ^ (8 * m - 2)) :
    Calls Tryd.prog 53 #[.slice A l.length c, .int .u64 n, .int .i64 m] w (RetS 5 w (l.length + m) (bv (l ++ vbytes n m))) := by
  have HM := Lib.hid hm
  have HN := Lib.hid hnm
  have hm1 : 1 ≤ m := by omega
  have hm8 : m ≤ 8 := by omega
  clear hm hnm
  go_enter Tryd.func53, Tryd.ntmps53
  go_wp2_with (at_builtin; refine wpList_app _ rfl _ _ 23 rfl w.heap.size 5 (.int .u8 0) 1 infoB Tryd.underlying23 rfl (.slice none 0 0) 0 [] rfl (World.ownsRow_nil _ _ _ _) A l.length c (bv l) rfl (by simp) hr (bv_one l) (by unfold maxLen; omega) (by omega) (Nat.le_refl _) ?_; intro A' c' w1 hown hgrow hat)
  have hbel := (Below.refl w.heap.size w).grown hgrow (Nat.le_refl _) (fun k hk => by simp [Value.ownBlock] at hk)
  simp only [Nat.zero_add, List.nil_append] at hown
  clear hgrow hat
  go_loopw [7, 13] (fun v i wr => ∃ (k : Nat) (A' : Option Addr) (c' : Nat), k ≤ m ∧ i = .int .i64 k ∧ v = .slice A' (l.length + k) c' ∧ wr.ownsRow w.heap.size 5 1 (.slice A' (l.length + k) c') (l.length + k) (bv (l ++ (vbytes n m).take k)) ∧ Below w.heap.size w wr) (fun _ i _ => m - (intOf i).toNat)
  case atStart => exact ⟨0, A', c', by omega, rfl, rfl, by simpa using hown, hbel⟩
  case round =>
    clear hown hbel
    obtain ⟨k, A2, c2, hk, rfl, rfl, hown, hbel⟩ := hrel
    have hsz := hbel.size
    by_cases hkm : k < m
    · by_cases hk0 : k = 0
      · subst hk0
        have hz : ((0 : Int) == 0) = true := rfl
        simp only [Nat.add_zero] at hown
        go_wp2_with (first | (go_at_call 69; refine (bitslen_any _ _ (by omega) (by omega)).mono ?_; rintro e w' ⟨rfl, rfl⟩) | (at_builtin; refine wpList_app _ rfl _ _ 23 rfl w.heap.size 5 (.int .u8 0) 1 infoB Tryd.underlying23 rfl (.slice A2 l.length c2) l.length _ rfl (hown.alloc _) (some ⟨wr.heap.size, 0, none⟩) 1 1 [.int .u8 _] rfl rfl (Rd.fresh _ _ _) (one_int _ _) (by unfold maxLen; omega) (by omega) (by simp; omega) ?_; intro A3 c3 w3 hown3 hgrow3 _))
        have R := put_step (m := m) (k := 0) (by omega) (headm n m h0 HM.out HN.out) hbel hsz hown hown3 hgrow3
        clear hown3 hgrow3 hown hbel
        go_wp2
        go_roundw
        case rel => exact ⟨1, A3, c3, by omega, rfl, rfl, R.1, R.2⟩
        case measure => simp [intOf]; omega
      · have hz : ((k : Int) == 0) = false := by rw [beq_eq_false_iff_ne]; omega
        go_wp2_with (at_builtin; refine wpList_app _ rfl _ _ 23 rfl w.heap.size 5 (.int .u8 0) 1 infoB Tryd.underlying23 rfl (.slice A2 (l.length + k) c2) (l.length + k) _ rfl (hown.alloc _) (some ⟨wr.heap.size, 0, none⟩) 1 1 [.int .u8 (n / 2 ^ (8 * (m - 1 - k)) % 256)] rfl rfl (Rd.fresh _ _ _) (one_int _ _) (by unfold maxLen; omega) (by omega) (by simp; omega) ?_; intro A3 c3 w3 hown3 hgrow3 _)
        have R := put_step hkm (vbyte_pos n m k h0 hk0) hbel hsz hown hown3 hgrow3
        clear hown3 hgrow3 hown hbel
        go_wp2
        go_roundw
        case rel => exact ⟨k + 1, A3, c3, by omega, by go_num, rfl, R.1, R.2⟩
        case measure => simp [intOf]; omega
    · have : k = m := by omega
      subst this
      go_wp2
      go_ret
      exact ⟨A2, c2, rfl, by simpa [vbytes_length, List.take_of_length_le] using hown, hbel⟩
end Go.Proofs.YtdldipkbknhhoaaDoor

/- varint.Put lays each number of 64 bits behind a slice, in new memory, in as many bytes as it must have (none above MaxVar). -/
namespace Go.Proofs.YtdldipkbknhhoaaDoor
open Go.RowKit

def vl (n : Int) : Nat := (vlen n).toNat
theorem vlen_nn (n : Int) : 0 ≤ vlen n := by unfold vlen; (repeat' split) <;> omega
theorem vl_cast (n : Int) : ((vl n : Nat) : Int) = vlen n := Int.toNat_of_nonneg (vlen_nn n)
theorem vl_zero {n : Int} (h : 4611686018427387903 < n) : vl n = 0 := by unfold vl; rw [vlen0 (by omega)]; rfl
theorem vl_fit {n : Int} (h : n ≤ 4611686018427387903) : (vl n = 1 ∨ vl n = 2 ∨ vl n = 4 ∨ vl n = 8) ∧ n < 2 ^ (8 * vl n - 2) := by
  by_cases c1 : n < 64
  · have : vl n = 1 := by unfold vl; rw [vlen1 c1]; rfl
    rw [this]; exact ⟨by omega, by simp only [Nat.reduceMul, Nat.reduceSub, Int.reducePow]; omega⟩
  by_cases c2 : n < 16384
  · have : vl n = 2 := by unfold vl; rw [vlen2 (by omega) c2]; rfl
    rw [this]; exact ⟨by omega, by simp only [Nat.reduceMul, Nat.reduceSub, Int.reducePow]; omega⟩
  by_cases c3 : n < 1073741824
  · have : vl n = 4 := by unfold vl; rw [vlen4 (by omega) c3]; rfl
    rw [this]; exact ⟨by omega, by simp only [Nat.reduceMul, Nat.reduceSub, Int.reducePow]; omega⟩
  · have : vl n = 8 := by unfold vl; rw [vlen8 (by omega) h]; rfl
    rw [this]; exact ⟨by omega, by simp only [Nat.reduceMul, Nat.reduceSub, Int.reducePow]; omega⟩

theorem vl_bd (n : Int) : vl n ≤ 8 := by
  by_cases h : n ≤ 4611686018427387903
  · have := (vl_fit h).1; omega
  · rw [vl_zero (by omega)]; omega

theorem RetS.of_drewN {E : TypeId} {w : World} {k n : Nat} {xs : List Value} {e : Ending} {w' : World} (h : RetS E (w.drewN k) n xs e w') : RetS E w n xs e w' := by
  obtain ⟨A, c, he, ho, hb⟩ := h
  exact ⟨A, c, he, ho, ⟨hb.os, hb.tape, hb.output, hb.size, hb.block⟩⟩

set_option maxHeartbeats 400000 in
theorem putlen0_any (n : Int) (l : List UInt8) (A : Option Addr) (c : Nat) (w : World) (hr : Rd w A (bv l)) (hl : l.length ≤ 70368744177664) :
    Calls Tryd.prog 53 #[.slice A l.length c, .int .u64 n, .int .i64 0] w (RetS 5 w l.length (bv l)) := by
  go_enter Tryd.func53, Tryd.ntmps53
  go_wp2_with (at_builtin; refine wpList_app _ rfl _ _ 23 rfl w.heap.size 5 (.int .u8 0) 1 infoB Tryd.underlying23 rfl (.slice none 0 0) 0 [] rfl (World.ownsRow_nil _ _ _ _) A l.length c (bv l) rfl (by simp) hr (bv_one l) (by unfold maxLen; omega) (by omega) (Nat.le_refl _) ?_; intro A' c' w1 hown hgrow hat)
  have hbel := (Below.refl w.heap.size w).grown hgrow (Nat.le_refl _) (fun k hk => by simp [Value.ownBlock] at hk)
  simp only [Nat.zero_add, List.nil_append] at hown
  clear hgrow hat
  refine wp_loop_rounds 1 ?_
  rw [rounds_succ]
  go_wp2
  go_ret
  exact ⟨A', c', rfl, hown, hbel⟩

set_option maxHeartbeats 400000 in
theorem put_any (n : Int) (l : List UInt8) (A : Option Addr) (c : Nat) (w : World) (hr : Rd w A (bv l)) (hl : l.length ≤ 70368744177664) (h0 : 0 ≤ n) (hn : n ≤ 18446744073709551615) :
    Calls Tryd.prog 37 #[.slice A l.length c, .int .u64 n] w (RetS 5 w (l.length + vl n) (bv (l ++ vbytes n (vl n)))) := by
  have HV := Lib.hid (vl_cast n)
  by_cases hm : n ≤ 4611686018427387903
  · have HF := Lib.hid (vl_fit hm)
    go_enter Tryd.func37, Tryd.ntmps37
    go_wp2_with fail
    refine (vlen_any n _ h0 hn).mono ?_
    rintro e w' ⟨rfl, k, rfl⟩
    rw [← HV.out]
    go_wp2_with fail
    refine (putlen_any n (vl n) l A c _ (hr.drewN k) hl h0 hm HF.out.1 HF.out.2).mono ?_
    rintro e w' ⟨A', c', rfl, hown, hbel⟩
    go_wp2
    go_ret
    exact RetS.of_drewN ⟨A', c', rfl, hown, hbel⟩
  · have h0' := Lib.hid (vl_zero (n := n) (by omega))
    have HZ := Lib.hid (vlen0 (n := n) (by omega))
    go_enter Tryd.func37, Tryd.ntmps37
    go_wp2_with fail
    refine (vlen_any n _ h0 hn).mono ?_
    rintro e w' ⟨rfl, k, rfl⟩
    rw [HZ.out]
    go_wp2_with fail
    refine (putlen0_any n l A c _ (hr.drewN k) hl).mono ?_
    rintro e w' ⟨A', c', rfl, hown, hbel⟩
    go_wp2
    go_ret
    rw [h0'.out]
    exact RetS.of_drewN ⟨A', c', rfl, by simpa [vbytes] using hown, hbel⟩
end Go.Proofs.YtdldipkbknhhoaaDoor

/- The reference's In lays a number that fits in 1, 2, 4 or 8 bytes behind a slice, in new memory. -/
namespace Go.Proofs.YtdldipkbknhhoaaDoor
open Go.RowKit

theorem or0 (a : Int) (h0 : 0 ≤ a) (h1 : a < 64) : bits .or .u8 (a % 64) 0 = a := by
  rw [Int.emod_eq_of_lt h0 h1]; have := u8_join a 0 h0 h1 (by omega) (by omega); simpa using this
theorem or64 (a : Int) (h0 : 0 ≤ a) (h1 : a < 64) : bits .or .u8 (a % 64) 64 = a + 64 := by
  rw [Int.emod_eq_of_lt h0 h1]; exact u8_join a 1 h0 h1 (by omega) (by omega)
theorem or128 (a : Int) (h0 : 0 ≤ a) (h1 : a < 64) : bits .or .u8 (a % 64) 128 = a + 128 := by
  rw [Int.emod_eq_of_lt h0 h1]; exact u8_join a 2 h0 h1 (by omega) (by omega)
theorem or192 (a : Int) (h0 : 0 ≤ a) (h1 : a < 64) : bits .or .u8 (a % 64) 192 = a + 192 := by
  rw [Int.emod_eq_of_lt h0 h1]; exact u8_join a 3 h0 h1 (by omega) (by omega)
theorem inhd1 (n : Int) (h0 : 0 ≤ n) (h : n < 64) : ((vbyte n 1 0).toNat : Int) = bits .or .u8 (n % 64) 0 := by
  have e := vbyte_zero n 1 h0 (by omega) (by simp only [Nat.reduceMul, Nat.reduceSub, Int.reducePow]; omega)
  simp only [Nat.reduceMul, Nat.reduceSub, Int.reducePow] at e
  rw [or0 (n) (by omega) (by omega), e]; simp [vmark]
theorem inhd2 (n : Int) (h0 : 0 ≤ n) (h : n < 16384) : ((vbyte n 2 0).toNat : Int) = bits .or .u8 (n / 256 % 64) 64 := by
  have e := vbyte_zero n 2 h0 (by omega) (by simp only [Nat.reduceMul, Nat.reduceSub, Int.reducePow]; omega)
  simp only [Nat.reduceMul, Nat.reduceSub, Int.reducePow] at e
  rw [or64 (n / 256) (by omega) (by omega), e]; simp [vmark]
theorem inhd4 (n : Int) (h0 : 0 ≤ n) (h : n < 1073741824) : ((vbyte n 4 0).toNat : Int) = bits .or .u8 (n / 16777216 % 64) 128 := by
  have e := vbyte_zero n 4 h0 (by omega) (by simp only [Nat.reduceMul, Nat.reduceSub, Int.reducePow]; omega)
  simp only [Nat.reduceMul, Nat.reduceSub, Int.reducePow] at e
  rw [or128 (n / 16777216) (by omega) (by omega), e]; simp [vmark]
theorem inhd8 (n : Int) (h0 : 0 ≤ n) (h : n ≤ 4611686018427387903) : ((vbyte n 8 0).toNat : Int) = bits .or .u8 (n / 72057594037927936 % 64) 192 := by
  have e := vbyte_zero n 8 h0 (by omega) (by simp only [Nat.reduceMul, Nat.reduceSub, Int.reducePow]; omega)
  simp only [Nat.reduceMul, Nat.reduceSub, Int.reducePow] at e
  rw [or192 (n / 72057594037927936) (by omega) (by omega), e]; simp [vmark]

set_option maxHeartbeats 1000000 in
theorem in1_any (n : Int) (l : List UInt8) (A : Option Addr) (c : Nat) (w : World) (hr : Rd w A (bv l)) (hl : l.length ≤ 70368744177664) (h0 : 0 ≤ n) (hn : n < 64) :
    Calls Tryd.prog 46 #[.slice A l.length c, .int .u64 n, .int .i64 1] w (RetS 5 w (l.length + 1) (bv (l ++ vbytes n 1))) := by
  go_enter Tryd.func46, Tryd.ntmps46
  go_wp2_with (at_builtin; refine wpList_app _ rfl _ _ 23 rfl w.heap.size 5 (.int .u8 0) 1 infoB Tryd.underlying23 rfl (.slice none 0 0) 0 [] rfl (World.ownsRow_nil _ _ _ _) A l.length c (bv l) rfl (by simp) hr (bv_one l) (by unfold maxLen; omega) (by omega) (Nat.le_refl _) ?_; intro A' c' w1 hown hgrow hat)
  have hbel := (Below.refl w.heap.size w).grown hgrow (Nat.le_refl _) (fun k hk => by simp [Value.ownBlock] at hk)
  simp only [Nat.zero_add, List.nil_append] at hown
  clear hgrow hat
  go_loopw [7, 8] (fun v i wr => ∃ (k : Nat) (A' : Option Addr) (c' : Nat), k ≤ 1 ∧ i = .int .i64 (0 - (k : Int)) ∧ v = .slice A' (l.length + k) c' ∧ wr.ownsRow w.heap.size 5 1 (.slice A' (l.length + k) c') (l.length + k) (bv (l ++ (vbytes n 1).take k)) ∧ Below w.heap.size w wr) (fun _ i _ => ((intOf i) + 1).toNat)
  case atStart => exact ⟨0, A', c', by omega, rfl, rfl, by simpa using hown, hbel⟩
  case round =>
    clear hown hbel
    obtain ⟨k, A2, c2, hk, rfl, rfl, hown, hbel⟩ := hrel
    have hsz := hbel.size
    by_cases hkm : k < 1
    · by_cases hk0 : k = 0
      · subst hk0
        simp only [Nat.add_zero] at hown
        simp only [Nat.add_zero, Int.natCast_zero, Int.sub_zero]
        go_wp2_with fail
        refine wp_loop_rounds 1 ?_
        iterate 0 (rw [rounds_succ]; go_wp2_with fail)
        rw [rounds_succ]
        go_wp2_with (at_builtin; refine wpList_app _ rfl _ _ 23 rfl w.heap.size 5 (.int .u8 0) 1 infoB Tryd.underlying23 rfl (.slice A2 l.length c2) l.length _ rfl (hown.alloc _) (some ⟨wr.heap.size, 0, none⟩) 1 1 [.int .u8 _] rfl rfl (Rd.fresh _ _ _) (one_int _ _) (by unfold maxLen; omega) (by omega) (by simp; omega) ?_; intro A3 c3 w3 hown3 hgrow3 _)
        have R := put_step (m := 1) (k := 0) (by omega) (inhd1 n h0 hn) hbel hsz hown hown3 hgrow3
        clear hown3 hgrow3 hown hbel
        go_wp2
        go_roundw
        case rel => exact ⟨1, A3, c3, by omega, by go_num, rfl, R.1, R.2⟩
        case measure => simp [intOf]
      · omega
    · have : k = 1 := by omega
      subst this
      go_wp2
      go_ret
      exact ⟨A2, c2, rfl, by simpa [vbytes_length, List.take_of_length_le] using hown, hbel⟩

set_option maxHeartbeats 1000000 in
theorem in2_any (n : Int) (l : List UInt8) (A : Option Addr) (c : Nat) (w : World) (hr : Rd w A (bv l)) (hl : l.length ≤ 70368744177664) (h0 : 0 ≤ n) (hn : n < 16384) :
    Calls Tryd.prog 46 #[.slice A l.length c, .int .u64 n, .int .i64 2] w (RetS 5 w (l.length + 2) (bv (l ++ vbytes n 2))) := by
  go_enter Tryd.func46, Tryd.ntmps46
  go_wp2_with (at_builtin; refine wpList_app _ rfl _ _ 23 rfl w.heap.size 5 (.int .u8 0) 1 infoB Tryd.underlying23 rfl (.slice none 0 0) 0 [] rfl (World.ownsRow_nil _ _ _ _) A l.length c (bv l) rfl (by simp) hr (bv_one l) (by unfold maxLen; omega) (by omega) (Nat.le_refl _) ?_; intro A' c' w1 hown hgrow hat)
  have hbel := (Below.refl w.heap.size w).grown hgrow (Nat.le_refl _) (fun k hk => by simp [Value.ownBlock] at hk)
  simp only [Nat.zero_add, List.nil_append] at hown
  clear hgrow hat
  go_loopw [7, 8] (fun v i wr => ∃ (k : Nat) (A' : Option Addr) (c' : Nat), k ≤ 2 ∧ i = .int .i64 (1 - (k : Int)) ∧ v = .slice A' (l.length + k) c' ∧ wr.ownsRow w.heap.size 5 1 (.slice A' (l.length + k) c') (l.length + k) (bv (l ++ (vbytes n 2).take k)) ∧ Below w.heap.size w wr) (fun _ i _ => ((intOf i) + 1).toNat)
  case atStart => exact ⟨0, A', c', by omega, rfl, rfl, by simpa using hown, hbel⟩
  case round =>
    clear hown hbel
    obtain ⟨k, A2, c2, hk, rfl, rfl, hown, hbel⟩ := hrel
    have hsz := hbel.size
    by_cases hkm : k < 2
    · by_cases hk0 : k = 0
      · subst hk0
        simp only [Nat.add_zero] at hown
        simp only [Nat.add_zero, Int.natCast_zero, Int.sub_zero]
        go_wp2_with fail
        refine wp_loop_rounds 2 ?_
        iterate 1 (rw [rounds_succ]; go_wp2_with fail)
        rw [rounds_succ]
        go_wp2_with (at_builtin; refine wpList_app _ rfl _ _ 23 rfl w.heap.size 5 (.int .u8 0) 1 infoB Tryd.underlying23 rfl (.slice A2 l.length c2) l.length _ rfl (hown.alloc _) (some ⟨wr.heap.size, 0, none⟩) 1 1 [.int .u8 _] rfl rfl (Rd.fresh _ _ _) (one_int _ _) (by unfold maxLen; omega) (by omega) (by simp; omega) ?_; intro A3 c3 w3 hown3 hgrow3 _)
        have R := put_step (m := 2) (k := 0) (by omega) (inhd2 n h0 hn) hbel hsz hown hown3 hgrow3
        clear hown3 hgrow3 hown hbel
        go_wp2
        go_roundw
        case rel => exact ⟨1, A3, c3, by omega, by go_num, rfl, R.1, R.2⟩
        case measure => simp [intOf]
      · have hz : ((1 - (k : Int)) == 1) = false := by rw [beq_eq_false_iff_ne]; omega
        go_wp2_with (at_builtin; refine wpList_app _ rfl _ _ 23 rfl w.heap.size 5 (.int .u8 0) 1 infoB Tryd.underlying23 rfl (.slice A2 (l.length + k) c2) (l.length + k) _ rfl (hown.alloc _) (some ⟨wr.heap.size, 0, none⟩) 1 1 [.int .u8 _] rfl rfl (Rd.fresh _ _ _) (one_int _ _) (by unfold maxLen; omega) (by omega) (by simp; omega) ?_; intro A3 c3 w3 hown3 hgrow3 _)
        have R := put_step hkm (vbyte_pos n 2 k h0 hk0) hbel hsz hown hown3 hgrow3
        clear hown3 hgrow3 hown hbel
        go_wp2
        go_roundw
        case rel => exact ⟨k + 1, A3, c3, by omega, by go_num, rfl, R.1, R.2⟩
        case measure => simp [intOf]; omega
    · have : k = 2 := by omega
      subst this
      go_wp2
      go_ret
      exact ⟨A2, c2, rfl, by simpa [vbytes_length, List.take_of_length_le] using hown, hbel⟩

set_option maxHeartbeats 1000000 in
theorem in4_any (n : Int) (l : List UInt8) (A : Option Addr) (c : Nat) (w : World) (hr : Rd w A (bv l)) (hl : l.length ≤ 70368744177664) (h0 : 0 ≤ n) (hn : n < 1073741824) :
    Calls Tryd.prog 46 #[.slice A l.length c, .int .u64 n, .int .i64 4] w (RetS 5 w (l.length + 4) (bv (l ++ vbytes n 4))) := by
  go_enter Tryd.func46, Tryd.ntmps46
  go_wp2_with (at_builtin; refine wpList_app _ rfl _ _ 23 rfl w.heap.size 5 (.int .u8 0) 1 infoB Tryd.underlying23 rfl (.slice none 0 0) 0 [] rfl (World.ownsRow_nil _ _ _ _) A l.length c (bv l) rfl (by simp) hr (bv_one l) (by unfold maxLen; omega) (by omega) (Nat.le_refl _) ?_; intro A' c' w1 hown hgrow hat)
  have hbel := (Below.refl w.heap.size w).grown hgrow (Nat.le_refl _) (fun k hk => by simp [Value.ownBlock] at hk)
  simp only [Nat.zero_add, List.nil_append] at hown
  clear hgrow hat
  go_loopw [7, 8] (fun v i wr => ∃ (k : Nat) (A' : Option Addr) (c' : Nat), k ≤ 4 ∧ i = .int .i64 (3 - (k : Int)) ∧ v = .slice A' (l.length + k) c' ∧ wr.ownsRow w.heap.size 5 1 (.slice A' (l.length + k) c') (l.length + k) (bv (l ++ (vbytes n 4).take k)) ∧ Below w.heap.size w wr) (fun _ i _ => ((intOf i) + 1).toNat)
  case atStart => exact ⟨0, A', c', by omega, rfl, rfl, by simpa using hown, hbel⟩
  case round =>
    clear hown hbel
    obtain ⟨k, A2, c2, hk, rfl, rfl, hown, hbel⟩ := hrel
    have hsz := hbel.size
    by_cases hkm : k < 4
    · by_cases hk0 : k = 0
      · subst hk0
        simp only [Nat.add_zero] at hown
        simp only [Nat.add_zero, Int.natCast_zero, Int.sub_zero]
        go_wp2_with fail
        refine wp_loop_rounds 3 ?_
        iterate 2 (rw [rounds_succ]; go_wp2_with fail)
        rw [rounds_succ]
        go_wp2_with (at_builtin; refine wpList_app _ rfl _ _ 23 rfl w.heap.size 5 (.int .u8 0) 1 infoB Tryd.underlying23 rfl (.slice A2 l.length c2) l.length _ rfl (hown.alloc _) (some ⟨wr.heap.size, 0, none⟩) 1 1 [.int .u8 _] rfl rfl (Rd.fresh _ _ _) (one_int _ _) (by unfold maxLen; omega) (by omega) (by simp; omega) ?_; intro A3 c3 w3 hown3 hgrow3 _)
        have R := put_step (m := 4) (k := 0) (by omega) (inhd4 n h0 hn) hbel hsz hown hown3 hgrow3
        clear hown3 hgrow3 hown hbel
        go_wp2
        go_roundw
        case rel => exact ⟨1, A3, c3, by omega, by go_num, rfl, R.1, R.2⟩
        case measure => simp [intOf]
      · have hz : ((3 - (k : Int)) == 3) = false := by rw [beq_eq_false_iff_ne]; omega
        go_wp2_with (at_builtin; refine wpList_app _ rfl _ _ 23 rfl w.heap.size 5 (.int .u8 0) 1 infoB Tryd.underlying23 rfl (.slice A2 (l.length + k) c2) (l.length + k) _ rfl (hown.alloc _) (some ⟨wr.heap.size, 0, none⟩) 1 1 [.int .u8 _] rfl rfl (Rd.fresh _ _ _) (one_int _ _) (by unfold maxLen; omega) (by omega) (by simp; omega) ?_; intro A3 c3 w3 hown3 hgrow3 _)
        have R := put_step hkm (vbyte_pos n 4 k h0 hk0) hbel hsz hown hown3 hgrow3
        clear hown3 hgrow3 hown hbel
        go_wp2
        go_roundw
        case rel => exact ⟨k + 1, A3, c3, by omega, by go_num, rfl, R.1, R.2⟩
        case measure => simp [intOf]; omega
    · have : k = 4 := by omega
      subst this
      go_wp2
      go_ret
      exact ⟨A2, c2, rfl, by simpa [vbytes_length, List.take_of_length_le] using hown, hbel⟩

set_option maxHeartbeats 1000000 in
theorem in8_any (n : Int) (l : List UInt8) (A : Option Addr) (c : Nat) (w : World) (hr : Rd w A (bv l)) (hl : l.length ≤ 70368744177664) (h0 : 0 ≤ n) (hn : n ≤ 4611686018427387903) :
    Calls Tryd.prog 46 #[.slice A l.length c, .int .u64 n, .int .i64 8] w (RetS 5 w (l.length + 8) (bv (l ++ vbytes n 8))) := by
  go_enter Tryd.func46, Tryd.ntmps46
  go_wp2_with (at_builtin; refine wpList_app _ rfl _ _ 23 rfl w.heap.size 5 (.int .u8 0) 1 infoB Tryd.underlying23 rfl (.slice none 0 0) 0 [] rfl (World.ownsRow_nil _ _ _ _) A l.length c (bv l) rfl (by simp) hr (bv_one l) (by unfold maxLen; omega) (by omega) (Nat.le_refl _) ?_; intro A' c' w1 hown hgrow hat)
  have hbel := (Below.refl w.heap.size w).grown hgrow (Nat.le_refl _) (fun k hk => by simp [Value.ownBlock] at hk)
  simp only [Nat.zero_add, List.nil_append] at hown
  clear hgrow hat
  go_loopw [7, 8] (fun v i wr => ∃ (k : Nat) (A' : Option Addr) (c' : Nat), k ≤ 8 ∧ i = .int .i64 (7 - (k : Int)) ∧ v = .slice A' (l.length + k) c' ∧ wr.ownsRow w.heap.size 5 1 (.slice A' (l.length + k) c') (l.length + k) (bv (l ++ (vbytes n 8).take k)) ∧ Below w.heap.size w wr) (fun _ i _ => ((intOf i) + 1).toNat)
  case atStart => exact ⟨0, A', c', by omega, rfl, rfl, by simpa using hown, hbel⟩
  case round =>
    clear hown hbel
    obtain ⟨k, A2, c2, hk, rfl, rfl, hown, hbel⟩ := hrel
    have hsz := hbel.size
    by_cases hkm : k < 8
    · by_cases hk0 : k = 0
      · subst hk0
        simp only [Nat.add_zero] at hown
        simp only [Nat.add_zero, Int.natCast_zero, Int.sub_zero]
        go_wp2_with fail
        refine wp_loop_rounds 4 ?_
        iterate 3 (rw [rounds_succ]; go_wp2_with fail)
        rw [rounds_succ]
        go_wp2_with (at_builtin; refine wpList_app _ rfl _ _ 23 rfl w.heap.size 5 (.int .u8 0) 1 infoB Tryd.underlying23 rfl (.slice A2 l.length c2) l.length _ rfl (hown.alloc _) (some ⟨wr.heap.size, 0, none⟩) 1 1 [.int .u8 _] rfl rfl (Rd.fresh _ _ _) (one_int _ _) (by unfold maxLen; omega) (by omega) (by simp; omega) ?_; intro A3 c3 w3 hown3 hgrow3 _)
        have R := put_step (m := 8) (k := 0) (by omega) (inhd8 n h0 hn) hbel hsz hown hown3 hgrow3
        clear hown3 hgrow3 hown hbel
        go_wp2
        go_roundw
        case rel => exact ⟨1, A3, c3, by omega, by go_num, rfl, R.1, R.2⟩
        case measure => simp [intOf]
      · have hz : ((7 - (k : Int)) == 7) = false := by rw [beq_eq_false_iff_ne]; omega
        go_wp2_with (at_builtin; refine wpList_app _ rfl _ _ 23 rfl w.heap.size 5 (.int .u8 0) 1 infoB Tryd.underlying23 rfl (.slice A2 (l.length + k) c2) (l.length + k) _ rfl (hown.alloc _) (some ⟨wr.heap.size, 0, none⟩) 1 1 [.int .u8 _] rfl rfl (Rd.fresh _ _ _) (one_int _ _) (by unfold maxLen; omega) (by omega) (by simp; omega) ?_; intro A3 c3 w3 hown3 hgrow3 _)
        have R := put_step hkm (vbyte_pos n 8 k h0 hk0) hbel hsz hown hown3 hgrow3
        clear hown3 hgrow3 hown hbel
        go_wp2
        go_roundw
        case rel => exact ⟨k + 1, A3, c3, by omega, by go_num, rfl, R.1, R.2⟩
        case measure => simp [intOf]; omega
    · have : k = 8 := by omega
      subst this
      go_wp2
      go_ret
      exact ⟨A2, c2, rfl, by simpa [vbytes_length, List.take_of_length_le] using hown, hbel⟩
end Go.Proofs.YtdldipkbknhhoaaDoor
