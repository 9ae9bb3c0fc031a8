/- SameNums tells whether two slices read alike, and only draws. -/
import Derived.Test.YtgmanhbfdjlhbaaNv
namespace Go.Proofs.Ytgmanhbfdjlhbaa
open Go.RowKit

set_option maxHeartbeats 400000 in
theorem samen_any (l m : List Nat) (A1 A2 : Option Addr) (c1 c2 : Nat) (w : World) (h1 : Rd w A1 (nv l)) (h2 : Rd w A2 (nv m)) (hl : l.length ≤ 140737488355328) (hm : m.length ≤ 140737488355328) :
    Calls Try.prog 19 #[.slice A1 l.length c1, .slice A2 m.length c2] w fun e w' => e = .returned (.bool (decide (l = m))) ∧ ∃ k, w' = w.drewN k := by
  by_cases hlen : l.length = m.length
  · have hb : ((l.length : Int) != (m.length : Int)) = false := by rw [hlen]; simp
    go_enter Try.func19, Try.ntmps19
    have HL := Lib.hid hlen
    clear hlen
    go_wp2
    clear hb
    go_loopw [5] (fun i wr => ∃ k q : Nat, k ≤ l.length ∧ i = .int .i64 k ∧ wr = w.drewN q ∧ l.take k = m.take k) (fun i _ => l.length - (intOf i).toNat)
    case atStart => exact ⟨0, 0, by omega, rfl, rfl, rfl⟩
    case round =>
      obtain ⟨k, q, hk, rfl, rfl, htake⟩ := hrel
      have HT := Lib.hid htake
      clear htake
      by_cases hkl : k < l.length
      · have hkm : k < m.length := by have := HL.out; omega
        obtain ⟨b1, o1, rfl, g1⟩ := h1.at_ (k := k) (by simpa using hkl)
        obtain ⟨b2, o2, rfl, g2⟩ := h2.at_ (k := k) (by simpa using hkm)
        simp only [nv, List.getElem_map] at g1 g2
        by_cases hd : l[k] = m[k]
        · have HD := Lib.hid hd
          have hne : ((l[k] : Int) != (m[k] : Int)) = false := by rw [hd]; simp
          clear hd
          go_wp2
          go_quiet (fail)
          go_wp2
          go_roundw
          case rel => exact ⟨k + 1, q + nq, by omega, by go_num, rfl, by rw [List.take_succ_eq_append_getElem hkl, List.take_succ_eq_append_getElem hkm, HT.out, HD.out]⟩
          case measure => simp [intOf]; omega
        · have hne : ((l[k] : Int) != (m[k] : Int)) = true := by
            rw [bne_iff_ne]; intro h; exact hd (by exact_mod_cast h)
          have HD := Lib.hid hd
          clear hd
          go_wp2
          go_quiet (fail)
          go_wp2
          go_ret
          refine ⟨ret_bool ?_, q + nq, by rw [World.drewN_drewN]⟩
          have := HD.out
          exact (decide_eq_false (fun e => this (by simp only [e]))).symm
      · have hkl' : k = l.length := by omega
        go_wp2
        go_ret
        refine ⟨ret_bool ?_, _, rfl⟩
        have h1 := HT.out
        have h2 := HL.out
        rw [hkl', List.take_length, h2, List.take_length] at h1
        exact (decide_eq_true h1).symm
  · have hb : ((l.length : Int) != (m.length : Int)) = true := by rw [bne_iff_ne]; omega
    have HL := Lib.hid hlen
    clear hlen
    go_enter Try.func19, Try.ntmps19
    go_wp2
    go_ret
    refine ⟨ret_bool ?_, 0, rfl⟩
    have := HL.out
    exact (decide_eq_false (fun e => this (by rw [e]))).symm
end Go.Proofs.Ytgmanhbfdjlhbaa
