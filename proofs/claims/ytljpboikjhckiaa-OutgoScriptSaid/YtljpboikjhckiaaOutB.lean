/- outgo: find, count, Sent, Left, Done: what they return. -/
import Derived.Test.YtljpboikjhckiaaOutA
namespace Go.Proofs.Ytljpboikjhckiaa
open Go.RowKit

section
variable {w w' : World} {p g n : Nat} {AD : Option Addr} {cD : Nat} {D S : List UInt8}
theorem idxS (h : IsOut w p g n AD cD D S) (x : UInt8) (k : Nat) :
    Calls Try.prog 35 #[.slice (some ⟨g, 0, none⟩) n (n + 1), .int .u8 x.toNat] (w.drewN k) fun e w' => e = .returned (.int .i64 (fidb (S.take n) x)) ∧ w.drewN k = w' := by
  have hl := h.lS
  have hs := h.small
  have := indexb_any (S.take n) x (some ⟨g, 0, none⟩) (n + 1) (w.drewN k) (by rw [bv, List.map_take]; exact (h.rdS.take n).drewN k) (by simp; omega)
  rwa [show (S.take n).length = n from by simp; omega] at this

set_option maxHeartbeats 2000000 in
theorem find_any (h : IsOut w p g n AD cD D S) (x : UInt8) :
    Calls Try.prog 32 #[.pointer (some ⟨p, 0, none⟩), .int .u8 x.toNat] w fun e w' => e = .returned (.int .i64 (fidb (S.take n) x)) ∧ ∃ k, w' = w.drewN k := by
  have c0 := wrote_cell h.cell 0 _ rfl
  have c1 := wrote_cell h.cell 1 _ rfl
  have hs := h.small
  have CI := Lib.hid (idxS h x)
  have HC := cut_h (P := Try.prog) Try.underlying22 infoB (some ⟨g, 0, none⟩) (n + 1) (n + 1) n (by omega)
  clear h
  go_enter Try.func32, Try.ntmps32
  go_wp2_with fail
  go_quiet ((go_at_call 35; exact quiet_left (CI.out _)))
  go_wp2_with fail
  go_ret
  exact ⟨rfl, _, rfl⟩

/-- How many of the bytes are not of a kind. -/
def cntNe (l : List UInt8) (x : UInt8) : Nat := (l.filter (· != x)).length
theorem cntNe_snoc (l : List UInt8) (x : UInt8) (k : Nat) (hk : k < l.length) : cntNe (l.take (k + 1)) x = cntNe (l.take k) x + if l[k] = x then 0 else 1 := by
  unfold cntNe
  rw [List.take_succ_eq_append_getElem hk, List.filter_append, List.length_append]
  congr 1
  by_cases h : l[k] = x
  · rw [if_pos h]; simp [h]
  · rw [if_neg h]
    have : (l[k] != x) = true := bne_iff_ne.2 h
    simp [List.filter_cons, this]
theorem cntNe_le (l : List UInt8) (x : UInt8) : cntNe l x ≤ l.length := List.length_filter_le _ _

set_option maxHeartbeats 2000000 in
theorem count_any (h : IsOut w p g n AD cD D S) (x : UInt8) :
    Calls Try.prog 31 #[.pointer (some ⟨p, 0, none⟩), .int .u8 x.toNat] w fun e w' => e = .returned (.int .i64 (cntNe (S.take n) x)) ∧ ∃ k, w' = w.drewN k := by
  have c0 := wrote_cell h.cell 0 _ rfl
  have c1 := wrote_cell h.cell 1 _ rfl
  have hs := h.small
  have hl := h.lS
  have hr := h.rdS
  have HC := cut_h (P := Try.prog) Try.underlying22 infoB (some ⟨g, 0, none⟩) (n + 1) (n + 1) n (by omega)
  replace hl := Lib.hid hl
  clear h
  go_enter Try.func31, Try.ntmps31
  go_wp2_with fail
  go_quiet (fail)
  go_wp2_with fail
  go_loop [5, 21] (fun c i => ∃ k q : Nat, k ≤ n ∧ q ≤ k ∧ i = .int .i64 k ∧ c = .int .i64 q ∧ Hid (cntNe (S.take k) x = q)) (fun _ i => n - (intOf i).toNat)
  case atStart => exact ⟨0, 0, by omega, by omega, rfl, rfl, Lib.hid (by simp [cntNe])⟩
  case round =>
    obtain ⟨k, q, hk, hq, rfl, rfl, HQ⟩ := hrel
    by_cases hkn : k < n
    · obtain ⟨b1, o1, e1, g1⟩ := hr.at_ (k := k) (by have := hl.out; simp; omega)
      injection e1 with e1
      injection e1 with e1 e2
      subst e1 e2
      simp only [bv, List.getElem_map, Nat.zero_add] at g1
      have hs2 := cntNe_snoc S x k (by have := hl.out; omega)
      obtain ⟨v, hv⟩ : ∃ v, S[k]'(by have := hl.out; omega) = v := ⟨_, rfl⟩
      rw [hv] at g1 hs2
      rw [HQ.out] at hs2
      clear hv HQ
      by_cases hvx : v = x
      · subst hvx
        rw [if_pos rfl] at hs2
        replace hs2 := Lib.hid hs2
        go_wp2_with fail
        go_round
        case rel => exact ⟨k + 1, q, by omega, by omega, by go_num, rfl, Lib.hid hs2.out⟩
        case measure => simp [intOf]; omega
      · rw [if_neg hvx] at hs2
        have hne := u8_ne' hvx
        replace hs2 := Lib.hid hs2
        replace hvx := Lib.hid hvx
        go_wp2_with fail
        go_round
        case rel => exact ⟨k + 1, q + 1, by omega, by omega, by go_num, by go_num, hs2⟩
        case measure => simp [intOf]; omega
    · have hk2 : k = n := by omega
      subst hk2
      go_wp2_with fail
      go_ret
      exact ⟨ret_int (by rw [HQ.out]), _, rfl⟩
theorem sent_any (h : IsOut w p g n AD cD D S) :
    Calls Try.prog 21 #[.pointer (some ⟨p, 0, none⟩)] w fun e w' => e = .returned (.int .i64 (cntNe (S.take n) 0)) ∧ ∃ k, w' = w.drewN k := by
  have CC := Lib.hid (count_any h 0)
  go_enter Try.func21, Try.ntmps21
  go_wp2_with fail
  refine CC.out.mono ?_
  rintro e w' ⟨rfl, k, rfl⟩
  go_wp2_with fail
  go_ret
  exact ⟨rfl, _, rfl⟩
theorem left_any (h : IsOut w p g n AD cD D S) :
    Calls Try.prog 22 #[.pointer (some ⟨p, 0, none⟩)] w fun e w' => e = .returned (.int .i64 (cntNe (S.take n) 3)) ∧ ∃ k, w' = w.drewN k := by
  have CC := Lib.hid (count_any h 3)
  go_enter Try.func22, Try.ntmps22
  go_wp2_with fail
  refine CC.out.mono ?_
  rintro e w' ⟨rfl, k, rfl⟩
  go_wp2_with fail
  go_ret
  exact ⟨rfl, _, rfl⟩
def odone (S : List UInt8) (n : Nat) : Bool := decide (cntNe (S.take n) 3 = 0) && decide (S[n]? = some 3)
set_option maxHeartbeats 2000000 in
theorem done_any (h : IsOut w p g n AD cD D S) :
    Calls Try.prog 23 #[.pointer (some ⟨p, 0, none⟩)] w fun e w' => e = .returned (.bool (odone S n)) ∧ ∃ k, w' = w.drewN k := by
  have CC := Lib.hid (fun k => count_any (h.drewN k) 3)
  have c0 := wrote_cell h.cell 0 _ rfl
  have c1 := wrote_cell h.cell 1 _ rfl
  have hs := h.small
  have hl := h.lS
  obtain ⟨b1, o1, e1, g1⟩ := h.rdS.at_ (k := n) (by simp; omega)
  injection e1 with e1
  injection e1 with e1 e2
  subst e1 e2
  simp only [bv, List.getElem_map, Nat.zero_add] at g1
  obtain ⟨v, hv⟩ : ∃ v, S[n]'(by omega) = v := ⟨_, rfl⟩
  have hv' : S[n]? = some v := by rw [List.getElem?_eq_getElem (by omega), hv]
  rw [hv] at g1
  obtain ⟨q, hq⟩ : ∃ q, cntNe (S.take n) 3 = q := ⟨_, rfl⟩
  rw [hq] at CC
  have HO : Hid (odone S n = (decide (q = 0) && decide (v = 3))) := Lib.hid (by unfold odone; rw [hq, hv']; simp)
  clear hv hv' hq h
  replace hl := Lib.hid hl
  rw [HO.out]
  clear HO
  by_cases hq0 : q = 0
  · subst hq0
    rw [decide_eq_true rfl, Bool.true_and]
    by_cases hv3 : v = 3
    · subst hv3
      go_enter Try.func23, Try.ntmps23
      go_wp2_with fail
      go_quiet ((go_at_call 31; first | exact Calls.quiet_of (CC.out _) | exact quiet_add (CC.out _)))
      go_wp2_with fail
      go_ret
      exact ⟨rfl, _, rfl⟩
    · have hne := u8_ne hv3
      rw [decide_eq_false hv3]
      replace hv3 := Lib.hid hv3
      have hne2 : ((v.toNat : Int) == 3) = false := hne
      go_enter Try.func23, Try.ntmps23
      go_wp2_with fail
      go_quiet ((go_at_call 31; first | exact Calls.quiet_of (CC.out _) | exact quiet_add (CC.out _)))
      go_wp2_with fail
      go_ret
      exact ⟨rfl, _, rfl⟩
  · have hne : ((q : Int) == 0) = false := beq_eq_false_iff_ne.2 (by omega)
    rw [decide_eq_false hq0, Bool.false_and]
    replace hq0 := Lib.hid hq0
    go_enter Try.func23, Try.ntmps23
    go_wp2_with fail
    go_quiet ((go_at_call 31; first | exact Calls.quiet_of (CC.out _) | exact quiet_add (CC.out _)))
    go_wp2_with fail
    go_ret
    exact ⟨rfl, _, rfl⟩
end
end Go.Proofs.Ytljpboikjhckiaa
