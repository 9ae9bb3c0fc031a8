/- varint.Get and the reference's Get return what vget says, of whatever slice of bytes they are handed (its capacity no less than its length), and turn nothing. -/
import Derived.Test.YthidklmbdgjilaaVarB
namespace Go.Proofs.Ythidklmbdgjilaa
open Go.RowKit

/-- The number that a row of bytes is, the highest first, behind what stands ahead. -/
def beN (n : Int) (l : List UInt8) : Int := l.foldl (fun n c => n * 256 + (c.toNat : Int)) n
theorem beN_nil (n : Int) : beN n [] = n := rfl
theorem beN_snoc (n : Int) (l : List UInt8) (c : UInt8) : beN n (l ++ [c]) = beN n l * 256 + (c.toNat : Int) := by simp [beN]
theorem beN_bd (n : Int) (l : List UInt8) (h0 : 0 ≤ n) (K : Int) (hn : n < K) : 0 ≤ beN n l ∧ beN n l < K * 256 ^ l.length := by
  induction l generalizing n K with
  | nil => simp [beN]; omega
  | cons c l ih =>
    have hc := UInt8.toNat_lt c
    have := ih (n * 256 + (c.toNat : Int)) (by omega) (K * 256) (by omega)
    simp only [beN, List.foldl_cons, List.length_cons] at this ⊢
    rw [Int.pow_succ, Int.mul_comm (256 ^ l.length) 256, ← Int.mul_assoc]
    exact this


theorem get1 {x : UInt8} {r : List UInt8} {k : Nat} (hk : k < r.length) {h : 1 + k < (x :: r).length} : (x :: r)[1 + k] = r[k] := by
  simp [Nat.add_comm 1 k]
theorem beN_take_succ (n : Int) (r : List UInt8) (k : Nat) (hk : k < r.length) : beN n (r.take (k + 1)) = beN n (r.take k) * 256 + (r[k].toNat : Int) := by
  rw [List.take_succ_eq_append_getElem hk, beN_snoc]
theorem pow256 (j : Nat) (h : j < 7) : (64 : Int) * 256 ^ j ≤ 18014398509481984 := by
  match j, h with
  | 0, _ | 1, _ | 2, _ | 3, _ | 4, _ | 5, _ | 6, _ => decide
theorem beN_bd64 (l : List UInt8) (x : Int) (hl : l.length < 7) : 0 ≤ beN (x % 64) l ∧ beN (x % 64) l < 18014398509481984 := by
  have h := beN_bd (x % 64) l (by omega) 64 (by omega)
  have := pow256 l.length hl
  omega

theorem or_join (a b : Int) (h0 : 0 ≤ a) (h1 : a < 18014398509481984) (h2 : 0 ≤ b) (h3 : b < 256) : bits .or .u64 (a * 256) b = a * 256 + b := by
  obtain ⟨A, rfl⟩ := Int.eq_ofNat_of_zero_le h0
  obtain ⟨B, rfl⟩ := Int.eq_ofNat_of_zero_le h2
  have e : ((A : Int) * 256) = ((A * 256 : Nat) : Int) := by omega
  have e2 := Nat.two_pow_add_eq_or_of_lt (i := 8) (b := B) (by omega) A
  rw [e, u64_or_nat _ _ (by omega) (by omega), Nat.mul_comm A 256]
  have e3 : 256 * A ||| B = 256 * A + B := e2.symm
  rw [e3]; omega
/-- How many bytes the number has that begins with c. -/
def vmany (c : UInt8) : Nat := 2 ^ (c.toNat / 64)
def vget (l : List UInt8) : Int × Int × Int :=
  match l with
  | [] => (0, 0, 3)
  | c :: r => if l.length < vmany c then (0, 0, 3) else (beN ((c.toNat : Int) % 64) (r.take (vmany c - 1)), vmany c, 0)

def vtup (x : Int × Int × Int) : Value := .tuple #[.int .u64 x.1, .int .i64 x.2.1, .int .i64 x.2.2]

set_option maxHeartbeats 400000 in
theorem get_any (l : List UInt8) (A : Option Addr) (c : Nat) (w : World) (hr : Rd w A (bv l)) (hc : l.length ≤ c) (hm : l.length ≤ 140737488355328) (hcc : c ≤ 9223372036854775807) :
    Calls Try.prog 9 #[.slice A l.length c] w fun e w' => e = .returned (vtup (vget l)) ∧ w = w' := by
  match l, hr, hc, hm with
  | [], hr, hc, hm =>
    go_enter Try.func9, Try.ntmps9
    go_wp2
    go_ret3
    exact ⟨rfl, rfl⟩
  | x :: r, hr, hc, hm =>
    obtain ⟨b, off, rfl, hcell⟩ := hr (by simp)
    have h0 := hcell 0 _ (bv_get (k := 0) (by simp))
    simp only [List.getElem_cons_zero, Nat.add_zero] at h0
    have hx := UInt8.toNat_lt x
    simp only [List.length_cons] at hc hm
    have hq : x.toNat / 64 = 0 ∨ x.toNat / 64 = 1 ∨ x.toNat / 64 = 2 ∨ x.toNat / 64 = 3 := by omega
    have hz : ((r.length : Int) + 1 == 0) = false := by rw [beq_eq_false_iff_ne]; omega
    have w1 : wrap64 1 = 1 := by unfold wrap64; omega
    have w2 : wrap64 2 = 2 := by unfold wrap64; omega
    have w4 : wrap64 4 = 4 := by unfold wrap64; omega
    have w8 : wrap64 8 = 8 := by unfold wrap64; omega
    rcases hq with hq | hq | hq | hq
    · have hv : vget (x :: r) = if r.length + 1 < 1 then (0, 0, 3) else (beN ((x.toNat : Int) % 64) (r.take 0), 1, 0) := by simp [vget, vmany, hq]
      have HV := Lib.hid hv
      clear hv
      have hge : 0 ≤ r.length := by omega
      go_enter Try.func9, Try.ntmps9
      go_wp2
      all_goals
        go_loop [6, 36] (fun n i => ∃ k : Nat, k ≤ 0 ∧ n = .int .u64 (beN ((x.toNat : Int) % 64) (r.take k)) ∧ i = .int .i64 k) (fun _ i => 0 - (intOf i).toNat)
        case atStart => exact ⟨0, by omega, rfl, rfl⟩
        case round =>
          obtain ⟨k, hk, rfl, rfl⟩ := hrel
          have hk' : k = 0 := by omega
          subst hk'
          go_wp2
          go_ret3
          exact ⟨by rw [HV.out, if_neg (by omega)]; rfl, rfl⟩
    · have hv : vget (x :: r) = if r.length + 1 < 2 then (0, 0, 3) else (beN ((x.toNat : Int) % 64) (r.take 1), 2, 0) := by simp [vget, vmany, hq]
      have HV := Lib.hid hv
      clear hv
      by_cases hlt : r.length + 1 < 2
      · go_enter Try.func9, Try.ntmps9
        go_wp2
        go_ret3
        exact ⟨by rw [HV.out, if_pos hlt]; rfl, rfl⟩
      · have hge : 1 ≤ r.length := by omega
        go_enter Try.func9, Try.ntmps9
        go_wp2
        all_goals
          go_loop [6, 36] (fun n i => ∃ k : Nat, k ≤ 1 ∧ n = .int .u64 (beN ((x.toNat : Int) % 64) (r.take k)) ∧ i = .int .i64 k) (fun _ i => 1 - (intOf i).toNat)
          case atStart => exact ⟨0, by omega, rfl, rfl⟩
          case round =>
            obtain ⟨k, hk, rfl, rfl⟩ := hrel
            by_cases hkl : k < 1
            · have hg := hcell (1 + k) _ (bv_get (l := x :: r) (by simp; omega))
              rw [← Nat.add_assoc, get1 (by omega)] at hg
              have hb := beN_bd64 (r.take k) (x.toNat : Int) (by simp; omega)
              have hs := Lib.hid (beN_take_succ ((x.toNat : Int) % 64) r k (by omega))
              have hcl := UInt8.toNat_lt (r[k]'(by omega))
              go_wp2
              go_round
              case rel => exact ⟨k + 1, by omega, by rw [hs.out, or_join _ _ hb.1 hb.2 (by omega) (by omega)], by go_num⟩
              case measure => simp [intOf]; omega
            · have hk' : k = 1 := by omega
              subst hk'
              go_wp2
              go_ret3
              exact ⟨by rw [HV.out, if_neg (by omega)]; rfl, rfl⟩
    · have hv : vget (x :: r) = if r.length + 1 < 4 then (0, 0, 3) else (beN ((x.toNat : Int) % 64) (r.take 3), 4, 0) := by simp [vget, vmany, hq]
      have HV := Lib.hid hv
      clear hv
      by_cases hlt : r.length + 1 < 4
      · go_enter Try.func9, Try.ntmps9
        go_wp2
        go_ret3
        exact ⟨by rw [HV.out, if_pos hlt]; rfl, rfl⟩
      · have hge : 3 ≤ r.length := by omega
        go_enter Try.func9, Try.ntmps9
        go_wp2
        all_goals
          go_loop [6, 36] (fun n i => ∃ k : Nat, k ≤ 3 ∧ n = .int .u64 (beN ((x.toNat : Int) % 64) (r.take k)) ∧ i = .int .i64 k) (fun _ i => 3 - (intOf i).toNat)
          case atStart => exact ⟨0, by omega, rfl, rfl⟩
          case round =>
            obtain ⟨k, hk, rfl, rfl⟩ := hrel
            by_cases hkl : k < 3
            · have hg := hcell (1 + k) _ (bv_get (l := x :: r) (by simp; omega))
              rw [← Nat.add_assoc, get1 (by omega)] at hg
              have hb := beN_bd64 (r.take k) (x.toNat : Int) (by simp; omega)
              have hs := Lib.hid (beN_take_succ ((x.toNat : Int) % 64) r k (by omega))
              have hcl := UInt8.toNat_lt (r[k]'(by omega))
              go_wp2
              go_round
              case rel => exact ⟨k + 1, by omega, by rw [hs.out, or_join _ _ hb.1 hb.2 (by omega) (by omega)], by go_num⟩
              case measure => simp [intOf]; omega
            · have hk' : k = 3 := by omega
              subst hk'
              go_wp2
              go_ret3
              exact ⟨by rw [HV.out, if_neg (by omega)]; rfl, rfl⟩
    · have hv : vget (x :: r) = if r.length + 1 < 8 then (0, 0, 3) else (beN ((x.toNat : Int) % 64) (r.take 7), 8, 0) := by simp [vget, vmany, hq]
      have HV := Lib.hid hv
      clear hv
      by_cases hlt : r.length + 1 < 8
      · go_enter Try.func9, Try.ntmps9
        go_wp2
        go_ret3
        exact ⟨by rw [HV.out, if_pos hlt]; rfl, rfl⟩
      · have hge : 7 ≤ r.length := by omega
        go_enter Try.func9, Try.ntmps9
        go_wp2
        all_goals
          go_loop [6, 36] (fun n i => ∃ k : Nat, k ≤ 7 ∧ n = .int .u64 (beN ((x.toNat : Int) % 64) (r.take k)) ∧ i = .int .i64 k) (fun _ i => 7 - (intOf i).toNat)
          case atStart => exact ⟨0, by omega, rfl, rfl⟩
          case round =>
            obtain ⟨k, hk, rfl, rfl⟩ := hrel
            by_cases hkl : k < 7
            · have hg := hcell (1 + k) _ (bv_get (l := x :: r) (by simp; omega))
              rw [← Nat.add_assoc, get1 (by omega)] at hg
              have hb := beN_bd64 (r.take k) (x.toNat : Int) (by simp; omega)
              have hs := Lib.hid (beN_take_succ ((x.toNat : Int) % 64) r k (by omega))
              have hcl := UInt8.toNat_lt (r[k]'(by omega))
              go_wp2
              go_round
              case rel => exact ⟨k + 1, by omega, by rw [hs.out, or_join _ _ hb.1 hb.2 (by omega) (by omega)], by go_num⟩
              case measure => simp [intOf]; omega
            · have hk' : k = 7 := by omega
              subst hk'
              go_wp2
              go_ret3
              exact ⟨by rw [HV.out, if_neg (by omega)]; rfl, rfl⟩
theorem get1' {x : UInt8} {r : List UInt8} {k : Nat} (hk : k < r.length) {h : k + 1 < (x :: r).length} : (x :: r)[k + 1] = r[k] := rfl
set_option maxHeartbeats 400000 in
theorem refget_any (l : List UInt8) (A : Option Addr) (c : Nat) (w : World) (hr : Rd w A (bv l)) (hc : l.length ≤ c) (hm : l.length ≤ 140737488355328) (_hcc : c ≤ 9223372036854775807) :
    Calls Try.prog 10 #[.slice A l.length c] w fun e w' => e = .returned (vtup (vget l)) ∧ w = w' := by
  match l, hr, hc, hm with
  | [], hr, hc, hm =>
    go_enter Try.func10, Try.ntmps10
    go_wp2
    go_ret3
    exact ⟨rfl, rfl⟩
  | x :: r, hr, hc, hm =>
    obtain ⟨b, off, rfl, hcell⟩ := hr (by simp)
    have h0 := hcell 0 _ (bv_get (k := 0) (by simp))
    simp only [List.getElem_cons_zero, Nat.add_zero] at h0
    have hx := UInt8.toNat_lt x
    simp only [List.length_cons] at hc hm
    have hq : x.toNat / 64 = 0 ∨ x.toNat / 64 = 1 ∨ x.toNat / 64 = 2 ∨ x.toNat / 64 = 3 := by omega
    have hz : ((r.length : Int) + 1 == 0) = false := by rw [beq_eq_false_iff_ne]; omega
    have w1 : wrap64 1 = 1 := by unfold wrap64; omega
    have w2 : wrap64 2 = 2 := by unfold wrap64; omega
    have w4 : wrap64 4 = 4 := by unfold wrap64; omega
    have w8 : wrap64 8 = 8 := by unfold wrap64; omega
    rcases hq with hq | hq | hq | hq
    · have hv : vget (x :: r) = if r.length + 1 < 1 then (0, 0, 3) else (beN ((x.toNat : Int) % 64) (r.take 0), 1, 0) := by simp [vget, vmany, hq]
      have HV := Lib.hid hv
      clear hv
      have hge : 0 ≤ r.length := by omega
      go_enter Try.func10, Try.ntmps10
      go_wp2
      all_goals
        go_loop [6, 7] (fun n i => ∃ k : Nat, k ≤ 0 ∧ n = .int .u64 (beN ((x.toNat : Int) % 64) (r.take k)) ∧ i = .int .i64 ((k : Int) + 1)) (fun _ i => 0 + 1 - (intOf i).toNat)
        case atStart => exact ⟨0, by omega, rfl, rfl⟩
        case round =>
          obtain ⟨k, hk, rfl, rfl⟩ := hrel
          have hk' : k = 0 := by omega
          subst hk'
          go_wp2
          go_ret3
          exact ⟨by rw [HV.out, if_neg (by omega)]; rfl, rfl⟩
    · have hv : vget (x :: r) = if r.length + 1 < 2 then (0, 0, 3) else (beN ((x.toNat : Int) % 64) (r.take 1), 2, 0) := by simp [vget, vmany, hq]
      have HV := Lib.hid hv
      clear hv
      by_cases hlt : r.length + 1 < 2
      · go_enter Try.func10, Try.ntmps10
        go_wp2
        go_ret3
        exact ⟨by rw [HV.out, if_pos hlt]; rfl, rfl⟩
      · have hge : 1 ≤ r.length := by omega
        go_enter Try.func10, Try.ntmps10
        go_wp2
        all_goals
          go_loop [6, 7] (fun n i => ∃ k : Nat, k ≤ 1 ∧ n = .int .u64 (beN ((x.toNat : Int) % 64) (r.take k)) ∧ i = .int .i64 ((k : Int) + 1)) (fun _ i => 1 + 1 - (intOf i).toNat)
          case atStart => exact ⟨0, by omega, rfl, rfl⟩
          case round =>
            obtain ⟨k, hk, rfl, rfl⟩ := hrel
            by_cases hkl : k < 1
            · have hg := hcell (k + 1) _ (bv_get (l := x :: r) (by simp; omega))
              rw [get1' (by omega)] at hg
              have hb := beN_bd64 (r.take k) (x.toNat : Int) (by simp; omega)
              have hs := Lib.hid (beN_take_succ ((x.toNat : Int) % 64) r k (by omega))
              have hcl := UInt8.toNat_lt (r[k]'(by omega))
              go_wp2
              go_round
              case rel => exact ⟨k + 1, by omega, by rw [hs.out, or_join _ _ hb.1 hb.2 (by omega) (by omega)], by go_num⟩
              case measure => simp [intOf]; omega
            · have hk' : k = 1 := by omega
              subst hk'
              go_wp2
              go_ret3
              exact ⟨by rw [HV.out, if_neg (by omega)]; rfl, rfl⟩
    · have hv : vget (x :: r) = if r.length + 1 < 4 then (0, 0, 3) else (beN ((x.toNat : Int) % 64) (r.take 3), 4, 0) := by simp [vget, vmany, hq]
      have HV := Lib.hid hv
      clear hv
      by_cases hlt : r.length + 1 < 4
      · go_enter Try.func10, Try.ntmps10
        go_wp2
        go_ret3
        exact ⟨by rw [HV.out, if_pos hlt]; rfl, rfl⟩
      · have hge : 3 ≤ r.length := by omega
        go_enter Try.func10, Try.ntmps10
        go_wp2
        all_goals
          go_loop [6, 7] (fun n i => ∃ k : Nat, k ≤ 3 ∧ n = .int .u64 (beN ((x.toNat : Int) % 64) (r.take k)) ∧ i = .int .i64 ((k : Int) + 1)) (fun _ i => 3 + 1 - (intOf i).toNat)
          case atStart => exact ⟨0, by omega, rfl, rfl⟩
          case round =>
            obtain ⟨k, hk, rfl, rfl⟩ := hrel
            by_cases hkl : k < 3
            · have hg := hcell (k + 1) _ (bv_get (l := x :: r) (by simp; omega))
              rw [get1' (by omega)] at hg
              have hb := beN_bd64 (r.take k) (x.toNat : Int) (by simp; omega)
              have hs := Lib.hid (beN_take_succ ((x.toNat : Int) % 64) r k (by omega))
              have hcl := UInt8.toNat_lt (r[k]'(by omega))
              go_wp2
              go_round
              case rel => exact ⟨k + 1, by omega, by rw [hs.out, or_join _ _ hb.1 hb.2 (by omega) (by omega)], by go_num⟩
              case measure => simp [intOf]; omega
            · have hk' : k = 3 := by omega
              subst hk'
              go_wp2
              go_ret3
              exact ⟨by rw [HV.out, if_neg (by omega)]; rfl, rfl⟩
    · have hv : vget (x :: r) = if r.length + 1 < 8 then (0, 0, 3) else (beN ((x.toNat : Int) % 64) (r.take 7), 8, 0) := by simp [vget, vmany, hq]
      have HV := Lib.hid hv
      clear hv
      by_cases hlt : r.length + 1 < 8
      · go_enter Try.func10, Try.ntmps10
        go_wp2
        go_ret3
        exact ⟨by rw [HV.out, if_pos hlt]; rfl, rfl⟩
      · have hge : 7 ≤ r.length := by omega
        go_enter Try.func10, Try.ntmps10
        go_wp2
        all_goals
          go_loop [6, 7] (fun n i => ∃ k : Nat, k ≤ 7 ∧ n = .int .u64 (beN ((x.toNat : Int) % 64) (r.take k)) ∧ i = .int .i64 ((k : Int) + 1)) (fun _ i => 7 + 1 - (intOf i).toNat)
          case atStart => exact ⟨0, by omega, rfl, rfl⟩
          case round =>
            obtain ⟨k, hk, rfl, rfl⟩ := hrel
            by_cases hkl : k < 7
            · have hg := hcell (k + 1) _ (bv_get (l := x :: r) (by simp; omega))
              rw [get1' (by omega)] at hg
              have hb := beN_bd64 (r.take k) (x.toNat : Int) (by simp; omega)
              have hs := Lib.hid (beN_take_succ ((x.toNat : Int) % 64) r k (by omega))
              have hcl := UInt8.toNat_lt (r[k]'(by omega))
              go_wp2
              go_round
              case rel => exact ⟨k + 1, by omega, by rw [hs.out, or_join _ _ hb.1 hb.2 (by omega) (by omega)], by go_num⟩
              case measure => simp [intOf]; omega
            · have hk' : k = 7 := by omega
              subst hk'
              go_wp2
              go_ret3
              exact ⟨by rw [HV.out, if_neg (by omega)]; rfl, rfl⟩
end Go.Proofs.Ythidklmbdgjilaa
