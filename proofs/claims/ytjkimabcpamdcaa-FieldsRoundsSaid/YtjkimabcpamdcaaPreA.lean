/- prefix.Get returns what pget says, of whatever slice of bytes it is handed and bits from 1 to 8; it turns nothing. (At most 2 to the 47 bytes.) -/
import Derived.Test.YtjkimabcpamdcaaLib
namespace Go.Proofs.Ytjkimabcpamdcaa
open Go.RowKit

def pmost (b : Nat) : Int := 2 ^ b - 1
theorem pmost_bd (b : Nat) (h1 : 1 ≤ b) (h8 : b ≤ 8) : 2 ≤ (2 : Int) ^ b ∧ (2 : Int) ^ b ≤ 256 := by
  have : b = 1 ∨ b = 2 ∨ b = 3 ∨ b = 4 ∨ b = 5 ∨ b = 6 ∨ b = 7 ∨ b = 8 := by omega
  rcases this with rfl | rfl | rfl | rfl | rfl | rfl | rfl | rfl <;> decide
/-- The groups behind the first byte: how many more may come, which one is next, the number so far. -/
def ploop : Nat → Nat → Int → List UInt8 → Int × Int × Int
  | 0, _, _, _ => (0, 0, 4)
  | _ + 1, _, _, [] => (0, 0, 3)
  | f + 1, k, n, c :: r =>
    if 4611686018427387903 < n + (c.toNat : Int) % 128 * 2 ^ (7 * (k - 1)) then (0, 0, 4)
    else if c.toNat < 128 then (n + (c.toNat : Int) % 128 * 2 ^ (7 * (k - 1)), (k : Int) + 1, 0)
    else ploop f (k + 1) (n + (c.toNat : Int) % 128 * 2 ^ (7 * (k - 1))) r
def pget (b : Nat) (l : List UInt8) : Int × Int × Int :=
  match l with
  | [] => (0, 0, 3)
  | x :: r => if (x.toNat : Int) % 2 ^ b < pmost b then ((x.toNat : Int) % 2 ^ b, 1, 0) else ploop 9 1 ((x.toNat : Int) % 2 ^ b) r
def ptup (x : Int × Int × Int) : Value := .tuple #[.int .u64 x.1, .int .i64 x.2.1, .int .i64 x.2.2]

theorem and_most (x b : Nat) (hx : x < 256) (h8 : b ≤ 8) : bits .and .u64 (x : Int) ((2 : Int) ^ b - 1) = (x : Int) % 2 ^ b := by
  have hp : 1 ≤ 2 ^ b := Nat.one_le_two_pow
  have hp2 : 2 ^ b ≤ 2 ^ 8 := Nat.pow_le_pow_right (by omega) h8
  have e : (2 : Int) ^ b - 1 = ((2 ^ b - 1 : Nat) : Int) := by rw [Int.natCast_sub hp]; simp
  rw [e, u64_and_nat _ _ (by omega) (by omega), Nat.and_two_pow_sub_one_eq_mod]
  simp
theorem andnot128 (c : UInt8) : bits .andNot .u8 (c.toNat : Int) 128 = (c.toNat : Int) % 128 := by
  have hc := UInt8.toNat_lt c
  have e := u8_andNot_nat c.toNat 128 (by omega) (by omega)
  have e2 : c.toNat &&& 127 = c.toNat % 128 := Nat.and_two_pow_sub_one_eq_mod _ 7
  rw [show ((128 : Nat) : Int) = 128 from rfl] at e
  rw [e, show 255 - 128 = 127 from rfl, e2]; simp
theorem shift_bd (k : Nat) (hk : k < 10) : 1 ≤ (2 : Int) ^ (7 * (k - 1)) ∧ (2 : Int) ^ (7 * (k - 1)) ≤ 72057594037927936 := by
  have : k = 0 ∨ k = 1 ∨ k = 2 ∨ k = 3 ∨ k = 4 ∨ k = 5 ∨ k = 6 ∨ k = 7 ∨ k = 8 ∨ k = 9 := by omega
  rcases this with rfl | rfl | rfl | rfl | rfl | rfl | rfl | rfl | rfl | rfl <;> decide
theorem quot_lt (p S : Int) (hS : 1 ≤ S) : 4611686018427387903 / S < p ↔ 4611686018427387903 < p * S := by
  rw [Int.ediv_lt_iff_lt_mul (by omega)]
theorem quot_nn (S : Int) (hS : 1 ≤ S) : 0 ≤ 4611686018427387903 / S := Int.ediv_nonneg (by omega) (by omega)
theorem prod_bd (p S : Int) (h0 : 0 ≤ p) (h1 : p ≤ 127) (hS : 1 ≤ S) (hS2 : S ≤ 72057594037927936) : 0 ≤ p * S ∧ p * S ≤ 9151314442816847872 := by
  constructor
  · exact Int.mul_nonneg h0 (by omega)
  · have := Int.mul_le_mul h1 hS2 (by omega) (by omega)
    omega

set_option maxHeartbeats 400000 in
theorem pget_nil (b : Nat) (A : Option Addr) (c : Nat) (w : World) (hb1 : 1 ≤ b) (hb8 : b ≤ 8) :
    Calls Try.prog 37 #[.slice A 0 c, .int .i64 b] w fun e w' => e = .returned (ptup (0, 0, 3)) ∧ w = w' := by
  go_enter Try.func37, Try.ntmps37
  go_wp2
  go_ret3
  exact ⟨rfl, rfl⟩

set_option maxRecDepth 100000 in
set_option maxHeartbeats 1000000 in
theorem pget_cons (x : UInt8) (r : List UInt8) (b : Nat) (A : Option Addr) (c : Nat) (w : World) (hb1 : 1 ≤ b) (hb8 : b ≤ 8) (hr : Rd w A (bv (x :: r))) (hm : r.length + 1 ≤ 140737488355328) :
    Calls Try.prog 37 #[.slice A (r.length + 1) c, .int .i64 b] w fun e w' => e = .returned (ptup (pget b (x :: r))) ∧ w = w' := by
  obtain ⟨bl, off, rfl, hcell⟩ := hr (by simp)
  have h0 := hcell 0 _ (bv_get (k := 0) (by simp))
  simp only [List.getElem_cons_zero, Nat.add_zero] at h0
  have hx := UInt8.toNat_lt x
  have hP := pmost_bd b hb1 hb8
  have hand := and_most x.toNat b hx hb8
  have HG : pget b (x :: r) = if (x.toNat : Int) % 2 ^ b < 2 ^ b - 1 then ((x.toNat : Int) % 2 ^ b, 1, 0) else ploop 9 1 ((x.toNat : Int) % 2 ^ b) r := rfl
  have hz : ((r.length : Int) + 1 == 0) = false := by rw [beq_eq_false_iff_ne]; omega
  have hm0 : 0 ≤ (x.toNat : Int) % 2 ^ b ∧ (x.toNat : Int) % 2 ^ b ≤ 2 ^ b - 1 := by
    have := Int.emod_nonneg (x.toNat : Int) (show (2 : Int) ^ b ≠ 0 by omega)
    have := Int.emod_lt_of_pos (x.toNat : Int) (show (0 : Int) < 2 ^ b by omega)
    omega
  obtain ⟨P, hPe⟩ : ∃ P, (2 : Int) ^ b = P := ⟨_, rfl⟩
  rw [hPe] at hP hand HG hm0
  obtain ⟨m, hme⟩ : ∃ m, (x.toNat : Int) % P = m := ⟨_, rfl⟩
  rw [hme] at hm0 hand HG
  replace HG := Lib.hid HG
  clear hme
  by_cases hlt : m < P - 1
  · go_enter Try.func37, Try.ntmps37
    go_wp2_with fail
    go_ret3
    exact ⟨by rw [HG.out, if_pos hlt]; rfl, rfl⟩
  · obtain ⟨res, hres⟩ : ∃ res, ploop 9 1 m r = res := ⟨_, rfl⟩
    have HR : pget b (x :: r) = res := by rw [HG.out, if_neg hlt, hres]
    replace HR := Lib.hid HR
    have HRES := Lib.hid hres
    clear hres HG
    go_enter Try.func37, Try.ntmps37
    go_wp2_with fail
    go_loop [8, 9] (fun n i => ∃ (k : Nat) (N : Int), 1 ≤ k ∧ k ≤ 10 ∧ k ≤ r.length + 1 ∧ i = .int .i64 k ∧ n = .int .u64 N ∧ 0 ≤ N ∧ N ≤ 4611686018427387903 ∧ Hid (ploop (10 - k) k N (r.drop (k - 1)) = res)) (fun _ i => 10 - (intOf i).toNat)
    case atStart => exact ⟨1, m, by omega, by omega, by omega, rfl, rfl, by omega, by omega, HRES⟩
    case round =>
      obtain ⟨k, N, hk1, hk10, hkr, rfl, rfl, hN0, hN1, HL⟩ := hrel
      by_cases hk : k < 10
      · by_cases hkl : k = r.length + 1
        · have hz2 : ((k : Int) == (r.length : Int) + 1) = true := by rw [beq_iff_eq]; omega
          have HE : res = (0, 0, 3) := by
            rw [← HL.out, List.drop_of_length_le (by omega)]
            obtain ⟨f, hf⟩ : ∃ f, 10 - k = f + 1 := ⟨9 - k, by omega⟩
            rw [hf]; rfl
          replace HE := Lib.hid HE
          clear hkl
          go_wp2_with fail
          go_ret3
          exact ⟨by rw [HR.out, HE.out]; rfl, rfl⟩
        · have hz2 : ((k : Int) == (r.length : Int) + 1) = false := by rw [beq_eq_false_iff_ne]; omega
          have hg := hcell k _ (bv_get (l := x :: r) (by simp; omega))
          obtain ⟨cb, hcb⟩ : ∃ cb, (x :: r)[k]'(by simp; omega) = cb := ⟨_, rfl⟩
          rw [hcb] at hg
          have hdrop : r.drop (k - 1) = cb :: r.drop k := by
            rw [List.drop_eq_getElem_cons (by omega), ← hcb]
            obtain ⟨j, rfl⟩ : ∃ j, k = j + 1 := ⟨k - 1, by omega⟩
            rfl
          have hS := shift_bd k hk
          have ha := andnot128 cb
          have HSTEP : ploop (10 - k) k N (r.drop (k - 1)) = if 4611686018427387903 < N + (cb.toNat : Int) % 128 * 2 ^ (7 * (k - 1)) then (0, 0, 4) else if cb.toNat < 128 then (N + (cb.toNat : Int) % 128 * 2 ^ (7 * (k - 1)), (k : Int) + 1, 0) else ploop (10 - (k + 1)) (k + 1) (N + (cb.toNat : Int) % 128 * 2 ^ (7 * (k - 1))) (r.drop (k + 1 - 1)) := by
            obtain ⟨f, hf⟩ : ∃ f, 10 - k = f + 1 := ⟨9 - k, by omega⟩
            rw [hdrop, hf, show 10 - (k + 1) = f from by omega, Nat.add_sub_cancel]; rfl
          rw [HL.out] at HSTEP
          have hcl := UInt8.toNat_lt cb
          have hp : 0 ≤ (cb.toNat : Int) % 128 ∧ (cb.toNat : Int) % 128 ≤ 127 := by omega
          obtain ⟨S, hSe⟩ : ∃ S, (2 : Int) ^ (7 * (k - 1)) = S := ⟨_, rfl⟩
          obtain ⟨p, hpe⟩ : ∃ p, (cb.toNat : Int) % 128 = p := ⟨_, rfl⟩
          rw [hSe] at hS HSTEP
          rw [hpe] at ha HSTEP hp
          have hq1 := quot_lt p S hS.1
          have hq0 := quot_nn S hS.1
          have hT := prod_bd p S hp.1 hp.2 hS.1 hS.2
          obtain ⟨Q, hQe⟩ : ∃ Q, (4611686018427387903 : Int) / S = Q := ⟨_, rfl⟩
          obtain ⟨T, hTe⟩ : ∃ T, p * S = T := ⟨_, rfl⟩
          rw [hTe] at hT hq1 HSTEP
          rw [hQe] at hq0 hq1
          replace HSTEP := Lib.hid HSTEP
          clear hcb hdrop hpe
          by_cases hc1 : Q < p
          · have hT2 : 4611686018427387903 < T := hq1.1 hc1
            clear hq1
            go_wp2_with fail
            go_ret3
            exact ⟨by rw [HR.out, HSTEP.out, if_pos (by omega)]; rfl, rfl⟩
          · have hT2 : T ≤ 4611686018427387903 := by omega
            clear hq1
            by_cases hc2 : 4611686018427387903 < N + T
            · have hc2' : 4611686018427387903 - T < N := by omega
              go_wp2_with fail
              go_ret3
              exact ⟨by rw [HR.out, HSTEP.out, if_pos hc2]; rfl, rfl⟩
            · have hc2' : ¬ 4611686018427387903 - T < N := by omega
              by_cases hc3 : cb.toNat < 128
              · go_wp2_with fail
                go_ret3
                exact ⟨by rw [HR.out, HSTEP.out, if_neg (by omega), if_pos hc3]; rfl, rfl⟩
              · have HN : Hid (ploop (10 - (k + 1)) (k + 1) (N + T) (r.drop (k + 1 - 1)) = res) := by
                  have := HSTEP.out
                  rw [if_neg hc2, if_neg hc3] at this
                  exact Lib.hid this.symm
                go_wp2_with fail
                go_round
                case rel => exact ⟨k + 1, N + T, by omega, by omega, by omega, by go_num, rfl, by omega, by omega, HN⟩
                case measure => simp [intOf]; omega
      · have hk' : k = 10 := by omega
        subst hk'
        have HE : res = (0, 0, 4) := by rw [← HL.out]; rfl
        replace HE := Lib.hid HE
        go_wp2_with fail
        go_ret3
        exact ⟨by rw [HR.out, HE.out]; rfl, rfl⟩

theorem pget_any (l : List UInt8) (b : Nat) (A : Option Addr) (c : Nat) (w : World) (hb1 : 1 ≤ b) (hb8 : b ≤ 8) (hr : Rd w A (bv l)) (hm : l.length ≤ 140737488355328) :
    Calls Try.prog 37 #[.slice A l.length c, .int .i64 b] w fun e w' => e = .returned (ptup (pget b l)) ∧ w = w' := by
  match l, hr, hm with
  | [], _, _ => exact pget_nil b A c w hb1 hb8
  | x :: r, hr, hm => exact pget_cons x r b A c w hb1 hb8 hr hm
end Go.Proofs.Ytjkimabcpamdcaa
