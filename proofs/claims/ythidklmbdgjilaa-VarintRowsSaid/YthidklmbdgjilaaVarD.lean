/- varint.PutLen lays a number that fits in 1, 2, 4 or 8 bytes behind a slice, in new memory. -/
import Derived.Test.YthidklmbdgjilaaVarC
import Derived.Test.YthidklmbdgjilaaCopied
namespace Go.Proofs.Ythidklmbdgjilaa
open Go.RowKit

def vmark (m : Nat) : Nat := if m = 1 then 0 else if m = 2 then 1 else if m = 4 then 2 else 3
def vbyte (n : Int) (m k : Nat) : UInt8 := UInt8.ofNat (n.toNat / 2 ^ (8 * (m - 1 - k)) % 256 + if k = 0 then vmark m * 64 else 0)
def vbytes (n : Int) (m : Nat) : List UInt8 := (List.range m).map (vbyte n m)
theorem vbytes_length (n : Int) (m : Nat) : (vbytes n m).length = m := by simp [vbytes]
theorem vbytes_take_succ (n : Int) (m k : Nat) (hk : k < m) : (vbytes n m).take (k + 1) = (vbytes n m).take k ++ [vbyte n m k] := by
  rw [List.take_succ_eq_append_getElem (by simpa [vbytes] using hk)]
  simp [vbytes]
theorem vbyte_pos (n : Int) (m k : Nat) (h0 : 0 ≤ n) (hk : k ≠ 0) : ((vbyte n m k).toNat : Int) = n / 2 ^ (8 * (m - 1 - k)) % 256 := by
  obtain ⟨N, rfl⟩ := Int.eq_ofNat_of_zero_le h0
  have e : vbyte (N : Int) m k = UInt8.ofNat (N / 2 ^ (8 * (m - 1 - k)) % 256) := by unfold vbyte; rw [if_neg hk]; rfl
  rw [e, UInt8.toNat_ofNat', Nat.mod_eq_of_lt (Nat.mod_lt _ (by decide))]
  rw [Int.natCast_emod, Int.natCast_ediv, Int.natCast_pow]
  rfl
theorem vbyte_zero (n : Int) (m : Nat) (h0 : 0 ≤ n) (hm : m = 1 ∨ m = 2 ∨ m = 4 ∨ m = 8) (hnm : n < 2 ^ (8 * m - 2)) : ((vbyte n m 0).toNat : Int) = n / 2 ^ (8 * (m - 1)) + (vmark m * 64 : Nat) := by
  obtain ⟨N, rfl⟩ := Int.eq_ofNat_of_zero_le h0
  rcases hm with rfl | rfl | rfl | rfl
  all_goals
    simp only [Nat.reduceMul, Nat.reduceSub, Int.reducePow] at hnm
    simp only [vbyte, vmark, Int.toNat_natCast, UInt8.toNat_ofNat', Nat.reduceMul, Nat.reduceSub, Nat.reducePow, Int.reducePow, if_true, reduceIte, Nat.reduceEqDiff]
    omega
theorem u8_join (a b : Int) (h0 : 0 ≤ a) (h1 : a < 64) (h2 : 0 ≤ b) (h3 : b < 4) : bits .or .u8 a (b * 64) = a + b * 64 := by
  obtain ⟨A, rfl⟩ := Int.eq_ofNat_of_zero_le h0
  obtain ⟨B, rfl⟩ := Int.eq_ofNat_of_zero_le h2
  have e : ((B : Int) * 64) = ((B * 64 : Nat) : Int) := by omega
  have e2 := Nat.two_pow_add_eq_or_of_lt (i := 6) (b := A) (by omega) B
  rw [e, u8_or_nat _ _ (by omega) (by omega), Nat.mul_comm B 64, Nat.or_comm]
  have e3 : 64 * B ||| A = 64 * B + A := e2.symm
  rw [e3]; omega

theorem vhead (m a mk : Int) (h0 : 0 ≤ a) (h1 : a < 64) (hmk : len64 m - 1 = mk) (h2 : 0 ≤ mk) (h3 : mk < 4) : bits .or .u8 (a % 256) (wrap64 (len64 m - 1) % 256 * 64 % 256) = a + mk * 64 := by
  rw [hmk, IntWalk.wrap64_in _ (by omega), Int.emod_eq_of_lt (a := a) h0 (by omega), Int.emod_eq_of_lt (a := mk) h2 (by omega), Int.emod_eq_of_lt (a := mk * 64) (by omega) (by omega)]
  exact u8_join a mk h0 h1 h2 h3
theorem head1 (n : Int) (h0 : 0 ≤ n) (h : n < 2 ^ (8 * 1 - 2)) : ((vbyte n 1 0).toNat : Int) = bits .or .u8 (n % 256) (wrap64 (len64 1 - 1) % 256 * 64 % 256) := by
  have e := vbyte_zero n 1 h0 (by omega) h
  simp only [Nat.reduceMul, Nat.reduceSub, Int.reducePow] at h e
  rw [vhead 1 n 0 h0 (by omega) (by decide) (by omega) (by omega), e]; simp [vmark]
theorem head2 (n : Int) (h0 : 0 ≤ n) (h : n < 2 ^ (8 * 2 - 2)) : ((vbyte n 2 0).toNat : Int) = bits .or .u8 (n / 256 % 256) (wrap64 (len64 2 - 1) % 256 * 64 % 256) := by
  have e := vbyte_zero n 2 h0 (by omega) h
  simp only [Nat.reduceMul, Nat.reduceSub, Int.reducePow] at h e
  rw [vhead 2 (n / 256) 1 (by omega) (by omega) (by decide) (by omega) (by omega), e]; simp [vmark]
theorem head4 (n : Int) (h0 : 0 ≤ n) (h : n < 2 ^ (8 * 4 - 2)) : ((vbyte n 4 0).toNat : Int) = bits .or .u8 (n / 16777216 % 256) (wrap64 (len64 4 - 1) % 256 * 64 % 256) := by
  have e := vbyte_zero n 4 h0 (by omega) h
  simp only [Nat.reduceMul, Nat.reduceSub, Int.reducePow] at h e
  rw [vhead 4 (n / 16777216) 2 (by omega) (by omega) (by decide) (by omega) (by omega), e]; simp [vmark]
theorem head8 (n : Int) (h0 : 0 ≤ n) (h : n < 2 ^ (8 * 8 - 2)) : ((vbyte n 8 0).toNat : Int) = bits .or .u8 (n / 72057594037927936 % 256) (wrap64 (len64 8 - 1) % 256 * 64 % 256) := by
  have e := vbyte_zero n 8 h0 (by omega) h
  simp only [Nat.reduceMul, Nat.reduceSub, Int.reducePow] at h e
  rw [vhead 8 (n / 72057594037927936) 3 (by omega) (by omega) (by decide) (by omega) (by omega), e]; simp [vmark]

theorem headm (n : Int) (m : Nat) (h0 : 0 ≤ n) (hm : m = 1 ∨ m = 2 ∨ m = 4 ∨ m = 8) (h : n < 2 ^ (8 * m - 2)) : ((vbyte n m 0).toNat : Int) = bits .or .u8 (n / 2 ^ (8 * (m - 1)) % 256) (wrap64 (len64 (m : Int) - 1) % 256 * 64 % 256) := by
  rcases hm with rfl | rfl | rfl | rfl
  · have := head1 n h0 h; simpa using this
  · exact head2 n h0 h
  · exact head4 n h0 h
  · exact head8 n h0 h

set_option maxHeartbeats 400000 in
theorem bitslen_any (n : Int) (w : World) (h0 : 0 ≤ n) (hn : n ≤ 18446744073709551615) :
    Calls Try.prog 21 #[.int .u64 n] w fun e w' => e = .returned (.int .i64 (len64 n)) ∧ w = w' := by
  go_enter Try.func21, Try.ntmps21
  go_wp2_with (go_at_call 19; refine (len64_any _ _ (by omega) (by omega)).mono ?_; rintro e w' ⟨rfl, rfl⟩)
  go_ret
  exact ⟨rfl, rfl⟩

/-- A round's end: one byte more. -/
theorem put_step {E B : Nat} {w0 wr w' : World} {l : List UInt8} {n : Int} {m k : Nat} {v : Value} {A' : Option Addr} {c' : Nat} {x : Int} {o : Obj} (hk : k < m) (hx : ((vbyte n m k).toNat : Int) = x) (hbel : Below B w0 wr) (hB : B ≤ wr.heap.size)
    (hown : wr.ownsRow B E 1 v (l.length + k) (bv (l ++ (vbytes n m).take k)))
    (hown' : w'.ownsRow B E 1 (.slice A' (l.length + k + 1) c') (l.length + k + 1) (bv (l ++ (vbytes n m).take k) ++ [.int .u8 x])) (hg : (wr.alloc o).grownBy w' v.ownBlock) :
    w'.ownsRow B E 1 (.slice A' (l.length + k + 1) c') (l.length + k + 1) (bv (l ++ (vbytes n m).take (k + 1))) ∧ Below B w0 w' := by
  refine ⟨?_, (hbel.alloc hB _).grown hg (by simp; omega) fun j hj => (hown.lt j hj).1⟩
  rw [vbytes_take_succ _ _ _ hk, ← List.append_assoc, bv_append]
  have : bv [vbyte n m k] = [.int .u8 x] := by simp [bv, hx]
  rw [this]; exact hown'

set_option maxHeartbeats 1000000 in
theorem putlen_any (n : Int) (m : Nat) (l : List UInt8) (A : Option Addr) (c : Nat) (w : World) (hr : Rd w A (bv l)) (hl : l.length ≤ 70368744177664) (h0 : 0 ≤ n) (hn : n ≤ 4611686018427387903)
    (hm : m = 1 ∨ m = 2 ∨ m = 4 ∨ m = 8) (hnm : n < 2 ^ (8 * m - 2)) :
    Calls Try.prog 20 #[.slice A l.length c, .int .u64 n, .int .i64 m] w (RetS 5 w (l.length + m) (bv (l ++ vbytes n m))) := by
  have HM := Lib.hid hm
  have HN := Lib.hid hnm
  have hm1 : 1 ≤ m := by omega
  have hm8 : m ≤ 8 := by omega
  clear hm hnm
  go_enter Try.func20, Try.ntmps20
  go_wp2_with (at_builtin; refine wpList_app _ rfl _ _ 23 rfl w.heap.size 5 (.int .u8 0) 1 infoB Try.underlying23 rfl (.slice none 0 0) 0 [] rfl (World.ownsRow_nil _ _ _ _) A l.length c (bv l) rfl (by simp) hr (bv_one l) (by unfold maxLen; omega) (by omega) (Nat.le_refl _) ?_; intro A' c' w1 hown hgrow hat)
  have hbel := (Below.refl w.heap.size w).grown hgrow (Nat.le_refl _) (fun k hk => by simp [Value.ownBlock] at hk)
  simp only [Nat.zero_add, List.nil_append] at hown
  clear hgrow hat
  go_loopw [7, 13] (fun v i wr => ∃ (k : Nat) (A' : Option Addr) (c' : Nat), k ≤ m ∧ i = .int .i64 k ∧ v = .slice A' (l.length + k) c' ∧ wr.ownsRow w.heap.size 5 1 (.slice A' (l.length + k) c') (l.length + k) (bv (l ++ (vbytes n m).take k)) ∧ Below w.heap.size w wr) (fun _ i _ => m - (intOf i).toNat)
  case atStart => exact ⟨0, A', c', by omega, rfl, rfl, by simpa using hown, hbel⟩
  case round =>
    clear hown hbel
    obtain ⟨k, A2, c2, hk, rfl, rfl, hown, hbel⟩ := hrel
    have hsz := hbel.size
    by_cases hkm : k < m
    · by_cases hk0 : k = 0
      · subst hk0
        have hz : ((0 : Int) == 0) = true := rfl
        simp only [Nat.add_zero] at hown
        go_wp2_with (first | (go_at_call 21; refine (bitslen_any _ _ (by omega) (by omega)).mono ?_; rintro e w' ⟨rfl, rfl⟩) | (at_builtin; refine wpList_app _ rfl _ _ 23 rfl w.heap.size 5 (.int .u8 0) 1 infoB Try.underlying23 rfl (.slice A2 l.length c2) l.length _ rfl (hown.alloc _) (some ⟨wr.heap.size, 0, none⟩) 1 1 [.int .u8 _] rfl rfl (Rd.fresh _ _ _) (one_int _ _) (by unfold maxLen; omega) (by omega) (by simp; omega) ?_; intro A3 c3 w3 hown3 hgrow3 _))
        have R := put_step (m := m) (k := 0) (by omega) (headm n m h0 HM.out HN.out) hbel hsz hown hown3 hgrow3
        clear hown3 hgrow3 hown hbel
        go_wp2
        go_roundw
        case rel => exact ⟨1, A3, c3, by omega, rfl, rfl, R.1, R.2⟩
        case measure => simp [intOf]; omega
      · have hz : ((k : Int) == 0) = false := by rw [beq_eq_false_iff_ne]; omega
        go_wp2_with (at_builtin; refine wpList_app _ rfl _ _ 23 rfl w.heap.size 5 (.int .u8 0) 1 infoB Try.underlying23 rfl (.slice A2 (l.length + k) c2) (l.length + k) _ rfl (hown.alloc _) (some ⟨wr.heap.size, 0, none⟩) 1 1 [.int .u8 (n / 2 ^ (8 * (m - 1 - k)) % 256)] rfl rfl (Rd.fresh _ _ _) (one_int _ _) (by unfold maxLen; omega) (by omega) (by simp; omega) ?_; intro A3 c3 w3 hown3 hgrow3 _)
        have R := put_step hkm (vbyte_pos n m k h0 hk0) hbel hsz hown hown3 hgrow3
        clear hown3 hgrow3 hown hbel
        go_wp2
        go_roundw
        case rel => exact ⟨k + 1, A3, c3, by omega, by go_num, rfl, R.1, R.2⟩
        case measure => simp [intOf]; omega
    · have : k = m := by omega
      subst this
      go_wp2
      go_ret
      exact ⟨A2, c2, rfl, by simpa [vbytes_length, List.take_of_length_le] using hown, hbel⟩
end Go.Proofs.Ythidklmbdgjilaa
