/- Plain laws on the order of bytes, and what string(b) is of a slice that reads as a list. -/
import Derived.Test.YthidklmbdgjilaaVarJ
import Derived.Laws.BytesArg
namespace Go.Proofs.Ythidklmbdgjilaa
open Go.RowKit

/-! Bytes, the highest first, stand as their numbers do. -/
theorem beN_lt : ∀ (l m : List UInt8) (x y : Int), l.length = m.length → (beN x l < beN y m ↔ x < y ∨ (x = y ∧ Op.bytesLess l m = true))
  | [], [], x, y, _ => by simp [beN, Op.bytesLess]
  | a :: l, b :: m, x, y, h => by
    have ih := beN_lt l m (x * 256 + (a.toNat : Int)) (y * 256 + (b.toNat : Int)) (by simpa using h)
    have ha := UInt8.toNat_lt a
    have hb := UInt8.toNat_lt b
    simp only [beN, List.foldl_cons] at ih ⊢
    rw [ih]
    have e1 : (a < b) ↔ a.toNat < b.toNat := UInt8.lt_iff_toNat_lt
    have e2 : (a = b) ↔ a.toNat = b.toNat := UInt8.toNat_inj.symm
    simp only [Op.bytesLess, Bool.or_eq_true, Bool.and_eq_true, decide_eq_true_eq, beq_iff_eq, e1, e2]
    by_cases hq : Op.bytesLess l m = true <;> simp only [hq, and_true, and_false, or_false, Bool.false_eq_true] <;> omega
theorem beN_eq : ∀ (l m : List UInt8) (x y : Int), l.length = m.length → (beN x l = beN y m ↔ x = y ∧ l = m)
  | [], [], x, y, _ => by simp [beN]
  | a :: l, b :: m, x, y, h => by
    have ih := beN_eq l m (x * 256 + (a.toNat : Int)) (y * 256 + (b.toNat : Int)) (by simpa using h)
    have ha := UInt8.toNat_lt a
    have hb := UInt8.toNat_lt b
    simp only [beN, List.foldl_cons] at ih ⊢
    rw [ih]
    have e2 : (a = b) ↔ a.toNat = b.toNat := UInt8.toNat_inj.symm
    simp only [List.cons.injEq, e2]
    by_cases hq : l = m <;> simp only [hq, and_true, and_false] <;> omega
theorem beN_shift : ∀ (l : List UInt8) (x y : Int), beN (x + y) l = beN x l + y * 256 ^ l.length
  | [], x, y => by simp [beN]
  | a :: l, x, y => by
    have ih := beN_shift l (x * 256 + (a.toNat : Int)) (y * 256)
    simp only [beN, List.foldl_cons, List.length_cons] at ih ⊢
    rw [show (x + y) * 256 + (a.toNat : Int) = x * 256 + (a.toNat : Int) + y * 256 from by omega, ih, Int.pow_succ, Int.mul_assoc, Int.mul_comm 256 (256 ^ l.length)]
theorem beN_vbytes (n : Int) (m : Nat) (h0 : 0 ≤ n) (hm : m = 1 ∨ m = 2 ∨ m = 4 ∨ m = 8) (hnm : n < 2 ^ (8 * m - 2)) : beN 0 (vbytes n m) = n + (vmark m * 64 : Nat) * 256 ^ (m - 1) := by
  have e := vbyte_zero n m h0 hm hnm
  have hlen := vbytes_length n m
  have hk := beN_vb n m (m - 1) h0 (by omega)
  rw [List.take_of_length_le (by simp [hlen])] at hk
  rw [vbytes_cons n m (by omega)]
  have : beN 0 (vbyte n m 0 :: (vbytes n m).drop 1) = beN ((vbyte n m 0).toNat : Int) ((vbytes n m).drop 1) := by simp [beN]
  rw [this, e, beN_shift, hk]
  simp [hlen]
theorem order_less (a b : Int) (m : Nat) (ha : 0 ≤ a) (hb : 0 ≤ b) (hm : m = 1 ∨ m = 2 ∨ m = 4 ∨ m = 8) (h1 : a < 2 ^ (8 * m - 2)) (h2 : b < 2 ^ (8 * m - 2)) :
    Op.bytesLess (vbytes a m) (vbytes b m) = decide (a < b) ∧ ((vbytes a m) = (vbytes b m) ↔ a = b) := by
  have ea := beN_vbytes a m ha hm h1
  have eb := beN_vbytes b m hb hm h2
  have l1 := beN_lt (vbytes a m) (vbytes b m) 0 0 (by simp [vbytes_length])
  have l2 := beN_eq (vbytes a m) (vbytes b m) 0 0 (by simp [vbytes_length])
  rw [ea, eb] at l1 l2
  simp only [Int.lt_irrefl, false_or, true_and] at l1 l2
  constructor
  · rw [Bool.eq_iff_iff, ← l1, decide_eq_true_eq]; omega
  · rw [← l2]; omega
theorem vlen_mono (a b : Int) (h : a ≤ b) (hb : b ≤ 4611686018427387903) : vlen a ≤ vlen b := by
  unfold vlen; (repeat' split) <;> omega
theorem vput_mono (a b : Int) (h : a ≤ b) (hb : b ≤ 4611686018427387903) : (vput a).length ≤ (vput b).length := by
  rw [vput_length, vput_length]; have := vlen_mono a b h hb; have := vl_cast a; have := vl_cast b; omega
theorem vput_order (a b : Int) (ha : 0 ≤ a) (h : a ≤ b) (hb : b ≤ 4611686018427387903) (hl : (vput a).length = (vput b).length) :
    (Op.bytesLess (vput a) (vput b) = true ∨ vput a = vput b) ∧ (vput a = vput b ↔ a = b) := by
  have f := vput_fits b hb (vput b).length (Nat.le_refl _)
  have g := vput_fits a (by omega) (vput b).length (by omega)
  have m := vput_many b hb
  have e1 : vput a = vbytes a (vput b).length := by rw [← hl, vput_length]; rfl
  have e2 : vput b = vbytes b (vput b).length := by rw [vput_length]; rfl
  obtain ⟨o1, o2⟩ := order_less a b (vput b).length ha (by omega) m g f
  rw [← e1, ← e2] at o1 o2
  refine ⟨?_, o2⟩
  by_cases hab : a = b
  · right; exact o2.2 hab
  · left; rw [o1]; exact decide_eq_true (by omega)

/-- 'string(b)': the bytes that the slice reads as. -/
theorem run_conv_bytes {P : Program} {w : World} {src dst e : TypeId} (hs : P.underlying src = some (.slice e)) (he : P.underlying e = some (.int .u8)) (hd : P.underlying dst = some .string)
    {l : List UInt8} {A : Option Addr} {c : Nat} (hr : Rd w A (bv l)) : (convert src dst (.slice A l.length c)).run P w = .ok (.string ⟨l.toArray⟩) w := by
  by_cases hn : l = []
  · subst hn
    rw [run_convert_bytes_string w src dst e _ _ c hs he hd]
    cases A with
    | none => simp [Conv.bytesToString]; rfl
    | some a =>
      have := run_bytesToString (P := P) w a 0 c [] (by simp [loadCells, loadCellsFrom])
      rw [List.length_nil, this]; rfl
  · obtain ⟨b, off, rfl, hc⟩ := hr (by simp; exact List.length_pos_iff.2 hn)
    have := run_convert_bytes_arg (P := P) w src e hs he b off l.length c (l.map fun x => (x.toNat : Int)) (by simp) (fun i hi => by
      rw [hc i _ (bv_get hi)]; simp [List.getD, hi]) dst hd
    rw [this]
    have e : (l.map fun x => (x.toNat : Int)).map (fun n => UInt8.ofNat n.toNat) = l := by
      rw [List.map_map]
      conv => rhs; rw [← List.map_id l]
      exact List.map_congr_left fun x _ => by simp
    rw [strOfNums, e]
end Go.Proofs.Ythidklmbdgjilaa
