/- income.clashes: what it returns; it turns nothing. -/
import Derived.Test.YtlaomllgjiochaaIncD
namespace Go.Proofs.Ytlaomllgjiochaa
open Go.RowKit

def aclash : List (Option UInt8) → List UInt8 → Bool
  | some d :: g, x :: l => decide (d ≠ x) || aclash g l
  | none :: g, _ :: l => aclash g l
  | [], _ => false
  | _ :: _, [] => false
def eclash (s : Inc) (t : Int) (e : Bool) : Bool := (decide (0 ≤ s.en) && (decide (s.en < t) || (e && decide (t ≠ s.en)))) || (e && decide (t < s.hi))
def iclash (s : Inc) (off : Nat) (l : List UInt8) (e : Bool) : Bool := eclash s (off + l.length) e || aclash (s.got.drop off) l

theorem aclash_nil (g : List (Option UInt8)) : aclash g [] = false := by cases g with
  | nil => rfl
  | cons o g => cases o <;> rfl
theorem aclash_end (g : List (Option UInt8)) (k : Nat) (l : List UInt8) (h : g.length ≤ k) : aclash (g.drop k) l = false := by
  rw [List.drop_eq_nil_of_le h]; rfl
theorem aclash_step (g : List (Option UInt8)) (l : List UInt8) (i k : Nat) (hi : i < g.length) (hk : k < l.length) :
    aclash (g.drop i) (l.drop k) = ((g[i].isSome && decide (g[i].getD 0 ≠ l[k])) || aclash (g.drop (i + 1)) (l.drop (k + 1))) := by
  rw [List.drop_eq_getElem_cons hi, List.drop_eq_getElem_cons hk]
  cases g[i] <;> simp [aclash]

theorem eclash_iff (en hi t : Int) (e : Bool) : ((decide (0 ≤ en) && (decide (en < t) || (e && decide (t ≠ en)))) || (e && decide (t < hi))) = true ↔ (0 ≤ en ∧ (en < t ∨ (e = true ∧ t ≠ en))) ∨ (e = true ∧ t < hi) := by
  simp only [Bool.or_eq_true, Bool.and_eq_true, decide_eq_true_eq]
theorem eclash_t (en hi t : Int) (h : (0 ≤ en ∧ (en < t ∨ t ≠ en)) ∨ t < hi) (x : Bool) : (((decide (0 ≤ en) && (decide (en < t) || (true && decide (t ≠ en)))) || (true && decide (t < hi))) || x) = true := by
  rw [(eclash_iff en hi t true).2 (by simpa using h)]; rfl
theorem eclash_f (en hi t : Int) (h : 0 ≤ en ∧ en < t) (x : Bool) : (((decide (0 ≤ en) && (decide (en < t) || (false && decide (t ≠ en)))) || (false && decide (t < hi))) || x) = true := by
  rw [(eclash_iff en hi t false).2 (by simpa using h)]; rfl
theorem eclash_nt (en hi t : Int) (h : ¬ ((0 ≤ en ∧ (en < t ∨ t ≠ en)) ∨ t < hi)) (x : Bool) : (((decide (0 ≤ en) && (decide (en < t) || (true && decide (t ≠ en)))) || (true && decide (t < hi))) || x) = x := by
  have h3 := Bool.eq_false_iff.2 (fun h2 => h (by simpa using (eclash_iff en hi t true).1 h2))
  rw [h3]; rfl
theorem eclash_nf (en hi t : Int) (h : ¬ (0 ≤ en ∧ en < t)) (x : Bool) : (((decide (0 ≤ en) && (decide (en < t) || (false && decide (t ≠ en)))) || (false && decide (t < hi))) || x) = x := by
  have h3 := Bool.eq_false_iff.2 (fun h2 => h (by simpa using (eclash_iff en hi t false).1 h2))
  rw [h3]; rfl

set_option maxHeartbeats 8000000 in
theorem clash_t (p off n c cD cc : Nat) (en hi : Int) (AD AC A : Option Addr) (g : List (Option UInt8)) (l : List UInt8) (w : World) (hn : g.length = n) (RR : Bool)
    (c1 : w.cell? ⟨p, 1, none⟩ = some (.int .i64 en)) (c3 : w.cell? ⟨p, 3, none⟩ = some (.int .i64 hi)) (c4 : w.cell? ⟨p, 4, none⟩ = some (.slice AD n cD)) (c5 : w.cell? ⟨p, 5, none⟩ = some (.slice AC n c))
    (hD : Rd w AD (bv (gb g))) (hC : Rd w AC (bo (gc g))) (hr : Rd w A (bv l)) (hl : l.length ≤ 1048576) (ho : off ≤ 1048576) (hn1 : n ≤ 1048576) (he0 : -1 ≤ en) (he1 : en ≤ 1048576) (hh0 : 0 ≤ hi) (hh1 : hi ≤ 1048576)
    (hT : Hid ((((decide (0 ≤ en) && (decide (en < (off : Int) + l.length) || (true && decide ((off : Int) + l.length ≠ en)))) || (true && decide ((off : Int) + l.length < hi))) || aclash (g.drop off) l) = RR)) :
    Calls Try.prog 28 #[.pointer (some ⟨p, 0, none⟩), .int .i64 off, .slice A l.length cc, .bool true] w fun r w' => r = .returned (.bool RR) ∧ w = w' := by
  go_enter Try.func28, Try.ntmps28
  go_wp2_with fail
  all_goals first
    | (go_ret
       exact ⟨ret_bool (by rw [← hT.out]; exact (eclash_t _ _ _ (by omega) _).symm), rfl⟩)
    | skip
  all_goals
    have HR : Hid (aclash (g.drop off) l = RR) := Lib.hid (by rw [← hT.out]; exact (eclash_nt _ _ _ (by omega) _).symm)
    clear hT
    go_loop [54] (fun i => ∃ k : Nat, k ≤ l.length ∧ i = .int .i64 k ∧ Hid (aclash (g.drop (off + k)) (l.drop k) = RR)) (fun i => l.length - (intOf i).toNat)
    case atStart => exact ⟨0, by omega, rfl, Lib.hid (by simpa using HR.out)⟩
    case round =>
      clear HR
      obtain ⟨k, hk, rfl, HT⟩ := hrel
      by_cases hkl : k < l.length
      · obtain ⟨b1, o1, rfl, g1⟩ := hr.at_ (k := k) (by simpa using hkl)
        simp only [bv, List.getElem_map] at g1
        by_cases hat : off + k < n
        · obtain ⟨b2, o2, rfl, g2⟩ := hC.at_ (k := off + k) (by simp; omega)
          obtain ⟨b3, o3, rfl, g3⟩ := hD.at_ (k := off + k) (by simp; omega)
          simp only [bo, gc, bv, gb, List.getElem_map] at g2 g3
          have HS := aclash_step g l (off + k) k (by omega) hkl
          rw [HT.out] at HS
          obtain ⟨v, hv⟩ : ∃ v, g[off + k]'(by omega) = v := ⟨_, rfl⟩
          obtain ⟨y, hy⟩ : ∃ v, l[k] = v := ⟨_, rfl⟩
          rw [hv] at g2 g3 HS
          rw [hy] at g1 HS
          clear hv hy HT
          cases v with
          | none =>
            simp only [Option.isSome_none, Bool.false_and, Bool.false_or] at HS g2
            replace HS := Lib.hid HS
            go_wp2_with fail
            go_round
            case rel => exact ⟨k + 1, by omega, by go_num, Lib.hid HS.out.symm⟩
            case measure => simp [intOf]; omega
          | some d =>
            simp only [Option.isSome_some, Bool.true_and, Option.getD_some] at HS g2 g3
            by_cases hd : d = y
            · have hne : ((d.toNat : Int) != (y.toNat : Int)) = false := by rw [hd]; simp
              rw [decide_eq_false (by simpa using hd), Bool.false_or] at HS
              replace HS := Lib.hid HS
              clear hd
              go_wp2_with fail
              go_round
              case rel => exact ⟨k + 1, by omega, by go_num, Lib.hid HS.out.symm⟩
              case measure => simp [intOf]; omega
            · have hne : ((d.toNat : Int) != (y.toNat : Int)) = true := by
                rw [bne_iff_ne]; intro h; exact hd (UInt8.toNat_inj.1 (by exact_mod_cast h))
              rw [decide_eq_true hd, Bool.true_or] at HS
              replace HS := Lib.hid HS
              clear hd
              go_wp2_with fail
              go_ret
              exact ⟨ret_bool HS.out.symm, rfl⟩
        · have HS : Hid (aclash (g.drop (off + (k + 1))) (l.drop (k + 1)) = RR) := Lib.hid (by
            rw [← HT.out, aclash_end _ _ _ (by omega), aclash_end _ _ _ (by omega)])
          clear HT
          go_wp2_with fail
          go_round
          case rel => exact ⟨k + 1, by omega, by go_num, HS⟩
          case measure => simp [intOf]; omega
      · have HS : Hid (false = RR) := Lib.hid (by rw [← HT.out, show l.drop k = [] from List.drop_eq_nil_of_le (by omega), aclash_nil])
        clear HT
        go_wp2_with fail
        go_ret
        exact ⟨ret_bool HS.out, rfl⟩

set_option maxHeartbeats 8000000 in
theorem clash_f (p off n c cD cc : Nat) (en hi : Int) (AD AC A : Option Addr) (g : List (Option UInt8)) (l : List UInt8) (w : World) (hn : g.length = n) (RR : Bool)
    (c1 : w.cell? ⟨p, 1, none⟩ = some (.int .i64 en)) (c3 : w.cell? ⟨p, 3, none⟩ = some (.int .i64 hi)) (c4 : w.cell? ⟨p, 4, none⟩ = some (.slice AD n cD)) (c5 : w.cell? ⟨p, 5, none⟩ = some (.slice AC n c))
    (hD : Rd w AD (bv (gb g))) (hC : Rd w AC (bo (gc g))) (hr : Rd w A (bv l)) (hl : l.length ≤ 1048576) (ho : off ≤ 1048576) (hn1 : n ≤ 1048576) (he0 : -1 ≤ en) (he1 : en ≤ 1048576) (hh0 : 0 ≤ hi) (hh1 : hi ≤ 1048576)
    (hT : Hid ((((decide (0 ≤ en) && (decide (en < (off : Int) + l.length) || (false && decide ((off : Int) + l.length ≠ en)))) || (false && decide ((off : Int) + l.length < hi))) || aclash (g.drop off) l) = RR)) :
    Calls Try.prog 28 #[.pointer (some ⟨p, 0, none⟩), .int .i64 off, .slice A l.length cc, .bool false] w fun r w' => r = .returned (.bool RR) ∧ w = w' := by
  go_enter Try.func28, Try.ntmps28
  go_wp2_with fail
  all_goals first
    | (go_ret
       exact ⟨ret_bool (by rw [← hT.out]; exact (eclash_f _ _ _ (by omega) _).symm), rfl⟩)
    | skip
  all_goals
    have HR : Hid (aclash (g.drop off) l = RR) := Lib.hid (by rw [← hT.out]; exact (eclash_nf _ _ _ (by omega) _).symm)
    clear hT
    go_loop [54] (fun i => ∃ k : Nat, k ≤ l.length ∧ i = .int .i64 k ∧ Hid (aclash (g.drop (off + k)) (l.drop k) = RR)) (fun i => l.length - (intOf i).toNat)
    case atStart => exact ⟨0, by omega, rfl, Lib.hid (by simpa using HR.out)⟩
    case round =>
      clear HR
      obtain ⟨k, hk, rfl, HT⟩ := hrel
      by_cases hkl : k < l.length
      · obtain ⟨b1, o1, rfl, g1⟩ := hr.at_ (k := k) (by simpa using hkl)
        simp only [bv, List.getElem_map] at g1
        by_cases hat : off + k < n
        · obtain ⟨b2, o2, rfl, g2⟩ := hC.at_ (k := off + k) (by simp; omega)
          obtain ⟨b3, o3, rfl, g3⟩ := hD.at_ (k := off + k) (by simp; omega)
          simp only [bo, gc, bv, gb, List.getElem_map] at g2 g3
          have HS := aclash_step g l (off + k) k (by omega) hkl
          rw [HT.out] at HS
          obtain ⟨v, hv⟩ : ∃ v, g[off + k]'(by omega) = v := ⟨_, rfl⟩
          obtain ⟨y, hy⟩ : ∃ v, l[k] = v := ⟨_, rfl⟩
          rw [hv] at g2 g3 HS
          rw [hy] at g1 HS
          clear hv hy HT
          cases v with
          | none =>
            simp only [Option.isSome_none, Bool.false_and, Bool.false_or] at HS g2
            replace HS := Lib.hid HS
            go_wp2_with fail
            go_round
            case rel => exact ⟨k + 1, by omega, by go_num, Lib.hid HS.out.symm⟩
            case measure => simp [intOf]; omega
          | some d =>
            simp only [Option.isSome_some, Bool.true_and, Option.getD_some] at HS g2 g3
            by_cases hd : d = y
            · have hne : ((d.toNat : Int) != (y.toNat : Int)) = false := by rw [hd]; simp
              rw [decide_eq_false (by simpa using hd), Bool.false_or] at HS
              replace HS := Lib.hid HS
              clear hd
              go_wp2_with fail
              go_round
              case rel => exact ⟨k + 1, by omega, by go_num, Lib.hid HS.out.symm⟩
              case measure => simp [intOf]; omega
            · have hne : ((d.toNat : Int) != (y.toNat : Int)) = true := by
                rw [bne_iff_ne]; intro h; exact hd (UInt8.toNat_inj.1 (by exact_mod_cast h))
              rw [decide_eq_true hd, Bool.true_or] at HS
              replace HS := Lib.hid HS
              clear hd
              go_wp2_with fail
              go_ret
              exact ⟨ret_bool HS.out.symm, rfl⟩
        · have HS : Hid (aclash (g.drop (off + (k + 1))) (l.drop (k + 1)) = RR) := Lib.hid (by
            rw [← HT.out, aclash_end _ _ _ (by omega), aclash_end _ _ _ (by omega)])
          clear HT
          go_wp2_with fail
          go_round
          case rel => exact ⟨k + 1, by omega, by go_num, HS⟩
          case measure => simp [intOf]; omega
      · have HS : Hid (false = RR) := Lib.hid (by rw [← HT.out, show l.drop k = [] from List.drop_eq_nil_of_le (by omega), aclash_nil])
        clear HT
        go_wp2_with fail
        go_ret
        exact ⟨ret_bool HS.out, rfl⟩
end Go.Proofs.Ytlaomllgjiochaa
