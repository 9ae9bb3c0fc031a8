/- OutgoOrder: the plain law. -/
import Derived.Test.YtljpboikjhckiaaOutH
namespace Go.Proofs.Ytljpboikjhckiaa
open Go.RowKit

theorem turn_eval (n : Nat) (off m : Int) (e : Bool) (to : UInt8) (fr : List UInt8) (i : Nat) (x : UInt8) :
    turn1 n off m e to fr i x = if ((i < n ∧ 0 < m ∧ off ≤ i ∧ (i : Int) - off < m) ∨ (i = n ∧ e = true)) ∧ x ∈ fr then to else x := by
  unfold turn1 within
  congr 1
  simp [Bool.and_eq_true, Bool.or_eq_true]
theorem onorm_pos {off m : Int} (h : 0 ≤ off) : onorm off m = (off, m) := by rw [onorm, if_neg (by omega)]

def of1 (k : Nat) (i : Nat) : UInt8 := if i < k then 1 else 0
def of2 (x y k : Nat) (i : Nat) : UInt8 := if i < x then 1 else if i < y then 2 else if i < k then 1 else 0
def of3 (x y k : Nat) (i : Nat) : UInt8 := if i < x then 3 else if i < y then 2 else if i < k then 1 else 0
def of4 (x k : Nat) (i : Nat) : UInt8 := if i < x then 3 else if i < k then 1 else 0
def of5 (x : Nat) (i : Nat) : UInt8 := if i < x then 3 else 1

structure OrdPlan (D : List UInt8) (m k x y : Nat) : Prop where
  n1 : oNext D (mk m fun _ => 0) m m k = (0, D.take k, false, true, mk m (of1 k))
  n2 : oNext D (mk m (of1 k)) m m k = (0, [], false, false, mk m (of1 k))
  sent : cntNe ((mk m (of1 k)).take m) 0 = k
  l3 : oturn (mk m (of1 k)) m x ((y : Int) - x) false 2 [1] = mk m (of2 x y k)
  t4 : oturn (mk m (of2 x y k)) m 0 x false 3 [1, 2] = mk m (of3 x y k)
  n5 : oNext D (mk m (of3 x y k)) m m m = ((x : Int), (D.drop x).take (y - x), false, true, mk m (of4 x k))
  left : cntNe ((mk m (of4 x k)).take m) 3 = m - x
  n6 : oNext D (mk m (of4 x k)) m m m = ((k : Int), D.drop k, true, true, mk m (of5 x))
  t7 : oturn (mk m (of5 x)) m 0 m true 3 [1, 2] = mk m fun _ => 3
  n8 : oNext D (mk m fun _ => 3) m m m = (0, [], false, false, mk m fun _ => 3)
  done : odone (mk m fun _ => 3) m = true
  left0 : cntNe ((mk m fun _ => 3).take m) 3 = 0

theorem ord_plan (D : List UInt8) (m k x y : Nat) (hD : D.length = m) (hk0 : 0 < k) (hk : k < m) (hx : x < y) (hy : y ≤ k) : OrdPlan D m k x y := by
  refine ⟨?_, ?_, ?_, ?_, ?_, ?_, ?_, ?_, ?_, ?_, ?_, ?_⟩
  · have := mk_next_new (D := D) (n := m) (a := 0) (r := m) (f := fun _ => 0) (room := m) (allow := k) (by omega) (fun _ _ => by decide) (by decide) (fun j hj => by omega) (by omega) (by omega) (fun _ _ _ => rfl) (by omega) (by omega) (fun h => by omega) k (by omega)
    rw [this, List.drop_zero, decide_eq_false (by omega), Bool.false_and]
    congr 4
    apply mk_ext
    intro i hi
    simp only [of1]
    by_cases a1 : i < k <;> simp [a1] <;> omega
  · refine mk_next_none (a := k) (fun j hj => ?_) ?_ (fun j hj => ?_) (by omega) (fun _ => ⟨?_, by omega⟩) (fun h => by omega)
    · simp only [of1]; split <;> decide
    · simp only [of1]; split <;> decide
    · simp only [of1, if_pos hj]; decide
    · simp only [of1]; rw [if_neg (by omega)]
  · refine mk_cnt_pre (by omega) (fun i hi => ?_) (fun i h1 h2 => ?_)
    · simp only [of1, if_pos hi]; decide
    · simp only [of1]; rw [if_neg (by omega)]
  · rw [mk_turn, onorm_pos (by omega)]
    apply mk_ext
    intro i hi
    rw [turn_eval]
    simp only [of1, of2]
    by_cases a1 : i < x <;> by_cases a2 : i < y <;> by_cases a3 : i < k <;> simp [a1, a2, a3] <;> omega
  · rw [mk_turn, onorm_pos (by omega)]
    apply mk_ext
    intro i hi
    rw [turn_eval]
    simp only [of2, of3]
    by_cases a1 : i < x <;> by_cases a2 : i < y <;> by_cases a3 : i < k <;> simp [a1, a2, a3] <;> omega
  · have hf : of3 x y k m = 0 := by simp only [of3]; rw [if_neg (by omega), if_neg (by omega), if_neg (by omega)]
    have := mk_next_lost (D := D) (n := m) (a := x) (r := y - x) (f := of3 x y k) (room := m) (allow := m) (by omega) (fun j hj => by simp only [of3, if_pos hj]; decide) (by omega) (fun j h1 h2 => by simp only [of3]; rw [if_neg (by omega), if_pos (by omega)]) (by omega) (by omega) (fun h => by simp only [of3]; rw [if_neg (by omega), if_neg (by omega)]; split <;> decide) (y - x) (by omega)
    rw [this, decide_eq_false (by omega), Bool.false_and]
    congr 4
    apply mk_ext
    intro i hi
    rw [show x + (y - x) = y from by omega]
    simp only [of3, of4]
    (repeat' split) <;> first | rfl | omega
  · refine mk_cnt_suf (by omega) (fun i hi => ?_) (fun i h1 h2 => ?_)
    · simp only [of4, if_pos hi]
    · simp only [of4]; rw [if_neg (by omega)]; split <;> decide
  · have hf : of4 x k m = 0 := by simp only [of4]; rw [if_neg (by omega), if_neg (by omega)]
    have := mk_next_new (D := D) (n := m) (a := k) (r := m - k) (f := of4 x k) (room := m) (allow := m) (by omega) (fun j hj => by simp only [of4]; (repeat' split) <;> decide) (by rw [hf]; decide) (fun j hj => by simp only [of4, if_pos hj]; split <;> decide) (by omega) (by omega) (fun j h1 h2 => by simp only [of4]; rw [if_neg (by omega), if_neg (by omega)]) (by omega) (by omega) (fun h => by omega) (m - k) (by omega)
    rw [this, hf, decide_eq_true (by omega), decide_eq_true rfl, List.take_of_length_le (by simp; omega)]
    congr 4
    apply mk_ext
    intro i hi
    rw [show k + (m - k) = m from by omega]
    simp only [hf, and_true, true_and]
    simp only [of4, of5]
    (repeat' split) <;> first | rfl | omega
  · rw [mk_turn, onorm_pos (by omega)]
    apply mk_ext
    intro i hi
    rw [turn_eval]
    simp only [of5]
    by_cases a1 : i < x <;> by_cases a4 : i < m <;> simp [a1, a4] <;> omega
  · exact mk_next_none (a := m) (fun _ _ => by decide) (by decide) (fun _ _ => by decide) (by omega) (fun h => by omega) (fun _ => by decide)
  · exact mk_done (fun _ _ => rfl)
  · exact mk_cnt_pre (by omega) (fun i hi => by omega) (fun _ _ _ => rfl)
end Go.Proofs.Ytljpboikjhckiaa
