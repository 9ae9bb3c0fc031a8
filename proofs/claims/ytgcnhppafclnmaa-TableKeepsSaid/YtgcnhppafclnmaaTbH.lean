/- TableLast: what its states are, in plain words. -/
import Derived.Test.YtgcnhppafclnmaaTbG
import Derived.Test.YtgcnhppafclnmaaArrV
namespace Go.Proofs.Ytgcnhppafclnmaa
open Go.RowKit

/-- The number that the i-th one tells, below m. -/
def la (gs : List Int) (m i : Nat) : Nat := (low (gs.getD i 0) m).toNat
theorem la_lt (gs : List Int) (m i : Nat) (h1 : 1 ≤ m) (h2 : m ≤ 100000) : la gs m i < m := by
  have := low_bd (gs.getD i 0) m (by omega) (by omega)
  unfold la; omega
theorem la_low (gs : List Int) (m i : Nat) (x : Int) (hx : gs[i]? = some x) (h1 : 1 ≤ m) (h2 : m ≤ 100000) (w : World) : Calls Try.prog 24 #[.int .i64 x, .int .i64 m] w fun e w' => e = .returned (.int .i64 (la gs m i)) ∧ w = w' := by
  have hb := low_bd x m (by omega) (by omega)
  have e : ((la gs m i : Nat) : Int) = low x m := by
    unfold la
    rw [List.getD_eq_getElem?_getD, hx]
    exact Int.toNat_of_nonneg hb.1
  rw [e]
  exact low_any x m w (by omega) (by omega)
/-- A table that fields were put into, one by one. -/
def tall (most : Nat) (fl : Nat → Fd) : Nat → Tb
  | 0 => tnew most
  | k + 1 => (tall most fl k).ins (fl k)
theorem tall_most (most : Nat) (fl : Nat → Fd) (k : Nat) : (tall most fl k).most = most := by
  induction k with
  | zero => rfl
  | succ k ih => rw [tall, Tb.ins_most, ih]
theorem tall_ok (most : Nat) (fl : Nat → Fd) (k : Nat) : (tall most fl k).Ok := by
  induction k with
  | zero => exact tnew_ok most
  | succ k ih => exact Tb.ins_ok _ _ ih
theorem tall_F (most : Nat) (fl : Nat → Fd) (h : ∀ i, (fl i).size ≤ most) (k : Nat) : (tall most fl k).F = (List.range k).map fl := by
  induction k with
  | zero => rfl
  | succ k ih => rw [tall, Tb.ins_yes _ _ (by rw [tall_most]; exact h k), List.range_succ, List.map_append, ← ih]; rfl
theorem tall_get (most : Nat) (fl : Nat → Fd) (h : ∀ i, (fl i).size ≤ most) (k i : Nat) (hi : i < k) : (tall most fl k).get i = if (tall most fl k).gone ≤ i then some (fl i) else none := by
  unfold Tb.get
  rw [tall_F most fl h]
  split
  · simp [hi]
  · rfl
theorem tall_l (most : Nat) (fl : Nat → Fd) (h : ∀ i, (fl i).size ≤ most) (k j : Nat) (hj : (tall most fl k).gone + j < k) : (tall most fl k).l[j]? = some (fl ((tall most fl k).gone + j)) := by
  unfold Tb.l
  rw [List.getElem?_drop, tall_F most fl h]
  simp [hj]
theorem tall_len (most : Nat) (fl : Nat → Fd) (h : ∀ i, (fl i).size ≤ most) (k : Nat) : (tall most fl k).gone + (tall most fl k).l.length = k := by
  rw [Tb.len_add _ (tall_ok most fl k), tall_F most fl h]; simp

def nmv (n : Nat) : ByteArray := if n = 0 then ⟨#[97]⟩ else if n = 1 then ⟨#[98, 99]⟩ else if n = 2 then ⟨#[100, 45, 101]⟩ else ⟨#[120]⟩
theorem nmv_inj {m n : Nat} (hm : m < 4) (hn : n < 4) (h : nmv m = nmv n) : m = n := by
  have h1 : m = 0 ∨ m = 1 ∨ m = 2 ∨ m = 3 := by omega
  have h2 : n = 0 ∨ n = 1 ∨ n = 2 ∨ n = 3 := by omega
  rcases h1 with rfl | rfl | rfl | rfl <;> rcases h2 with rfl | rfl | rfl | rfl <;> first | rfl | (revert h; decide)
theorem nmv_size (n : Nat) : (nmv n).size ≤ 3 := by unfold nmv; split <;> (try split) <;> (try split) <;> decide
def dg (i : Nat) : ByteArray := ⟨#[UInt8.ofNat (48 + i % 10)]⟩
def lfl (gs : List Int) (i : Nat) : Fd := ⟨nmv (la gs 4 i), dg i⟩
theorem lfl_size (gs : List Int) (i : Nat) : (lfl gs i).size ≤ 36 := by
  have := nmv_size (la gs 4 i)
  unfold lfl Fd.size
  have : (dg i).size = 1 := rfl
  simp only [this]; omega
/-- The last one of a name, so far. -/
def li (gs : List Int) (n : Nat) : Nat → Int
  | 0 => -1
  | k + 1 => if la gs 4 k = n then (k : Int) else li gs n k
theorem li_bd (gs : List Int) (n k : Nat) : -1 ≤ li gs n k ∧ li gs n k < (k : Int) := by
  induction k with
  | zero => simp [li]
  | succ k ih => unfold li; split <;> omega
theorem li_is (gs : List Int) (n : Nat) : ∀ k, (∃ j, li gs n k = (j : Nat) ∧ j < k ∧ la gs 4 j = n ∧ ∀ i, j < i → i < k → la gs 4 i ≠ n) ∨ (li gs n k = -1 ∧ ∀ i, i < k → la gs 4 i ≠ n)
  | 0 => .inr ⟨rfl, fun i h => by omega⟩
  | k + 1 => by
    unfold li
    by_cases h : la gs 4 k = n
    · rw [if_pos h]
      exact .inl ⟨k, rfl, by omega, h, fun i h1 h2 => by omega⟩
    · rw [if_neg h]
      rcases li_is gs n k with ⟨j, h1, h2, h3, h4⟩ | ⟨h1, h2⟩
      · refine .inl ⟨j, h1, by omega, h3, fun i h5 h6 => ?_⟩
        by_cases hi : i = k
        · subst hi; exact h
        · exact h4 i h5 (by omega)
      · refine .inr ⟨h1, fun i h5 => ?_⟩
        by_cases hi : i = k
        · subst hi; exact h
        · exact h2 i (by omega)
/-- What Find answers of a name. -/
theorem last_find (gs : List Int) (most : Nat) (hm : 40 ≤ most) (k n : Nat) (hn : n < 4) :
    ∃ a ok, (tall most (lfl gs) k).find ⟨nmv n, ⟨#[110, 111, 110, 101]⟩⟩ = (a, ok, false) ∧ ok = (decide (((tall most (lfl gs) k).gone : Int) ≤ li gs n k) && decide (0 ≤ li gs n k)) ∧ (ok = true → (a : Int) = li gs n k) ∧ a ≤ k := by
  have hs : ∀ i, (lfl gs i).size ≤ most := fun i => by have := lfl_size gs i; omega
  obtain ⟨t, ht⟩ : ∃ t, tall most (lfl gs) k = t := ⟨_, rfl⟩
  have hlen := tall_len most (lfl gs) hs k
  have hl := tall_l most (lfl gs) hs k
  rw [ht] at hlen hl ⊢
  have hd : ∀ j, j < t.l.length → t.l.getD j ⟨.empty, .empty⟩ = lfl gs (t.gone + j) := fun j hj => by
    rw [List.getD_eq_getElem?_getD, hl j (by omega)]; rfl
  have hno : (bk t.l t.l.length).find? (fun x => decide (x.2 = (⟨nmv n, ⟨#[110, 111, 110, 101]⟩⟩ : Fd))) = none := bk_find_no (fun i hi => by
    rw [hd i hi, decide_eq_false_iff_not]
    intro e
    have := congrArg (fun f : Fd => f.value.size) e
    simp only [lfl] at this
    have h1 : (dg (t.gone + i)).size = 1 := rfl
    rw [h1] at this
    exact absurd this (by decide))
  unfold Tb.find
  rw [hno]
  simp only
  have hq : ∀ j, j < t.l.length → decide ((t.l.getD j ⟨.empty, .empty⟩).name = nmv n) = decide (la gs 4 (t.gone + j) = n) := fun j hj => by
    rw [hd j hj]
    apply decide_eq_decide.2
    exact ⟨fun h => nmv_inj (la_lt gs 4 _ (by omega) (by omega)) hn h, fun h => by show nmv (la gs 4 (t.gone + j)) = nmv n; rw [h]⟩
  rcases li_is gs n k with ⟨j, h1, h2, h3, h4⟩ | ⟨h1, h2⟩
  · by_cases hg : t.gone ≤ j
    · have := bk_find_is (l := t.l) (q := fun x => decide (x.2.name = nmv n)) (k := t.l.length) (j := j - t.gone) (by omega) (by
        rw [hq _ (by omega), show t.gone + (j - t.gone) = j by omega, decide_eq_true h3]) (fun i h5 h6 => by
        rw [hq i h6, decide_eq_false (h4 _ (by omega) (by omega))])
      rw [this]
      refine ⟨_, _, rfl, ?_, (fun _ => by rw [h1]; simp only; omega), (by simp only; omega)⟩
      rw [h1, decide_eq_true (by omega), decide_eq_true (by omega)]; rfl
    · have := bk_find_no (l := t.l) (q := fun x => decide (x.2.name = nmv n)) (k := t.l.length) (fun i hi => by
        rw [hq i hi, decide_eq_false (h4 _ (by omega) (by omega))])
      rw [this]
      refine ⟨_, _, rfl, ?_, (fun h => by cases h), Nat.zero_le _⟩
      rw [h1, decide_eq_false (by omega)]; rfl
  · have := bk_find_no (l := t.l) (q := fun x => decide (x.2.name = nmv n)) (k := t.l.length) (fun i hi => by
      rw [hq i hi, decide_eq_false (h2 _ (by omega))])
    rw [this]
    refine ⟨_, _, rfl, ?_, (fun h => by cases h), Nat.zero_le _⟩
    rw [h1, decide_eq_false (show ¬ (0 : Int) ≤ -1 by omega), Bool.and_false]
end Go.Proofs.Ytgcnhppafclnmaa
