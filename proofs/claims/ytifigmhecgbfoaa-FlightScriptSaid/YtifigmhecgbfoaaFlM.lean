/- FlightLate: what its states are, in plain words. No program. -/
import Derived.Test.YtifigmhecgbfoaaFlL
namespace Go.Proofs.Ytifigmhecgbfoaa
open Go.RowKit

theorem ftake_len (f : Fl) (q : Pk → Bool) : (fnums f q).length + (ftake f q).l.length = f.l.length := by
  unfold fnums ftake
  rw [List.length_map]
  show (f.l.filter q).length + (f.l.filter (fun x => !q x)).length = f.l.length
  generalize f.l = l
  induction l with
  | nil => rfl
  | cons x l ih =>
    cases h : q x <;> simp [h] <;> omega
theorem filter_range (a b : Nat) : ∀ n, ((List.range n).filter fun i => decide (a ≤ i) && decide (i < b)).length = min n b - a
  | 0 => by simp
  | n + 1 => by
    rw [List.range_succ, List.filter_append, List.length_append, filter_range a b n]
    by_cases h : a ≤ n ∧ n < b
    · simp [h.1, h.2]; omega
    · have : (decide (a ≤ n) && decide (n < b)) = false := by
        rw [← Bool.not_eq_true, Bool.and_eq_true, decide_eq_true_eq, decide_eq_true_eq]; exact h
      simp [List.filter_cons, this]; omega
theorem filter_mono {α : Type} (l : List α) (q r : α → Bool) (h : ∀ x ∈ l, q x = true → r x = true) : (l.filter q).length ≤ (l.filter r).length := by
  induction l with
  | nil => simp
  | cons x l ih =>
    have := ih (fun y hy => h y (List.mem_cons_of_mem _ hy))
    cases hq : q x
    · cases hr : r x <;> simp [hq, hr] <;> omega
    · have hr := h x (List.mem_cons_self ..) hq
      simp [hq, hr]; omega

def lateF (cs : Nat → Bool) (n : Nat) : Fl := ⟨(List.range n).map fun i => ⟨i, i, cs i⟩, decide (0 < n), false, n - 1, n - 1, 0⟩
def lateW (cs : Nat → Bool) (pto tick n : Nat) : List Nat := (List.range n).filter fun i => cs i && decide (i + pto ≤ tick)
theorem lateF_zero (cs : Nat → Bool) : fnew = lateF cs 0 := rfl
theorem lateF_ok (cs : Nat → Bool) (n : Nat) (h : n ≤ 1000) : fsentok (lateF cs n) n n = true := by
  unfold fsentok lateF
  rw [decide_eq_true (by omega), decide_eq_true (by simp only; omega)]
  rcases Nat.eq_zero_or_pos n with h0 | h0
  · subst h0; rfl
  · have : decide (n ≤ n - 1) = false := decide_eq_false (by omega)
    simp only [this, Bool.and_false]; rfl
theorem lateF_succ (cs : Nat → Bool) (n : Nat) : fsent (lateF cs n) n n (cs n) = lateF cs (n + 1) := by
  unfold fsent lateF
  simp [List.range_succ]
theorem lateW_yes (cs : Nat → Bool) (pto tick n : Nat) (h : (cs n && decide (n + pto ≤ tick)) = true) : lateW cs pto tick (n + 1) = lateW cs pto tick n ++ [n] := by
  unfold lateW; rw [List.range_succ, List.filter_append, List.filter_cons, if_pos h]; rfl
theorem lateW_no (cs : Nat → Bool) (pto tick n : Nat) (h : (cs n && decide (n + pto ≤ tick)) = false) : lateW cs pto tick (n + 1) = lateW cs pto tick n := by
  unfold lateW; rw [List.range_succ, List.filter_append, List.filter_cons, if_neg (by rw [h]; simp)]; simp
theorem lateW_len (cs : Nat → Bool) (pto tick n : Nat) : (lateW cs pto tick n).length ≤ n := by
  unfold lateW
  have := List.length_filter_le (fun i => cs i && decide (i + pto ≤ tick)) (List.range n)
  simpa using this

def lateQ (pto tick : Nat) : Pk → Bool := qlost false 0 tick (max (pto : Int) 1)
theorem lateQ_eq (pto tick : Nat) (hp : 1 ≤ pto) (x : Pk) : lateQ pto tick x = (x.cnt && decide (x.tick + pto ≤ tick)) := by
  unfold lateQ qlost
  rw [Bool.false_and, Bool.false_or]
  congr 1
  rw [show max (pto : Int) 1 = pto from by omega]
  by_cases h : x.tick + pto ≤ tick
  · rw [decide_eq_true h, decide_eq_true (by omega), decide_eq_true (by omega)]; rfl
  · rw [decide_eq_false h]
    by_cases h2 : (x.tick : Int) ≤ tick
    · rw [decide_eq_true h2, decide_eq_false (by omega)]; rfl
    · rw [decide_eq_false h2]; rfl
theorem lateW_nums (cs : Nat → Bool) (pto tick n : Nat) (hp : 1 ≤ pto) : fnums (lateF cs n) (lateQ pto tick) = lateW cs pto tick n := by
  unfold fnums lateF lateW
  simp only [List.filter_map, List.map_map]
  rw [show (Pk.num ∘ fun i => (⟨i, i, cs i⟩ : Pk)) = id from rfl, List.map_id]
  apply List.filter_congr
  intro i _
  simp only [Function.comp]
  rw [lateQ_eq pto tick hp]
def late1 (cs : Nat → Bool) (pto tick n : Nat) : Fl := ftake (lateF cs n) (lateQ pto tick)
theorem late1_len (cs : Nat → Bool) (pto tick n : Nat) (hp : 1 ≤ pto) : (late1 cs pto tick n).l.length = n - (lateW cs pto tick n).length := by
  have := ftake_len (lateF cs n) (lateQ pto tick)
  rw [lateW_nums cs pto tick n hp] at this
  have h2 : (lateF cs n).l.length = n := by simp [lateF]
  unfold late1
  omega
theorem late1_none (cs : Nat → Bool) (pto tick n : Nat) : fnums (late1 cs pto tick n) (lateQ pto tick) = [] ∧ ftake (late1 cs pto tick n) (lateQ pto tick) = late1 cs pto tick n := by
  unfold late1 fnums ftake
  constructor
  · simp [List.filter_filter]
  · simp [List.filter_filter]
def late2 (cs : Nat → Bool) (pto tick n : Nat) : Fl := ftake (fheard (late1 cs pto tick n) [⟨n - 1, n - 1⟩]) (qcame [⟨n - 1, n - 1⟩])
def lateR (n : Nat) : Pk → Bool := qlost true (n - 1) 0 1000
def late3 (cs : Nat → Bool) (pto tick n : Nat) : Fl := ftake (late2 cs pto tick n) (lateR n)
theorem late_good (cs : Nat → Bool) (pto tick n : Nat) (hn : 5 ≤ n) : ([⟨n - 1, n - 1⟩] : List Rg).any (rbad (late1 cs pto tick n)) = false := by
  simp [rbad, late1, ftake, lateF]
  omega
theorem late_sum (cs : Nat → Bool) (pto tick n : Nat) (hp : 1 ≤ pto) :
    (fnums (late1 cs pto tick n) (qcame [⟨n - 1, n - 1⟩])).length + (fnums (late2 cs pto tick n) (lateR n)).length + (lateW cs pto tick n).length + (late3 cs pto tick n).l.length = n := by
  have h1 := ftake_len (late2 cs pto tick n) (lateR n)
  have h2 := ftake_len (fheard (late1 cs pto tick n) [⟨n - 1, n - 1⟩]) (qcame [⟨n - 1, n - 1⟩])
  have h3 := late1_len cs pto tick n hp
  have h4 := lateW_len cs pto tick n
  have h5 : (fheard (late1 cs pto tick n) [⟨n - 1, n - 1⟩]).l.length = (late1 cs pto tick n).l.length := rfl
  have h6 : (fnums (fheard (late1 cs pto tick n) [⟨n - 1, n - 1⟩]) (qcame [⟨n - 1, n - 1⟩])).length = (fnums (late1 cs pto tick n) (qcame [⟨n - 1, n - 1⟩])).length := rfl
  unfold late3
  unfold late2 at h1 ⊢
  omega
theorem late3_len (cs : Nat → Bool) (pto tick n : Nat) (hn : 5 ≤ n) : (late3 cs pto tick n).l.length ≤ 2 := by
  unfold late3 late2 late1 ftake fheard lateF
  simp only [List.filter_filter]
  rw [List.filter_map, List.length_map]
  refine Nat.le_trans (filter_mono _ _ (fun i => decide (n - 3 ≤ i) && decide (i < n - 1)) (fun i hi hq => ?_)) ?_
  · have hi' : i < n := by simpa using hi
    simp only [Function.comp, lateR, qlost, qcame, Rg.has, List.any_cons, List.any_nil] at hq
    simp at hq
    simp
    omega
  · rw [filter_range]; omega
theorem late2_q (cs : Nat → Bool) (pto tick n : Nat) (hn : 5 ≤ n) : qlost (late2 cs pto tick n).came (late2 cs pto tick n).largest 0 (max 1000 1) = lateR n := by
  have h1 : (late2 cs pto tick n).came = true := by simp [late2, ftake, fheard]
  have h2 : (late2 cs pto tick n).largest = n - 1 := by simp [late2, ftake, fheard, late1, lateF]
  rw [h1, h2]; rfl
end Go.Proofs.Ytifigmhecgbfoaa
