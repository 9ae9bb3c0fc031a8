/- FlightOnce, FlightEach: what their states are, in plain words. No program. -/
import Derived.Test.YtifigmhecgbfoaaFlN
namespace Go.Proofs.Ytifigmhecgbfoaa
open Go.RowKit

/-- Packet i has number 2 i, was sent at tick i. -/
def evP (cs : Nat → Bool) (i : Nat) : Pk := ⟨2 * i, i, cs i⟩
def ev0 (cs : Nat → Bool) (n : Nat) : Fl := ⟨(List.range n).map (evP cs), decide (0 < n), false, 2 * (n - 1), n - 1, 0⟩
theorem ev0_zero (cs : Nat → Bool) : fnew = ev0 cs 0 := rfl
theorem ev0_ok (cs : Nat → Bool) (n : Nat) (h : n ≤ 1000) : fsentok (ev0 cs n) (2 * n) n = true := by
  unfold fsentok ev0
  rw [decide_eq_true (by omega), decide_eq_true (by simp only; omega)]
  rcases Nat.eq_zero_or_pos n with h0 | h0
  · subst h0; rfl
  · have : decide (2 * n ≤ 2 * (n - 1)) = false := decide_eq_false (by omega)
    simp only [this, Bool.and_false]; rfl
theorem ev0_succ (cs : Nat → Bool) (n : Nat) : fsent (ev0 cs n) (2 * n) n (cs n) = ev0 cs (n + 1) := by
  unfold fsent ev0
  simp [List.range_succ, evP]

/-- A Flight of which those are under way that 'keep' says. -/
structure Ev (cs : Nat → Bool) (n : Nat) (keep : Nat → Bool) (f : Fl) : Prop where
  l : f.l = ((List.range n).filter keep).map (evP cs)
  any : f.any = decide (0 < n)
  last : f.last = 2 * (n - 1)
theorem Ev.zero (cs : Nat → Bool) (n : Nat) : Ev cs n (fun _ => true) (ev0 cs n) := ⟨by simp only [ev0]; rw [List.filter_eq_self.2 (fun _ _ => rfl)], rfl, rfl⟩
def evN (n : Nat) (keep : Nat → Bool) : List Nat := ((List.range n).filter keep).map (2 * ·)
section
variable {cs : Nat → Bool} {n : Nat} {keep : Nat → Bool} {f : Fl}
theorem Ev.take (h : Ev cs n keep f) (q : Pk → Bool) : Ev cs n (fun i => keep i && !q (evP cs i)) (ftake f q) ∧ fnums f q = evN n (fun i => keep i && q (evP cs i)) := by
  refine ⟨⟨?_, h.any, h.last⟩, ?_⟩
  · unfold ftake
    simp only [h.l, List.filter_map, List.filter_filter]
    congr 1
    apply List.filter_congr
    intro i _
    simp [Function.comp, Bool.and_comm]
  · unfold fnums evN
    simp only [h.l, List.filter_map, List.filter_filter, List.map_map]
    rw [show (Pk.num ∘ evP cs) = (2 * ·) from rfl]
    congr 1
    apply List.filter_congr
    intro i _
    simp [Function.comp, Bool.and_comm]
theorem Ev.heard (h : Ev cs n keep f) (rs : List Rg) : Ev cs n keep (fheard f rs) := ⟨h.l, h.any, h.last⟩
theorem Ev.good (h : Ev cs n keep f) (lo hi : Nat) (h1 : lo ≤ hi) (h2 : hi ≤ 2 * (n - 1)) (hn : 0 < n) : ([⟨lo, hi⟩] : List Rg).any (rbad f) = false := by
  simp [rbad, h.any, h.last]
  omega
theorem evN_mem {x : Nat} (h : x ∈ evN n keep) : ∃ i, x = 2 * i ∧ i < n ∧ keep i = true := by
  unfold evN at h
  simp only [List.mem_map, List.mem_filter, List.mem_range] at h
  obtain ⟨i, ⟨h1, h2⟩, rfl⟩ := h
  exact ⟨i, rfl, h1, h2⟩
theorem evN_in {i : Nat} (h1 : i < n) (h2 : keep i = true) : 2 * i ∈ evN n keep := by
  unfold evN
  simp only [List.mem_map, List.mem_filter, List.mem_range]
  exact ⟨i, ⟨h1, h2⟩, rfl⟩
theorem evN_rise (n : Nat) (keep : Nat → Bool) : (evN n keep).Pairwise (· ≠ ·) := by
  unfold evN
  rw [List.pairwise_map]
  refine List.Pairwise.filter _ ?_
  have := List.pairwise_lt_range (n := n)
  exact this.imp (fun h => by omega)
theorem evN_len (n : Nat) (keep : Nat → Bool) : (evN n keep).length ≤ n := by
  unfold evN
  rw [List.length_map]
  have := List.length_filter_le keep (List.range n)
  simpa using this
theorem Ev.len (h : Ev cs n keep f) : f.l.length = ((List.range n).filter keep).length := by rw [h.l]; simp
theorem find_range (p : Nat → Bool) (i : Nat) : ∀ n, (((List.range n).filter p).find? fun j => decide (2 * j = 2 * i)) = if i < n ∧ p i = true then some i else none
  | 0 => by simp
  | n + 1 => by
    rw [List.range_succ, List.filter_append, List.find?_append, find_range p i n]
    by_cases h1 : i < n
    · by_cases h2 : p i = true
      · rw [if_pos ⟨h1, h2⟩, if_pos ⟨by omega, h2⟩]; rfl
      · rw [if_neg (fun h => h2 h.2), if_neg (fun h => h2 h.2)]
        cases hp : p n
        · simp [hp]
        · simp [hp]; omega
    · rw [if_neg (fun h => h1 h.1)]
      by_cases h3 : i = n
      · subst h3
        cases hp : p i
        · simp [hp]
        · simp [hp]
      · rw [if_neg (fun h => by omega)]
        cases hp : p n
        · simp [hp]
        · simp [hp]; omega
theorem Ev.age (h : Ev cs n keep f) (i : Nat) (hi : i < n) : fage f (2 * i) = if keep i = true then some i else none := by
  unfold fage
  rw [h.l, List.find?_map, Option.map_map]
  have : ((fun x : Pk => decide (x.num = 2 * i)) ∘ evP cs) = fun j => decide (2 * j = 2 * i) := rfl
  rw [this, find_range]
  by_cases h2 : keep i = true
  · rw [if_pos ⟨hi, h2⟩, if_pos h2]; rfl
  · rw [if_neg (fun h => h2 h.2), if_neg h2]; rfl
theorem range_part (p q : Nat → Bool) : ∀ n, ((List.range n).filter fun i => p i && !q i).length + ((List.range n).filter fun i => p i && q i).length = ((List.range n).filter p).length
  | 0 => by simp
  | n + 1 => by
    have := range_part p q n
    rw [List.range_succ, List.filter_append, List.filter_append, List.filter_append, List.length_append, List.length_append, List.length_append]
    cases hp : p n <;> cases hq : q n <;> simp [hp, hq] <;> omega
end

/-- How often each number was told. -/
def tally (T : Nat → Nat) (l : List Nat) (x : Nat) : Nat := T x + l.count x
theorem tally_snoc (T : Nat → Nat) (l : List Nat) (k : Nat) (hk : k < l.length) (x : Nat) : tally T (l.take (k + 1)) x = if x = l[k] then tally T (l.take k) x + 1 else tally T (l.take k) x := by
  unfold tally
  rw [List.take_succ_eq_append_getElem hk, List.count_append]
  by_cases h : x = l[k]
  · rw [if_pos h, h]; simp; omega
  · rw [if_neg h, List.count_eq_zero_of_not_mem (l := [l[k]]) (by simpa using h)]; omega
theorem count_take {l : List Nat} (hd : l.Pairwise (· ≠ ·)) {k : Nat} (hk : k < l.length) : (l.take k).count l[k] = 0 := by
  rw [List.count_eq_zero]
  intro hm
  obtain ⟨j, hj, e⟩ := List.getElem_of_mem hm
  simp at hj
  rw [List.getElem_take] at e
  exact (List.pairwise_iff_getElem.1 hd) j k (by omega) hk (by omega) e
/-- What is told tallies with what is under way. -/
def Told (n : Nat) (keep : Nat → Bool) (T : Nat → Nat) : Prop := ∀ x, T x = if x % 2 = 0 ∧ x / 2 < n ∧ keep (x / 2) = false then 1 else 0
theorem told_zero (n : Nat) : Told n (fun _ => true) (fun _ => 0) := fun x => by simp
theorem told_even {n : Nat} {keep : Nat → Bool} {T : Nat → Nat} (h : Told n keep T) (i : Nat) (hi : i < n) : T (2 * i) = if keep i = true then 0 else 1 := by
  rw [h (2 * i), show 2 * i / 2 = i by omega]
  cases hk : keep i <;> simp [hi]
theorem count_evN (n : Nat) (keep : Nat → Bool) (x : Nat) : (evN n keep).count x = if x % 2 = 0 ∧ x / 2 < n ∧ keep (x / 2) = true then 1 else 0 := by
  by_cases h : x % 2 = 0 ∧ x / 2 < n ∧ keep (x / 2) = true
  · rw [if_pos h]
    have hm : x ∈ evN n keep := by have := evN_in (n := n) (keep := keep) h.2.1 h.2.2; rwa [show 2 * (x / 2) = x by omega] at this
    have hd : (evN n keep).Nodup := evN_rise n keep
    rw [hd.count, if_pos hm]
  · rw [if_neg h, List.count_eq_zero]
    intro hm
    obtain ⟨i, rfl, h1, h2⟩ := evN_mem hm
    exact h ⟨by omega, by rwa [show 2 * i / 2 = i by omega], by rwa [show 2 * i / 2 = i by omega]⟩
theorem told_next {n : Nat} {keep q : Nat → Bool} {T : Nat → Nat} (h : Told n keep T) : Told n (fun i => keep i && !q i) (tally T (evN n fun i => keep i && q i)) := by
  intro x
  unfold tally
  rw [count_evN, h x]
  by_cases h1 : x % 2 = 0 ∧ x / 2 < n
  · cases hk : keep (x / 2) <;> cases hq : q (x / 2) <;> simp [h1, hk, hq]
  · rw [if_neg (fun h => h1 ⟨h.1, h.2.1⟩), if_neg (fun h => h1 ⟨h.1, h.2.1⟩), if_neg (fun h => h1 ⟨h.1, h.2.1⟩)]
theorem tally_append (T : Nat → Nat) (l m : List Nat) : tally (tally T l) m = tally T (l ++ m) := by
  funext x; unfold tally; rw [List.count_append]; omega
end Go.Proofs.Ytifigmhecgbfoaa
