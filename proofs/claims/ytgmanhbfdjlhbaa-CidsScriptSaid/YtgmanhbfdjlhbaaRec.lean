/- Rows of records of any kind: their cells as one list. Nothing of the program. -/
import Derived.Test.YtgmanhbfdjlhbaaRow
namespace Go.Proofs.Ytgmanhbfdjlhbaa
open Go.RowKit

section
variable {α : Type} (c : α → List Value) {s : Nat}
def rv : List α → List Value
  | [] => []
  | x :: l => c x ++ rv l
theorem rv_append (l m : List α) : rv c (l ++ m) = rv c l ++ rv c m := by
  induction l with
  | nil => rfl
  | cons x l ih => simp [rv, ih]
theorem rv_single (x : α) : rv c [x] = c x := by simp [rv]
theorem rv_length (hc : ∀ x, (c x).length = s) (l : List α) : (rv c l).length = l.length * s := by
  induction l with
  | nil => simp [rv]
  | cons x l ih => simp [rv, ih, hc, Nat.succ_mul]; omega
theorem rv_one (h1 : ∀ x, ∀ u ∈ c x, u.oneCell' = true) (l : List α) : ∀ u ∈ rv c l, u.oneCell' = true := by
  induction l with
  | nil => intro u hu; cases hu
  | cons x l ih =>
    intro u hu
    rcases List.mem_append.1 hu with hu | hu
    · exact h1 x u hu
    · exact ih u hu
theorem rv_get (hc : ∀ x, (c x).length = s) : ∀ (l : List α) (k : Nat) (x : α), l[k]? = some x → ∀ j v, (c x)[j]? = some v → (rv c l)[k * s + j]? = some v
  | y :: l, 0, x, h, j, v, hv => by
    simp at h; subst h
    have hj : j < s := by have := (List.getElem?_eq_some_iff.1 hv).1; rwa [hc] at this
    rw [rv, List.getElem?_append_left (by rw [hc]; omega)]
    simpa using hv
  | y :: l, k + 1, x, h, j, v, hv => by
    have := rv_get hc l k x (by simpa using h) j v hv
    rw [rv, List.getElem?_append_right (by rw [hc, Nat.succ_mul]; omega), hc, show (k + 1) * s + j - s = k * s + j by rw [Nat.succ_mul]; omega]
    exact this
theorem rv_take (hc : ∀ x, (c x).length = s) (l : List α) (k : Nat) : rv c (l.take k) = (rv c l).take (k * s) := by
  induction l generalizing k with
  | nil => simp [rv]
  | cons x l ih =>
    cases k with
    | zero => simp [rv]
    | succ k => rw [List.take_succ_cons, rv, rv, ih, List.take_append, hc, List.take_of_length_le (l := c x) (by rw [hc, Nat.succ_mul]; omega), show (k + 1) * s - s = k * s by rw [Nat.succ_mul]; omega]
theorem rv_drop (hc : ∀ x, (c x).length = s) (l : List α) (k : Nat) : rv c (l.drop k) = (rv c l).drop (k * s) := by
  induction l generalizing k with
  | nil => simp [rv]
  | cons x l ih =>
    cases k with
    | zero => simp [rv]
    | succ k => rw [List.drop_succ_cons, rv, ih, List.drop_append, hc, (List.drop_eq_nil_of_le (by rw [hc, Nat.succ_mul]; omega) : List.drop ((k + 1) * s) (c x) = []), show (k + 1) * s - s = k * s by rw [Nat.succ_mul]; omega, List.nil_append]
theorem set_split (l : List α) (k : Nat) (y : α) (hk : k < l.length) : l.set k y = l.take k ++ y :: l.drop (k + 1) := List.set_eq_take_append_cons_drop .. |>.trans (if_pos hk)
theorem rv_set (hc : ∀ x, (c x).length = s) (l : List α) (k : Nat) (y : α) (hk : k < l.length) : rv c (l.set k y) = (rv c l).take (k * s) ++ c y ++ (rv c l).drop ((k + 1) * s) := by
  rw [set_split l k y hk, rv_append, rv_take c hc, rv, rv_drop c hc, List.append_assoc]
/-- A record's cells. -/
theorem rv_cell {W : World} {A : Option Addr} {l : List α} (hc : ∀ x, (c x).length = s) (hs : 0 < s) (hr : Rd W A (rv c l)) {k : Nat} (hk : k < l.length) :
    ∃ b off, A = some ⟨b, off, none⟩ ∧ ∀ j v, (c l[k])[j]? = some v → W.cell? ⟨b, off + k * s + j, none⟩ = some v := by
  obtain ⟨b, off, e, h⟩ := hr (by rw [rv_length c hc]; exact Nat.mul_pos (by omega) hs)
  refine ⟨b, off, e, fun j v hv => ?_⟩
  rw [Nat.add_assoc]
  exact h _ _ (rv_get c hc l k _ (List.getElem?_eq_getElem hk) j v hv)
end
/-- A row of its own reads so. -/
theorem Rd.of_ownS {w : World} {base e s n cp : Nat} {A : Option Addr} {xs : List Value} (h : w.ownsRow base e s (.slice A n cp) n xs) : Rd w A xs := fun hn => by
  have hl := h.1
  rcases h.2 with ⟨h1, h2⟩ | ⟨g, cap, cur, hv, _, hg, hnc, _, hcs, ht⟩
  · subst h2; rw [Nat.zero_mul] at hl; omega
  · injection hv with hA _ _
    subst hA
    refine ⟨g, 0, rfl, fun k u hu => ?_⟩
    rw [Nat.zero_add, cell_of_row w g k cur _ (0, 0) hg]
    rw [← ht, List.getElem?_take] at hu
    split at hu
    · simpa using hu
    · cases hu
/-- nil, or a block of its own. -/
theorem ownS_cases {w : World} {base e s n cp : Nat} {A : Option Addr} {xs : List Value} (h : w.ownsRow base e s (.slice A n cp) n xs) : (A = none ∧ n = 0 ∧ cp = 0 ∧ xs = []) ∨ ∃ g, A = some ⟨g, 0, none⟩ ∧ base ≤ g ∧ g < w.heap.size ∧ n ≤ cp ∧ cp ≤ maxLen := by
  rcases h.2 with ⟨h1, h2⟩ | ⟨g, cap, cur, hv, hb, hg, hnc, hm, _⟩
  · injection h1 with h3 h4 h5
    have hl := h.1
    exact .inl ⟨h3, h2, h5, List.eq_nil_of_length_eq_zero (by rw [hl, h2]; simp)⟩
  · injection hv with h3 h4 h5
    subst h5
    exact .inr ⟨g, h3, hb, heap_lt hg, hnc, hm⟩
end Go.Proofs.Ytgmanhbfdjlhbaa
