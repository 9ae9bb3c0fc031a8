/- Rows that an object owns: what a call leaves of them, if it turns other blocks. Nothing of the program. -/
import Derived.Test.YtgmanhbfdjlhbaaLib
import Derived.Laws.OwnMore
import Derived.OneCell
namespace Go.Proofs.Ytgmanhbfdjlhbaa
open Go.RowKit

section
variable {w w' : World} {base : Nat} {e : TypeId} {size : Nat} {v : Value} {n : Nat} {xs : List Value}
theorem own_fr {S : Nat → Prop} (h : w.ownsRow base e size v n xs) (f : Fr S w w') (hs : ∀ k, v.ownBlock = some k → ¬ S k) : w'.ownsRow base e size v n xs := by
  refine ⟨h.1, ?_⟩
  rcases h.2 with h2 | ⟨g, cap, cur, hv, hb, hg, r⟩
  · exact .inl h2
  · refine .inr ⟨g, cap, cur, hv, hb, ?_, r⟩
    have hlt : g < w.heap.size := (h.lt g (by rw [hv]; rfl)).2
    rw [f.block g hlt (hs g (by rw [hv]; rfl))]
    exact hg
theorem own_base {base2 : Nat} (h : w.ownsRow base e size v n xs) (hb : ∀ k, v.ownBlock = some k → base2 ≤ k) : w.ownsRow base2 e size v n xs := by
  refine ⟨h.1, ?_⟩
  rcases h.2 with h2 | ⟨g, cap, cur, hv, _, r⟩
  · exact .inl h2
  · exact .inr ⟨g, cap, cur, hv, hb g (by rw [hv]; rfl), r⟩
theorem heap_fr {S : Nat → Prop} {p : Nat} {o : Obj} (h : w.heap[p]? = some o) (f : Fr S w w') (hs : ¬ S p) : w'.heap[p]? = some o := by
  have hlt : p < w.heap.size := by
    rcases Nat.lt_or_ge p w.heap.size with h1 | h1
    · exact h1
    · rw [Array.getElem?_eq_none h1] at h; cases h
  rw [f.block p hlt hs]; exact h
theorem heap_lt {p : Nat} {o : Obj} (h : w.heap[p]? = some o) : p < w.heap.size := by
  rcases Nat.lt_or_ge p w.heap.size with h1 | h1
  · exact h1
  · rw [Array.getElem?_eq_none h1] at h; cases h
/-- nil, or a block of its own. -/
theorem own_cases {A : Option Addr} {c : Nat} (h : w.ownsRow base e 1 (.slice A n c) n xs) : (A = none ∧ n = 0 ∧ c = 0 ∧ xs = []) ∨ ∃ g, A = some ⟨g, 0, none⟩ ∧ base ≤ g ∧ g < w.heap.size := by
  rcases h.2 with ⟨h1, h2⟩ | ⟨g, cap, cur, hv, hb, hg, _⟩
  · injection h1 with h3 h4 h5
    have hl := h.1
    exact .inl ⟨h3, h2, h5, List.eq_nil_of_length_eq_zero (by omega)⟩
  · injection hv with h3
    exact .inr ⟨g, h3, hb, heap_lt hg⟩
end
/-- A list of bools as cells. -/
def bo (l : List Bool) : List Value := l.map Value.bool
@[simp] theorem bo_length (l : List Bool) : (bo l).length = l.length := by simp [bo]
theorem bo_get {l : List Bool} {k : Nat} (hk : k < l.length) : (bo l)[k]? = some (.bool l[k]) := by simp [bo, hk]
theorem bo_append (l m : List Bool) : bo (l ++ m) = bo l ++ bo m := by simp [bo]
theorem bo_drop (l : List Bool) (k : Nat) : bo (l.drop k) = (bo l).drop k := by simp [bo, List.map_drop]
theorem bo_one (l : List Bool) : ∀ u ∈ bo l, u.oneCell' = true := by
  intro u hu; obtain ⟨_, _, rfl⟩ := List.mem_map.1 hu; rfl
theorem tw_len (l : List Bool) : ∀ k, (∀ j, j < k → l[j]? = some true) → l[k]? ≠ some true → (l.takeWhile id).length = k := by
  induction l with
  | nil =>
    intro k h _
    cases k with
    | zero => rfl
    | succ k => have := h 0 (by omega); simp at this
  | cons b l ih =>
    intro k h h2
    cases k with
    | zero => cases b <;> simp at h2 ⊢
    | succ k =>
      have hb := h 0 (by omega)
      simp at hb
      subst hb
      simp only [List.takeWhile_cons, id, if_true, List.length_cons]
      rw [ih k (fun j hj => by simpa using h (j + 1) (by omega)) (by simpa using h2)]
end Go.Proofs.Ytgmanhbfdjlhbaa
