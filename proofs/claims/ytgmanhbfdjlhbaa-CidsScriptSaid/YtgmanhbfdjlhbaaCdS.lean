/- cids: who asks for paths below 12, in plain Lean (CidsPaths, CidsApart). -/
import Derived.Test.YtgmanhbfdjlhbaaCdR
namespace Go.Proofs.Ytgmanhbfdjlhbaa

/-- Of the names 0 to m the first 'next' have paths; hv k: one more than the number of path k's name; 0: it has none. -/
structure PI (m next : Nat) (hv : Nat → Nat) (pth : Nat → Int) : Prop where
  lo : 1 ≤ next
  hi : next ≤ m + 1
  of_ : ∀ k, k < 12 → 0 < hv k → hv k ≤ next ∧ pth (hv k - 1) = k
  to_ : ∀ j, j < next → ∃ k, k < 12 ∧ hv k = j + 1 ∧ pth j = (k : Nat)
theorem PI.start (m : Nat) : PI m 1 (fun k => if k = 0 then 1 else 0) (fun _ => 0) :=
  ⟨Nat.le_refl _, by omega, fun k _ h => by
    by_cases e : k = 0
    · subst e; simp
    · rw [if_neg e] at h; omega, fun j hj => ⟨0, by omega, by simp; omega, by simp⟩⟩
section
variable {m next : Nat} {hv : Nat → Nat} {pth : Nat → Int}
theorem PI.nn (h : PI m next hv pth) : ∀ i, i < next → 0 ≤ pth i := fun i hi => by
  obtain ⟨k, _, _, e⟩ := h.to_ i hi
  rw [e]; omega
/-- A path that has one. -/
theorem PI.old (h : PI m next hv pth) {k : Nat} (hk : k < 12) (hp : 0 < hv k) (ids toks : Nat → List UInt8) (td : Nat → Bool) (use : Int) :
    cforBy cpick (pst ids toks m next pth td use) (k : Int) = (pst ids toks m next pth td (k : Int), some (ids (hv k - 1))) := by
  obtain ⟨h1, h2⟩ := h.of_ k hk hp
  refine pst_old (k : Int) (by omega) (hv k - 1) (by omega) h.hi h2 (fun i hi e => ?_)
  obtain ⟨k', _, e1, e2⟩ := h.to_ i hi
  have : k' = k := by omega
  subst this
  omega
theorem PI.none_has (h : PI m next hv pth) {k : Nat} (hp : hv k = 0) : ∀ i, i < next → pth i ≠ (k : Int) := fun i hi e => by
  obtain ⟨k', _, e1, e2⟩ := h.to_ i hi
  have : k' = k := by omega
  subst this
  omega
/-- A path that gets one. -/
theorem PI.new (h : PI m next hv pth) {k : Nat} (hk : k < 12) (hp : hv k = 0) (hn : next ≤ m) :
    PI m (next + 1) (fun j => if j = k then next + 1 else hv j) (fun i => if i = next then (k : Int) else pth i) ∧
    ∀ (ids toks : Nat → List UInt8) (td : Nat → Bool) (use : Int), cforBy cpick (pst ids toks m next pth td use) (k : Int) = (pst ids toks m (next + 1) (fun i => if i = next then (k : Int) else pth i) td (k : Int), some (ids next)) := by
  refine ⟨⟨by omega, by omega, fun j hj hpj => ?_, fun j hj => ?_⟩, fun ids toks td use => pst_new (k : Int) (by omega) hn h.nn (h.none_has hp)⟩
  · by_cases e : j = k
    · subst e; simp
    · rw [if_neg e] at hpj ⊢
      obtain ⟨h1, h2⟩ := h.of_ j hj hpj
      refine ⟨by omega, ?_⟩
      rw [if_neg (by omega)]; exact h2
  · by_cases e : j = next
    · exact ⟨k, hk, by rw [if_pos rfl, e], by rw [if_pos e]⟩
    · obtain ⟨k', h1, h2, h3⟩ := h.to_ j (by omega)
      refine ⟨k', h1, ?_, by rw [if_neg e]; exact h3⟩
      rw [if_neg (fun e2 => by rw [e2, hp] at h2; omega)]; exact h2
/-- A path that gets none. -/
theorem PI.no (h : PI m next hv pth) {k : Nat} (hp : hv k = 0) (hn : ¬ next ≤ m) (ids toks : Nat → List UInt8) (td : Nat → Bool) (use : Int) :
    cforBy cpick (pst ids toks m next pth td use) (k : Int) = (pst ids toks m next pth td use, none) :=
  pst_none (k : Int) (by omega) (by have := h.hi; omega) h.nn (h.none_has hp)
theorem PI.free (h : PI m next hv pth) (ids toks : Nat → List UInt8) (td : Nat → Bool) (use : Int) : cfree (pst ids toks m next pth td use).l = m + 1 - next := pst_free h.nn h.hi
end
/-- How many were told. -/
def tcount (m : Nat) (td : Nat → Bool) : Nat := ((List.range (m + 1)).filter td).length
theorem filter_or (p q : Nat → Bool) (hd : ∀ j, q j = true → p j = false) : ∀ l : List Nat, (l.filter fun j => p j || q j).length = (l.filter p).length + (l.filter q).length
  | [] => rfl
  | x :: l => by
    have ih := filter_or p q hd l
    simp only [List.filter_cons]
    cases hq : q x with
    | true => simp [hd x hq, ih]; omega
    | false =>
      cases hp : p x with
      | true => simp [ih]; omega
      | false => simp [ih]
section
variable {ids toks : Nat → List UInt8} {m next : Nat} {pth : Nat → Int} {td : Nat → Bool} {use : Int}
/-- What Retired tells is told no more. -/
theorem ret_count : tcount m (fun j => td j || Nm.old use (pnm ids toks next pth td j)) = tcount m td + ((List.range (m + 1)).filter fun j => Nm.old use (pnm ids toks next pth td j)).length := by
  unfold tcount
  refine filter_or td _ (fun j h => ?_) _
  exact (old_iff.1 h).2
theorem ret_none (j : Nat) : Nm.old use (pnm ids toks next pth (fun j => td j || Nm.old use (pnm ids toks next pth td j)) j) = false := by
  rw [← Bool.not_eq_true, old_iff]
  intro ⟨h1, h2⟩
  have h3 : (td j || Nm.old use (pnm ids toks next pth td j)) = false := h2
  rw [Bool.or_eq_false_iff] at h3
  have h4 := old_iff.2 (⟨h1, h3.1⟩ : ((pnm ids toks next pth td j).path ≠ -1 ∧ (pnm ids toks next pth td j).path ≠ use) ∧ (pnm ids toks next pth td j).told = false)
  rw [h3.2] at h4; cases h4
theorem ret_empty (h : ∀ j, Nm.old use (pnm ids toks next pth td j) = false) : cret (pst ids toks m next pth td use) = (pst ids toks m next pth td use, []) := by
  rw [pst_ret]
  have e : (List.range (m + 1)).filter (fun j => Nm.old use (pnm ids toks next pth td j)) = [] := by
    rw [List.filter_eq_nil_iff]; intro j _; rw [h j]; simp
  rw [e]
  congr 1
  congr 1
  funext j
  rw [h j, Bool.or_false]
theorem ret_below (h : ∀ j, td j = true → j < next) : ∀ j, (td j || Nm.old use (pnm ids toks next pth td j)) = true → j < next := fun j hj => by
  rw [Bool.or_eq_true] at hj
  rcases hj with hj | hj
  · exact h j hj
  · have := (old_iff.1 hj).1.1
    rw [pnm_path] at this
    by_cases e : j < next
    · exact e
    · rw [if_neg e] at this; exact absurd rfl this
theorem tcount_le (h : ∀ j, td j = true → j < next) (hn : next ≤ m + 1) : tcount m td ≤ next := by
  unfold tcount
  have h1 : (List.range (m + 1)).filter td = ((List.range (m + 1)).filter fun j => decide (j < next)).filter td := by
    rw [List.filter_filter]
    refine List.filter_congr fun j _ => ?_
    cases ht : td j with
    | true => simp [h j ht]
    | false => simp
  rw [h1, filter_lt, show min (m + 1) next = next by omega]
  exact Nat.le_trans (List.length_filter_le _ _) (by simp)
end
end Go.Proofs.Ytgmanhbfdjlhbaa
