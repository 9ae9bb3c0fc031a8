/- cids: CidsTurns in plain Lean: who moves from path to path. -/
import Derived.Test.YtgmanhbfdjlhbaaCdQ
namespace Go.Proofs.Ytgmanhbfdjlhbaa

theorem filter_one (a : Nat) (q : Nat → Bool) (hq : ∀ j, q j = decide (j = a)) : ∀ n, (List.range n).filter q = if a < n then [a] else []
  | 0 => by simp
  | n + 1 => by
    rw [List.range_succ, List.filter_append, filter_one a q hq n]
    by_cases h : a = n
    · subst h; simp [hq]
    · have e : [n].filter q = [] := by simp [hq]; omega
      rw [e, List.append_nil]
      by_cases h2 : a < n
      · rw [if_pos h2, if_pos (by omega)]
      · rw [if_neg h2, if_neg (by omega)]
theorem old_iff {use : Int} {x : Nm} : Nm.old use x = true ↔ (x.path ≠ -1 ∧ x.path ≠ use) ∧ x.told = false := by
  unfold Nm.old
  rw [Bool.and_eq_true, decide_eq_true_eq, Bool.not_eq_true']
section
variable {ids toks : Nat → List UInt8} {m i : Nat} {pth : Nat → Int}
/-- A move to a path of one's own: the one in use before is told. -/
theorem turn_yes (h1 : 1 ≤ i) (hi : i ≤ m) (hp : ∀ j, j ≤ i → 0 ≤ pth j) (hne : ∀ j, j < i → pth j ≠ pth i) :
    cforBy cpick (pst ids toks m i pth (fun j => decide (j < i - 1)) (pth (i - 1))) (pth i) = (pst ids toks m (i + 1) pth (fun j => decide (j < i - 1)) (pth i), some (ids i)) ∧
    cret (pst ids toks m (i + 1) pth (fun j => decide (j < i - 1)) (pth i)) = (pst ids toks m (i + 1) pth (fun j => decide (j < i)) (pth i), [i - 1]) := by
  constructor
  · rw [pst_new (pth i) (hp i (Nat.le_refl _)) hi (fun j hj => hp j (by omega)) hne]
    congr 1
    congr 1
    funext j
    by_cases e : j = i
    · rw [if_pos e, e]
    · rw [if_neg e]
  · have hold : ∀ j, Nm.old (pth i) (pnm ids toks (i + 1) pth (fun j => decide (j < i - 1)) j) = decide (j = i - 1) := by
      intro j
      rw [Bool.eq_iff_iff, old_iff, decide_eq_true_eq, pnm_path]
      have ht : (pnm ids toks (i + 1) pth (fun j => decide (j < i - 1)) j).told = decide (j < i - 1) := rfl
      rw [ht, decide_eq_false_iff_not]
      by_cases hj : j < i + 1
      · rw [if_pos hj]
        have h2 := hp j (by omega)
        by_cases e : j = i
        · subst e
          exact ⟨fun h => absurd rfl h.1.2, fun h => by omega⟩
        · have h3 := hne j (by omega)
          exact ⟨fun h => by omega, fun h => ⟨⟨by omega, h3⟩, by omega⟩⟩
      · rw [if_neg hj]
        exact ⟨fun h => absurd rfl h.1.1, fun h => by omega⟩
    rw [pst_ret, filter_one (i - 1) _ hold, if_pos (by omega)]
    congr 1
    congr 1
    funext j
    rw [hold j, Bool.eq_iff_iff, Bool.or_eq_true, decide_eq_true_eq, decide_eq_true_eq, decide_eq_true_eq]
    omega
/-- A move where no name is left. -/
theorem turn_no (k : Int) (hk : 0 ≤ k) (hp : ∀ j, j ≤ m → 0 ≤ pth j) (hne : ∀ j, j ≤ m → pth j ≠ k) (hinj : ∀ j, j < m → pth j ≠ pth m) :
    cforBy cpick (pst ids toks m (m + 1) pth (fun j => decide (j < m)) (pth m)) k = (pst ids toks m (m + 1) pth (fun j => decide (j < m)) (pth m), none) ∧
    cret (pst ids toks m (m + 1) pth (fun j => decide (j < m)) (pth m)) = (pst ids toks m (m + 1) pth (fun j => decide (j < m)) (pth m), []) := by
  constructor
  · exact pst_none k hk rfl (fun j hj => hp j (by omega)) (fun j hj => hne j (by omega))
  · have hold : ∀ j, Nm.old (pth m) (pnm ids toks (m + 1) pth (fun j => decide (j < m)) j) = false := by
      intro j
      rw [← Bool.not_eq_true, old_iff, pnm_path]
      have ht : (pnm ids toks (m + 1) pth (fun j => decide (j < m)) j).told = decide (j < m) := rfl
      rw [ht, decide_eq_false_iff_not]
      by_cases hj : j < m + 1
      · rw [if_pos hj]
        intro h
        have e : j = m := by omega
        exact h.1.2 (by rw [e])
      · rw [if_neg hj]
        exact fun h => h.1.1 rfl
    rw [pst_ret]
    have e : (List.range (m + 1)).filter (fun j => Nm.old (pth m) (pnm ids toks (m + 1) pth (fun j => decide (j < m)) j)) = [] := by
      rw [List.filter_eq_nil_iff]
      intro j _
      rw [hold j]; simp
    rw [e]
    congr 1
    congr 1
    funext j
    rw [hold j, Bool.or_false]
end
/-- No path has one of these. -/
theorem ast_tok {first : List UInt8} {ids toks : Nat → List UInt8} {hv : Nat → Bool} (t : List UInt8) : ctok (ast first ids toks hv).l t = false := by
  unfold ctok
  rw [List.any_eq_false]
  intro x hx hd
  have h := of_decide_eq_true hd
  rcases ast_mem.1 hx with rfl | ⟨j, _, _, rfl⟩
  · exact h.2.1 rfl
  · exact h.1 rfl
theorem pst_tok {ids toks : Nat → List UInt8} {m next : Nat} {pth : Nat → Int} {td : Nat → Bool} {use : Int} (j : Nat) (hj : j < next) (hm : j ≤ m) (hp : 0 ≤ pth j) (ht : toks j ≠ []) : ctok (pst ids toks m next pth td use).l (toks j) = true := by
  unfold ctok
  refine List.any_eq_true.2 ⟨_, pst_mem.2 ⟨j, hm, rfl⟩, decide_eq_true ⟨?_, ht, rfl⟩⟩
  rw [pnm_path, if_pos hj]; omega
end Go.Proofs.Ytgmanhbfdjlhbaa
