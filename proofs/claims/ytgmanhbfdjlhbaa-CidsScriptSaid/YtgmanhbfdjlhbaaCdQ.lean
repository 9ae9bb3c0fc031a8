/- cids: names numbered 0 to m, of which the first so many have paths: what For, Free, Retired make of them, in plain Lean. -/
import Derived.Test.YtgmanhbfdjlhbaaCdP
namespace Go.Proofs.Ytgmanhbfdjlhbaa

/-- The name of number j: the first 'next' have their paths. -/
def pnm (ids toks : Nat → List UInt8) (next : Nat) (pth : Nat → Int) (td : Nat → Bool) (j : Nat) : Nm := ⟨j, ids j, toks j, if j < next then pth j else -1, td j⟩
def pst (ids toks : Nat → List UInt8) (m next : Nat) (pth : Nat → Int) (td : Nat → Bool) (use : Int) : Cd := ⟨(List.range (m + 1)).map (pnm ids toks next pth td), use⟩
section
variable {ids toks : Nat → List UInt8} {m next : Nat} {pth : Nat → Int} {td : Nat → Bool} {use : Int}
theorem free_iff {x : Nm} : x.free = true ↔ x.path = -1 := by unfold Nm.free; exact decide_eq_true_iff
theorem pnm_path (j : Nat) : (pnm ids toks next pth td j).path = if j < next then pth j else -1 := rfl
theorem pst_mem {x : Nm} : x ∈ (pst ids toks m next pth td use).l ↔ ∃ j, j ≤ m ∧ x = pnm ids toks next pth td j := by
  unfold pst
  simp only [List.mem_map, List.mem_range]
  exact ⟨fun ⟨j, h, e⟩ => ⟨j, by omega, e.symm⟩, fun ⟨j, h, e⟩ => ⟨j, by omega, e.symm⟩⟩
theorem pst_rise : (pst ids toks m next pth td use).l.Pairwise (fun a b => a.seq < b.seq) := by
  unfold pst
  exact List.Pairwise.map _ (fun a b h => h) List.pairwise_lt_range
theorem pst_free (hp : ∀ i, i < next → 0 ≤ pth i) (hn : next ≤ m + 1) : cfree (pst ids toks m next pth td use).l = m + 1 - next := by
  unfold cfree pst
  simp only [List.countP_map]
  have h : ∀ n, n ≤ m + 1 → (List.range n).countP (Nm.free ∘ pnm ids toks next pth td) = n - next := by
    intro n
    induction n with
    | zero => simp
    | succ n ih =>
      intro hle
      rw [List.range_succ, List.countP_append, ih (by omega), List.countP_singleton]
      by_cases hlt : n < next
      · have e : (Nm.free ∘ pnm ids toks next pth td) n = false := by
          have h2 := hp n hlt
          rw [Function.comp, ← Bool.not_eq_true, free_iff, pnm_path, if_pos hlt]; omega
        rw [e]; simp; omega
      · have e : (Nm.free ∘ pnm ids toks next pth td) n = true := by
          rw [Function.comp, free_iff, pnm_path, if_neg hlt]
        rw [e]; simp; omega
  exact h (m + 1) (Nat.le_refl _)
theorem pst_set (q : Nat) (k : Int) : cset (pst ids toks m next pth td use).l q k = (List.range (m + 1)).map fun j => if j = q then { pnm ids toks next pth td j with path := k } else pnm ids toks next pth td j := by
  unfold cset pst
  simp only [List.map_map]
  rfl
/-- A path that has one. -/
theorem pst_old (k : Int) (hk : 0 ≤ k) (j : Nat) (hj : j < next) (hn : next ≤ m + 1) (he : pth j = k) (hu : ∀ i, i < next → pth i = k → i = j) :
    cforBy cpick (pst ids toks m next pth td use) k = (pst ids toks m next pth td k, some (ids j)) := by
  have hpick : cpick (pst ids toks m next pth td use).l k = some (pnm ids toks next pth td j) := by
    unfold cpick
    cases hf : (pst ids toks m next pth td use).l.find? (fun x => decide (x.path = k)) with
    | none =>
      rw [List.find?_eq_none] at hf
      exact absurd (decide_eq_true (by rw [pnm_path, if_pos hj]; exact he)) (hf _ (pst_mem.2 ⟨j, by omega, rfl⟩))
    | some x =>
      obtain ⟨i, hi, rfl⟩ := pst_mem.1 (List.mem_of_find?_eq_some hf)
      have h0 := List.find?_some hf
      have h1 : (pnm ids toks next pth td i).path = k := of_decide_eq_true h0
      rw [pnm_path] at h1
      by_cases hin : i < next
      · rw [if_pos hin] at h1
        rw [Option.some_or, hu i hin h1]
      · rw [if_neg hin] at h1; omega
  unfold cforBy
  rw [if_neg (by omega), hpick]
  simp only [pst_set]
  refine Prod.ext ?_ rfl
  show Cd.mk _ k = Cd.mk _ k
  congr 1
  refine List.map_congr_left fun i _ => ?_
  by_cases e : i = (pnm ids toks next pth td j).seq
  · rw [if_pos e]
    have e' : i = j := e
    subst e'
    simp only [pnm, if_pos hj, he]
  · rw [if_neg e]
/-- A path that has none, where one is left. -/
theorem pst_new (k : Int) (hk : 0 ≤ k) (hn : next ≤ m) (hp : ∀ i, i < next → 0 ≤ pth i) (hu : ∀ i, i < next → pth i ≠ k) :
    cforBy cpick (pst ids toks m next pth td use) k = (pst ids toks m (next + 1) (fun i => if i = next then k else pth i) td k, some (ids next)) := by
  have hpick : cpick (pst ids toks m next pth td use).l k = some (pnm ids toks next pth td next) := by
    unfold cpick
    have h0 : (pst ids toks m next pth td use).l.find? (fun x => decide (x.path = k)) = none := by
      rw [List.find?_eq_none]
      intro x hx
      obtain ⟨i, hi, rfl⟩ := pst_mem.1 hx
      intro hd
      have h1 : (pnm ids toks next pth td i).path = k := of_decide_eq_true hd
      rw [pnm_path] at h1
      by_cases hin : i < next
      · rw [if_pos hin] at h1; exact hu i hin h1
      · rw [if_neg hin] at h1; omega
    rw [h0, Option.none_or]
    have hfree : (pnm ids toks next pth td next).free = true := by
      rw [free_iff, pnm_path, if_neg (Nat.lt_irrefl next)]
    cases hf : (pst ids toks m next pth td use).l.find? Nm.free with
    | none =>
      rw [List.find?_eq_none] at hf
      exact absurd hfree (hf _ (pst_mem.2 ⟨next, hn, rfl⟩))
    | some x =>
      have hle := find_least pst_rise hf _ (pst_mem.2 ⟨next, hn, rfl⟩) hfree
      obtain ⟨i, hi, rfl⟩ := pst_mem.1 (List.mem_of_find?_eq_some hf)
      have h1 := free_iff.1 (List.find?_some hf)
      rw [pnm_path] at h1
      have hle : i ≤ next := hle
      by_cases hin : i < next
      · rw [if_pos hin] at h1
        have := hp i hin
        omega
      · have : i = next := by omega
        rw [this]
  unfold cforBy
  rw [if_neg (by omega), hpick]
  simp only [pst_set]
  refine Prod.ext ?_ rfl
  show Cd.mk _ k = Cd.mk _ k
  congr 1
  refine List.map_congr_left fun i _ => ?_
  by_cases e : i = (pnm ids toks next pth td next).seq
  · rw [if_pos e]
    have e' : i = next := e
    subst e'
    simp [pnm]
  · rw [if_neg e]
    have e' : i ≠ next := e
    simp only [pnm, if_neg e']
    by_cases h1 : i < next
    · rw [if_pos h1, if_pos (by omega)]
    · rw [if_neg h1, if_neg (by omega)]
/-- A path that has none, where none is left. -/
theorem pst_none (k : Int) (hk : 0 ≤ k) (hn : next = m + 1) (hp : ∀ i, i < next → 0 ≤ pth i) (hu : ∀ i, i < next → pth i ≠ k) :
    cforBy cpick (pst ids toks m next pth td use) k = (pst ids toks m next pth td use, none) := by
  have hpick : cpick (pst ids toks m next pth td use).l k = none := by
    unfold cpick
    rw [Option.or_eq_none_iff]
    constructor
    · rw [List.find?_eq_none]
      intro x hx
      obtain ⟨i, hi, rfl⟩ := pst_mem.1 hx
      intro hd
      have h1 : (pnm ids toks next pth td i).path = k := of_decide_eq_true hd
      rw [pnm_path, if_pos (show i < next by omega)] at h1
      exact hu i (by omega) h1
    · rw [List.find?_eq_none]
      intro x hx
      obtain ⟨i, hi, rfl⟩ := pst_mem.1 hx
      intro hd
      have h1 := free_iff.1 hd
      rw [pnm_path, if_pos (show i < next by omega)] at h1
      have := hp i (by omega)
      omega
  unfold cforBy
  rw [if_neg (by omega), hpick]
/-- Those that are told: each once. -/
theorem pst_ret : cret (pst ids toks m next pth td use) = (pst ids toks m next pth (fun j => td j || Nm.old use (pnm ids toks next pth td j)) use, (List.range (m + 1)).filter fun j => Nm.old use (pnm ids toks next pth td j)) := by
  unfold cret
  refine Prod.ext ?_ ?_
  · show Cd.mk _ use = Cd.mk _ use
    congr 1
    unfold pst
    simp only [List.map_map]
    refine List.map_congr_left fun i _ => ?_
    simp only [Function.comp]
    by_cases h : Nm.old use (pnm ids toks next pth td i) = true
    · rw [if_pos h]
      have e : pnm ids toks next pth (fun j => td j || Nm.old use (pnm ids toks next pth td j)) i = ⟨i, ids i, toks i, if i < next then pth i else -1, td i || Nm.old use (pnm ids toks next pth td i)⟩ := rfl
      rw [e, h, Bool.or_true]; rfl
    · rw [if_neg h]
      have h' : Nm.old use (pnm ids toks next pth td i) = false := by simpa using h
      have e : pnm ids toks next pth (fun j => td j || Nm.old use (pnm ids toks next pth td j)) i = ⟨i, ids i, toks i, if i < next then pth i else -1, td i || Nm.old use (pnm ids toks next pth td i)⟩ := rfl
      rw [e, h', Bool.or_false]; rfl
  · unfold pst
    simp only [List.filter_map, List.map_map]
    have e : (Nm.seq ∘ pnm ids toks next pth td) = id := rfl
    rw [e, List.map_id]; rfl
end

theorem cins_last {n : Nm} {l : List Nm} (h : ∀ x ∈ l, x.seq < n.seq) : cins n l = l ++ [n] := by
  unfold cins
  have h1 : l.takeWhile (fun x => decide (x.seq < n.seq)) = l := by
    induction l with
    | nil => rfl
    | cons x l ih => simp only [List.takeWhile_cons, decide_eq_true (h x (by simp)), if_true]; rw [ih (fun y hy => h y (List.mem_cons_of_mem _ hy))]
  have h2 : l.dropWhile (fun x => decide (x.seq < n.seq)) = [] := by
    have := List.takeWhile_append_dropWhile (p := fun x : Nm => decide (x.seq < n.seq)) (l := l)
    rw [h1] at this
    exact List.append_cancel_left (this.trans (List.append_nil l).symm)
  rw [h1, h2]
/-- One more, of the next number. -/
theorem pst_add {ids toks : Nat → List UInt8} {m : Nat} {pth : Nat → Int} {td : Nat → Bool} {use : Int} (hm : m < 8) (h8 : (ids (m + 1)).length = 8) (h16 : (toks (m + 1)).length = 16) (hi : ∀ j, j ≤ m → ids j ≠ ids (m + 1)) (h0 : 0 ≤ pth 0) (ht : td (m + 1) = false) :
    cadd (pst ids toks m 1 pth td use) (m + 1) (ids (m + 1)) (toks (m + 1)) = pst ids toks (m + 1) 1 pth td use ∧ caddE (pst ids toks m 1 pth td use).l (m + 1) (ids (m + 1)) (toks (m + 1)) = 0 := by
  have hf : cfree (pst ids toks m 1 pth td use).l = m := by
    rw [pst_free (fun i hi => (show i = 0 by omega) ▸ h0) (by omega)]; omega
  have hno : ∀ x ∈ (pst ids toks m 1 pth td use).l, x.seq ≠ m + 1 ∧ x.id ≠ ids (m + 1) := fun x hx => by
    obtain ⟨j, hj, rfl⟩ := pst_mem.1 hx
    exact ⟨by show j ≠ m + 1; omega, hi j hj⟩
  have hany : (pst ids toks m 1 pth td use).l.any (fun x => decide (x.seq = m + 1 ∨ x.id = ids (m + 1))) = false := by
    rw [List.any_eq_false]
    intro x hx hd
    rcases of_decide_eq_true hd with e | e
    · exact (hno x hx).1 e
    · exact (hno x hx).2 e
  have hany2 : (pst ids toks m 1 pth td use).l.any (fun x => decide (x.seq = m + 1 ∧ x.id = ids (m + 1) ∧ x.tok = toks (m + 1))) = false := by
    rw [List.any_eq_false]
    intro x hx hd
    exact (hno x hx).1 (of_decide_eq_true hd).1
  constructor
  · have hN : caddN (pst ids toks m 1 pth td use).l (m + 1) (ids (m + 1)) (toks (m + 1)) = true := by
      unfold caddN
      rw [hany, hf, decide_eq_true ⟨h8, h16⟩, decide_eq_true (show m ≠ 8 by omega)]; rfl
    unfold cadd
    rw [if_pos hN, cins_last (fun x hx => by
      obtain ⟨j, hj, rfl⟩ := pst_mem.1 hx
      show j < m + 1; omega)]
    unfold pst
    rw [List.range_succ (n := m + 1), List.map_append]
    simp [pnm, ht]
  · unfold caddE
    rw [if_neg (by simp [h8, h16]), hany2, hany, hf]
    simp; omega
/-- The first name, and those of the numbers k + 1 that 'hv' tells. -/
def ast (first : List UInt8) (ids toks : Nat → List UInt8) (hv : Nat → Bool) : Cd := ⟨⟨0, first, [], 0, false⟩ :: ((List.range 16).filter hv).map fun k => ⟨k + 1, ids k, toks k, -1, false⟩, 0⟩
section
variable {first : List UInt8} {ids toks : Nat → List UInt8} {hv : Nat → Bool}
theorem ast_mem {x : Nm} : x ∈ (ast first ids toks hv).l ↔ x = ⟨0, first, [], 0, false⟩ ∨ ∃ k, k < 16 ∧ hv k = true ∧ x = ⟨k + 1, ids k, toks k, -1, false⟩ := by
  unfold ast
  simp only [List.mem_cons, List.mem_map, List.mem_filter, List.mem_range]
  exact or_congr Iff.rfl ⟨fun ⟨k, h, e⟩ => ⟨k, h.1, h.2, e.symm⟩, fun ⟨k, h1, h2, e⟩ => ⟨k, ⟨h1, h2⟩, e.symm⟩⟩
theorem ast_rise : (ast first ids toks hv).l.Pairwise (fun a b => a.seq < b.seq) := by
  unfold ast
  rw [List.pairwise_cons]
  refine ⟨fun y hy => ?_, List.Pairwise.map _ (fun a b h => Nat.succ_lt_succ h) (List.pairwise_lt_range.filter _)⟩
  obtain ⟨k, _, rfl⟩ := List.mem_map.1 hy
  exact Nat.succ_pos k
theorem ast_free : cfree (ast first ids toks hv).l = ((List.range 16).filter hv).length := by
  unfold cfree ast
  rw [List.countP_cons_of_neg (by rw [free_iff]; show ¬ (0 : Int) = -1; omega), List.countP_map, List.countP_eq_length.2]
  intro k _
  exact free_iff.2 rfl
/-- A new one. -/
theorem ast_add {k : Nat} (hk : k < 16) (hn : hv k = false) (hc : ((List.range 16).filter hv).length ≠ 8) (h8 : (ids k).length = 8) (h16 : (toks k).length = 16) (hf : first ≠ ids k) (hi : ∀ j, j < 16 → hv j = true → ids j ≠ ids k) :
    cadd (ast first ids toks hv) (k + 1) (ids k) (toks k) = ast first ids toks (fun j => hv j || j == k) ∧ caddE (ast first ids toks hv).l (k + 1) (ids k) (toks k) = 0 := by
  have hno : ∀ x ∈ (ast first ids toks hv).l, x.seq ≠ k + 1 ∧ x.id ≠ ids k := fun x hx => by
    rcases ast_mem.1 hx with rfl | ⟨j, hj, hvj, rfl⟩
    · exact ⟨by show (0 : Nat) ≠ k + 1; omega, hf⟩
    · exact ⟨(fun e => by have e' : j + 1 = k + 1 := e; rw [show j = k by omega, hn] at hvj; cases hvj), hi j hj hvj⟩
  have hany : (ast first ids toks hv).l.any (fun x => decide (x.seq = k + 1 ∨ x.id = ids k)) = false := by
    rw [List.any_eq_false]
    intro x hx hd
    rcases of_decide_eq_true hd with e | e
    · exact (hno x hx).1 e
    · exact (hno x hx).2 e
  have hany2 : (ast first ids toks hv).l.any (fun x => decide (x.seq = k + 1 ∧ x.id = ids k ∧ x.tok = toks k)) = false := by
    rw [List.any_eq_false]
    intro x hx hd
    exact (hno x hx).1 (of_decide_eq_true hd).1
  constructor
  · have hN : caddN (ast first ids toks hv).l (k + 1) (ids k) (toks k) = true := by
      unfold caddN
      rw [hany, ast_free, decide_eq_true ⟨h8, h16⟩, decide_eq_true hc]; rfl
    unfold cadd
    rw [if_pos hN]
    show Cd.mk _ 0 = Cd.mk _ 0
    congr 1
    refine List.Perm.eq_of_pairwise (le := fun a b => a.seq < b.seq) (fun a b _ _ h1 h2 => by omega) (cins_rise ast_rise (fun x hx => (hno x hx).1)) (ast_rise (first := first) (ids := ids) (toks := toks) (hv := fun j => hv j || j == k)) ((cins_perm _ _).trans ?_)
    have hp : (((List.range 16).filter hv) ++ [k]).Perm ((List.range 16).filter fun j => hv j || j == k) := by
      refine (List.perm_ext_iff_of_nodup ?_ (List.Pairwise.filter _ List.nodup_range)).2 fun j => ?_
      · rw [List.nodup_append]
        refine ⟨List.Pairwise.filter _ List.nodup_range, List.nodup_cons.2 ⟨by simp, List.nodup_nil⟩, fun a ha b hb e => ?_⟩
        rw [List.mem_singleton] at hb
        rw [List.mem_filter] at ha
        rw [e, hb, hn] at ha
        cases ha.2
      · simp only [List.mem_append, List.mem_filter, List.mem_range, List.mem_singleton, Bool.or_eq_true, beq_iff_eq]
        exact ⟨fun h => h.elim (fun h => ⟨h.1, .inl h.2⟩) (fun h => ⟨(by omega), .inr h⟩), fun ⟨h1, h2⟩ => h2.imp (fun h => ⟨h1, h⟩) id⟩
    have hm := hp.map fun k => (⟨k + 1, ids k, toks k, -1, false⟩ : Nm)
    rw [List.map_append] at hm
    exact List.Perm.cons _ hm
  · unfold caddE
    rw [if_neg (by simp [h8, h16]), hany2, hany, ast_free]
    simp [hc]
/-- Just as it was. -/
theorem ast_same {k : Nat} (hk : k < 16) (hn : hv k = true) (h8 : (ids k).length = 8) (h16 : (toks k).length = 16) :
    cadd (ast first ids toks hv) (k + 1) (ids k) (toks k) = ast first ids toks hv ∧ caddE (ast first ids toks hv).l (k + 1) (ids k) (toks k) = 0 := by
  have hm : (⟨k + 1, ids k, toks k, -1, false⟩ : Nm) ∈ (ast first ids toks hv).l := ast_mem.2 (.inr ⟨k, hk, hn, rfl⟩)
  constructor
  · have hN : caddN (ast first ids toks hv).l (k + 1) (ids k) (toks k) = false := by
      unfold caddN
      rw [List.any_eq_true.2 ⟨_, hm, decide_eq_true (.inl rfl)⟩]; simp
    unfold cadd
    rw [hN]; rfl
  · unfold caddE
    rw [if_neg (by simp [h8, h16]), if_pos (List.any_eq_true.2 ⟨_, hm, decide_eq_true ⟨rfl, rfl, rfl⟩⟩)]
/-- One that clashes: another number, name, or token. -/
theorem ast_clash {q k : Nat} {c t : List UInt8} (hk : k < 16) (hn : hv k = true) (h8 : c.length = 8) (h16 : t.length = 16) (h1 : q = k + 1 ∨ c = ids k) (h2 : ∀ x ∈ (ast first ids toks hv).l, ¬ (x.seq = q ∧ x.id = c ∧ x.tok = t)) :
    cadd (ast first ids toks hv) q c t = ast first ids toks hv ∧ caddE (ast first ids toks hv).l q c t = 12 := by
  have hm : (⟨k + 1, ids k, toks k, -1, false⟩ : Nm) ∈ (ast first ids toks hv).l := ast_mem.2 (.inr ⟨k, hk, hn, rfl⟩)
  have hany := List.any_eq_true (p := fun x : Nm => decide (x.seq = q ∨ x.id = c)).2 ⟨_, hm, decide_eq_true (h1.imp Eq.symm Eq.symm)⟩
  constructor
  · have hN : caddN (ast first ids toks hv).l q c t = false := by
      unfold caddN
      rw [hany]; simp
    unfold cadd
    rw [hN]; rfl
  · unfold caddE
    rw [if_neg (by simp [h8, h16]), if_neg (fun h => by
      obtain ⟨x, hx, e⟩ := List.any_eq_true.1 h
      exact h2 x hx (of_decide_eq_true e)), if_pos hany]
/-- Where eight are kept. -/
theorem ast_full {k : Nat} (hn : hv k = false) (hc : ((List.range 16).filter hv).length = 8) (h8 : (ids k).length = 8) (h16 : (toks k).length = 16) (hf : first ≠ ids k) (hi : ∀ j, j < 16 → hv j = true → ids j ≠ ids k) :
    cadd (ast first ids toks hv) (k + 1) (ids k) (toks k) = ast first ids toks hv ∧ caddE (ast first ids toks hv).l (k + 1) (ids k) (toks k) = 9 := by
  have hno : ∀ x ∈ (ast first ids toks hv).l, x.seq ≠ k + 1 ∧ x.id ≠ ids k := fun x hx => by
    rcases ast_mem.1 hx with rfl | ⟨j, hj, hvj, rfl⟩
    · exact ⟨by show (0 : Nat) ≠ k + 1; omega, hf⟩
    · exact ⟨(fun e => by have e' : j + 1 = k + 1 := e; rw [show j = k by omega, hn] at hvj; cases hvj), hi j hj hvj⟩
  have hany : (ast first ids toks hv).l.any (fun x => decide (x.seq = k + 1 ∨ x.id = ids k)) = false := by
    rw [List.any_eq_false]
    intro x hx hd
    rcases of_decide_eq_true hd with e | e
    · exact (hno x hx).1 e
    · exact (hno x hx).2 e
  have hany2 : (ast first ids toks hv).l.any (fun x => decide (x.seq = k + 1 ∧ x.id = ids k ∧ x.tok = toks k)) = false := by
    rw [List.any_eq_false]
    intro x hx hd
    exact (hno x hx).1 (of_decide_eq_true hd).1
  constructor
  · have hN : caddN (ast first ids toks hv).l (k + 1) (ids k) (toks k) = false := by
      unfold caddN
      rw [ast_free, hc]; simp
    unfold cadd
    rw [hN]; rfl
  · unfold caddE
    rw [if_neg (by simp [h8, h16]), hany2, hany, ast_free]
    simp [hc]
theorem filter_lt (m : Nat) : ∀ n, (List.range n).filter (fun k => decide (k < m)) = List.range (min n m)
  | 0 => by simp
  | n + 1 => by
    rw [List.range_succ, List.filter_append, filter_lt m n]
    by_cases h : n < m
    · rw [show min (n + 1) m = n + 1 by omega, show min n m = n by omega, List.range_succ]
      simp [h]
    · rw [show min (n + 1) m = m by omega, show min n m = m by omega]
      simp [h]
/-- All of the numbers 1 to m: as in the other form. -/
theorem ast_pst {ids toks : Nat → List UInt8} {m : Nat} (hm : m ≤ 16) (h0 : toks 0 = []) :
    ast (ids 0) (fun k => ids (k + 1)) (fun k => toks (k + 1)) (fun k => decide (k < m)) = pst ids toks m 1 (fun _ => 0) (fun _ => false) 0 := by
  unfold ast pst
  rw [filter_lt, show min 16 m = m by omega]
  show Cd.mk _ 0 = Cd.mk _ 0
  congr 1
  rw [List.range_succ_eq_map, List.map_cons, List.map_map]
  congr 1
  unfold pnm
  simp [h0]
end
end Go.Proofs.Ytgmanhbfdjlhbaa
