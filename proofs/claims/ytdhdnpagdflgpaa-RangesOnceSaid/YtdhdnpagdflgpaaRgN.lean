/- RangesOnce: what its states are, in plain words. -/
import Derived.Test.YtdhdnpagdflgpaaRgL
namespace Go.Proofs.Ytdhdnpagdflgpaa
open Go.RowKit

theorem filter_or {α : Type} (p q : α → Bool) : ∀ l : List α, (∀ x ∈ l, p x = true → q x = false) → (l.filter fun x => p x || q x).length = (l.filter p).length + (l.filter q).length
  | [], _ => rfl
  | x :: l, h => by
    have ih := filter_or p q l (fun y hy => h y (List.mem_cons_of_mem _ hy))
    have hx := h x (List.mem_cons_self ..)
    cases hp : p x
    · cases hq : q x <;> simp [hp, hq] <;> omega
    · have := hx hp
      simp [hp, this]; omega
theorem filter_rangeN (a b : Nat) : ∀ n, ((List.range n).filter fun i => decide (a ≤ i) && decide (i ≤ b)).length = min n (b + 1) - a
  | 0 => by simp
  | n + 1 => by
    rw [List.range_succ, List.filter_append, List.length_append, filter_rangeN a b n]
    by_cases h : a ≤ n ∧ n ≤ b
    · simp [h.1, h.2]; omega
    · have : (decide (a ≤ n) && decide (n ≤ b)) = false := by
        rw [← Bool.not_eq_true, Bool.and_eq_true, decide_eq_true_eq, decide_eq_true_eq]; exact h
      simp [List.filter_cons, this]; omega
def rsize (l : List Rg) : Nat := (l.map fun r => r.hi + 1 - r.lo).sum
/-- How many numbers some ranges hold. -/
theorem cnt_ranges : ∀ (l : List Rg) (m : Nat), Rok l → (∀ r ∈ l, r.hi < m) → ((List.range m).filter (rmem l)).length = rsize l
  | [], m, _, _ => by
    have : (List.range m).filter (rmem []) = [] := List.filter_eq_nil_iff.2 (fun x _ => by simp [rmem])
    rw [this]; rfl
  | a :: l, m, h, hm => by
    obtain ⟨h1, h2, h3⟩ := h.cons
    have ih := cnt_ranges l m h3 (fun r hr => hm r (by simp [hr]))
    have ha := hm a (by simp)
    have e : (List.range m).filter (rmem (a :: l)) = (List.range m).filter (fun x => (decide (a.lo ≤ x) && decide (x ≤ a.hi)) || rmem l x) := by
      apply List.filter_congr
      intro x _
      simp [rmem, Rg.has]
    rw [e, filter_or, ih, filter_rangeN]
    · unfold rsize
      rw [List.map_cons, List.sum_cons]
      omega
    · intro x _ hx
      rw [Bool.and_eq_true, decide_eq_true_eq, decide_eq_true_eq] at hx
      rw [← Bool.not_eq_true]
      intro hq
      obtain ⟨r, hr, h4, h5⟩ := (rmem_iff _ _).1 hq
      have := h2 r hr
      omega
theorem rsize_snoc (l : List Rg) (k : Nat) (r : Rg) (h : l[k]? = some r) : rsize (l.take (k + 1)) = rsize (l.take k) + (r.hi + 1 - r.lo) := by
  obtain ⟨hk, e⟩ := List.getElem?_eq_some_iff.1 h
  unfold rsize
  rw [List.take_succ_eq_append_getElem hk, List.map_append, List.sum_append, e]
  simp
/-- How many numbers below 60 are in. -/
def cntT (T : Nat → Bool) : Nat := ((List.range 60).filter T).length
theorem cntT_add (T : Nat → Bool) (n : Nat) (hn : n < 60) (hT : T n = false) : cntT (fun x => T x || decide (x = n)) = cntT T + 1 := by
  unfold cntT
  rw [filter_or]
  · have : ((List.range 60).filter fun x => decide (x = n)).length = 1 := by
      have e : ((List.range 60).filter fun x => decide (x = n)) = ((List.range 60).filter fun i => decide (n ≤ i) && decide (i ≤ n)) := by
        apply List.filter_congr
        intro x _
        rw [Bool.eq_iff_iff, Bool.and_eq_true, decide_eq_true_eq, decide_eq_true_eq, decide_eq_true_eq]; omega
      rw [e, filter_rangeN]; omega
    rw [this]
  · intro x _ hx
    rw [decide_eq_false_iff_not]
    rintro rfl
    rw [hT] at hx; cases hx
theorem cntT_le (T : Nat → Bool) : cntT T ≤ 60 := by
  unfold cntT
  have := List.length_filter_le T (List.range 60)
  simpa using this
theorem cntT_congr (T T' : Nat → Bool) (h : ∀ x, T x = T' x) : cntT T = cntT T' := by
  have : T = T' := funext h
  rw [this]

structure On (s : Rs) (T : Nat → Bool) : Prop where
  ok : s.Ok
  most : s.most = 64
  floor : s.floor = 0
  mem : ∀ x, rmem s.l x = T x
  lt : ∀ x, T x = true → x < 60
theorem On.start : On (rsnew 64) (fun _ => false) := ⟨rsnew_ok 64, rfl, rfl, fun _ => rfl, fun _ h => by cases h⟩
theorem On.has {s : Rs} {T : Nat → Bool} (h : On s T) (x : Nat) : s.has x = T x := by
  unfold Rs.has; rw [h.floor, decide_eq_false (by omega), Bool.false_or, h.mem]
theorem On.add {s : Rs} {T : Nat → Bool} (h : On s T) (n : Nat) (hn : n < 60) (hT : T n = false) : On (s.add n) (fun x => T x || decide (x = n)) := by
  have hh : s.has n = false := by rw [h.has]; exact hT
  obtain ⟨a1, a2, a3, a4, a5, a6⟩ := Rs.add_ok h.ok hh (by omega) (by rw [h.most]; omega)
  have hn2 : rmem s.l n = false := by rw [h.mem]; exact hT
  obtain ⟨k1, k2⟩ := radd_ok h.ok.ok hn2
  have hl := rok_len (radd s.l n) 59 k1 (fun r hr => by
    have := (k2 r.hi).symm.trans ((rmem_iff _ _).2 ⟨r, hr, k1.le r hr, Nat.le_refl _⟩)
    rw [Bool.or_eq_true, decide_eq_true_eq, h.mem] at this
    rcases this with h1 | h1
    · have := h.lt _ h1; omega
    · omega)
  obtain ⟨f1, f2⟩ := a5 (by rw [h.most]; omega)
  refine ⟨a1, by rw [a4]; exact h.most, by rw [f1]; exact h.floor, fun x => by rw [f2, k2, h.mem], fun x hx => ?_⟩
  rw [Bool.or_eq_true, decide_eq_true_eq] at hx
  rcases hx with hx | hx
  · exact h.lt x hx
  · omega
theorem On.again {s : Rs} {T : Nat → Bool} (h : On s T) (n : Nat) (hT : T n = true) : On s (fun x => T x || decide (x = n)) := ⟨h.ok, h.most, h.floor, fun x => by
  rw [h.mem]
  by_cases hx : x = n
  · subst hx; rw [hT]; simp
  · rw [decide_eq_false hx, Bool.or_false], fun x hx => by
  rw [Bool.or_eq_true, decide_eq_true_eq] at hx
  rcases hx with hx | hx
  · exact h.lt x hx
  · subst hx; exact h.lt _ hT⟩
theorem On.same {s t : Rs} {T T' : Nat → Bool} (h : On s T) (k : On t T') (e : ∀ x, T x = T' x) : s.l = t.l := rok_ext _ _ h.ok.ok k.ok.ok (fun x => by rw [h.mem, k.mem, e])
/-- Which numbers came, of the first k; of the first k from d on, around. -/
def oT (a : Nat → Nat) (k x : Nat) : Bool := (List.range k).any fun i => decide (x = a i)
theorem oT_succ (a : Nat → Nat) (k x : Nat) : oT a (k + 1) x = (oT a k x || decide (x = a k)) := by unfold oT; rw [List.range_succ, List.any_append]; simp
theorem oT_turn (a : Nat → Nat) (L d x : Nat) (hL : 0 < L) : oT (fun i => a ((i + d) % L)) L x = oT a L x := by
  rw [Bool.eq_iff_iff]
  unfold oT
  rw [List.any_eq_true, List.any_eq_true]
  constructor
  · rintro ⟨i, hi, h⟩
    exact ⟨(i + d) % L, List.mem_range.2 (Nat.mod_lt _ hL), h⟩
  · rintro ⟨i, hi, h⟩
    rw [List.mem_range] at hi
    refine ⟨(i + (L - d % L)) % L, List.mem_range.2 (Nat.mod_lt _ hL), ?_⟩
    have hd : d % L < L := Nat.mod_lt _ hL
    have e : ((i + (L - d % L)) % L + d) % L = i := by
      rw [Nat.mod_add_mod]
      have : i + (L - d % L) + d = i + L * (d / L + 1) := by
        have := Nat.mod_add_div d L
        rw [Nat.mul_add, Nat.mul_one]
        omega
      rw [this, Nat.add_mul_mod_self_left, Nat.mod_eq_of_lt hi]
    show decide (x = a (((i + (L - d % L)) % L + d) % L)) = true
    rw [e]; exact h
end Go.Proofs.Ytdhdnpagdflgpaa
