/- table: which fields came, how many are gone: what each call makes of them, in plain words. Nothing of the program. -/
import Derived.Test.YtjkimabcpamdcaaLib
namespace Go.Proofs.Ytjkimabcpamdcaa

structure Fd where
  name : ByteArray
  value : ByteArray
deriving DecidableEq
def Fd.size (f : Fd) : Nat := f.name.size + f.value.size + 32
def tsum (l : List Fd) : Nat := (l.map Fd.size).sum
@[simp] theorem tsum_nil : tsum [] = 0 := rfl
@[simp] theorem tsum_cons (f : Fd) (l : List Fd) : tsum (f :: l) = f.size + tsum l := by simp [tsum]
theorem tsum_append (l m : List Fd) : tsum (l ++ m) = tsum l + tsum m := by simp [tsum]
theorem tsum_snoc (l : List Fd) (f : Fd) : tsum (l ++ [f]) = tsum l + f.size := by rw [tsum_append]; simp
theorem tsum_drop_le (l : List Fd) (k : Nat) : tsum (l.drop k) ≤ tsum l := by
  have := congrArg tsum (List.take_append_drop k l)
  rw [tsum_append] at this; omega
theorem tsum_anti (l : List Fd) {j k : Nat} (h : j ≤ k) : tsum (l.drop k) ≤ tsum (l.drop j) := by
  have := tsum_drop_le (l.drop j) (k - j)
  rwa [List.drop_drop, show j + (k - j) = k by omega] at this
theorem tsum_len (l : List Fd) : l.length * 32 ≤ tsum l := by
  induction l with
  | nil => simp
  | cons f l ih => rw [tsum_cons, List.length_cons, Nat.succ_mul]; unfold Fd.size; omega
theorem tsum_drop_one (l : List Fd) (k : Nat) (f : Fd) (h : l[k]? = some f) : tsum (l.drop k) = f.size + tsum (l.drop (k + 1)) := by
  obtain ⟨hk, e⟩ := List.getElem?_eq_some_iff.1 h
  rw [List.drop_eq_getElem_cons hk, tsum_cons, e]
/-- How many go, till the others have room. -/
def tcut (room : Nat) : List Fd → Nat
  | [] => 0
  | f :: l => if room < tsum (f :: l) then tcut room l + 1 else 0
theorem tcut_le (r : Nat) : ∀ l : List Fd, tcut r l ≤ l.length
  | [] => Nat.le_refl _
  | f :: l => by
    unfold tcut
    split
    · have := tcut_le r l; simp; omega
    · omega
theorem tcut_sum (r : Nat) : ∀ l : List Fd, tsum (l.drop (tcut r l)) ≤ r
  | [] => by simp
  | f :: l => by
    unfold tcut
    split
    · exact tcut_sum r l
    · simp only [List.drop_zero]; omega
theorem tcut_min (r : Nat) : ∀ (l : List Fd) (k : Nat), k < tcut r l → r < tsum (l.drop k)
  | [], k, h => by simp [tcut] at h
  | f :: l, k, h => by
    unfold tcut at h
    split at h
    · rename_i hr
      cases k with
      | zero => exact hr
      | succ k => exact tcut_min r l k (by omega)
    · omega
theorem tcut_eq (r : Nat) (l : List Fd) (k : Nat) (hk : k ≤ l.length) (h1 : tsum (l.drop k) ≤ r) (h2 : ∀ j, j < k → r < tsum (l.drop j)) : tcut r l = k := by
  rcases Nat.lt_trichotomy (tcut r l) k with h | h | h
  · have := h2 _ h; have := tcut_sum r l; omega
  · exact h
  · have := tcut_min r l k h; omega
theorem tcut_step (r : Nat) (l : List Fd) (h : r < tsum l) : ∃ f m, l = f :: m ∧ tcut r l = tcut r m + 1 := by
  cases l with
  | nil => simp at h
  | cons f m => exact ⟨f, m, rfl, by rw [tcut, if_pos h]⟩
theorem tcut_stop (r : Nat) (l : List Fd) (h : tsum l ≤ r) : tcut r l = 0 := by
  cases l with
  | nil => rfl
  | cons f m => rw [tcut, if_neg (by omega)]

structure Tb where
  most : Nat
  F : List Fd
  gone : Nat
def tnew (most : Nat) : Tb := ⟨most, [], 0⟩
def Tb.l (t : Tb) : List Fd := t.F.drop t.gone
def Tb.used (t : Tb) : Nat := tsum t.l
def Tb.ins (t : Tb) (f : Fd) : Tb := if f.size ≤ t.most then ⟨t.most, t.F ++ [f], t.gone + tcut (t.most - f.size) t.l⟩ else t
structure Tb.Ok (t : Tb) : Prop where
  le : t.gone ≤ t.F.length
  used : t.used ≤ t.most
  full : t.gone = 0 ∨ t.most < tsum (t.F.drop (t.gone - 1))
theorem tnew_ok (m : Nat) : (tnew m).Ok := ⟨Nat.le_refl _, by simp [tnew, Tb.used, Tb.l], .inl rfl⟩
theorem Tb.l_len (t : Tb) (h : t.Ok) : t.l.length = t.F.length - t.gone := by simp [Tb.l]
theorem Tb.len_add (t : Tb) (h : t.Ok) : t.gone + t.l.length = t.F.length := by rw [t.l_len h]; have := h.le; omega
theorem Tb.ins_no (t : Tb) (f : Fd) (h : t.most < f.size) : t.ins f = t := by unfold Tb.ins; rw [if_neg (by omega)]
theorem Tb.ins_yes (t : Tb) (f : Fd) (h : f.size ≤ t.most) : t.ins f = ⟨t.most, t.F ++ [f], t.gone + tcut (t.most - f.size) t.l⟩ := by unfold Tb.ins; rw [if_pos h]
theorem Tb.ins_most (t : Tb) (f : Fd) : (t.ins f).most = t.most := by unfold Tb.ins; split <;> rfl
theorem Tb.ins_l (t : Tb) (f : Fd) (ho : t.Ok) (h : f.size ≤ t.most) : (t.ins f).l = t.l.drop (tcut (t.most - f.size) t.l) ++ [f] := by
  have h1 := tcut_le (t.most - f.size) t.l
  have h2 := t.l_len ho
  have h3 := ho.le
  rw [t.ins_yes f h]
  show List.drop (t.gone + tcut (t.most - f.size) t.l) (t.F ++ [f]) = _
  rw [List.drop_append_of_le_length (by omega), ← List.drop_drop]
  rfl
theorem Tb.ins_used (t : Tb) (f : Fd) (ho : t.Ok) (h : f.size ≤ t.most) : (t.ins f).used = tsum (t.l.drop (tcut (t.most - f.size) t.l)) + f.size := by
  unfold Tb.used; rw [t.ins_l f ho h, tsum_snoc]
theorem Tb.ins_ok (t : Tb) (f : Fd) (ho : t.Ok) : (t.ins f).Ok := by
  rcases Nat.lt_or_ge t.most f.size with h | h
  · rw [t.ins_no f h]; exact ho
  · have h1 := tcut_le (t.most - f.size) t.l
    have h2 := t.l_len ho
    have h3 := ho.le
    refine ⟨?_, ?_, ?_⟩
    · rw [t.ins_yes f h]
      show t.gone + tcut (t.most - f.size) t.l ≤ (t.F ++ [f]).length
      rw [List.length_append, List.length_singleton]; omega
    · rw [t.ins_used f ho h, t.ins_most]
      have := tcut_sum (t.most - f.size) t.l; omega
    · rw [t.ins_yes f h]
      simp only
      rcases Nat.eq_zero_or_pos (t.gone + tcut (t.most - f.size) t.l) with h0 | h0
      · exact .inl h0
      · right
        rw [List.drop_append_of_le_length (by omega), tsum_snoc]
        rcases Nat.eq_zero_or_pos (tcut (t.most - f.size) t.l) with h4 | h4
        · rw [h4, Nat.add_zero]
          rcases ho.full with h5 | h5
          · omega
          · omega
        · have := tcut_min (t.most - f.size) t.l (tcut (t.most - f.size) t.l - 1) (by omega)
          unfold Tb.l at this h4 ⊢
          rw [List.drop_drop, show t.gone + (tcut (t.most - f.size) (List.drop t.gone t.F) - 1) = t.gone + tcut (t.most - f.size) (List.drop t.gone t.F) - 1 by omega] at this
          omega
/-- What is there is as much of the newest as fits. -/
theorem Tb.Ok.newest {t : Tb} (h : t.Ok) (n : Nat) (hn : n ≤ t.F.length) (h1 : tsum (t.F.drop n) ≤ t.most) (h2 : n = 0 ∨ t.most < tsum (t.F.drop (n - 1))) : n = t.gone := by
  have hu := h.used
  unfold Tb.used Tb.l at hu
  rcases Nat.lt_trichotomy n t.gone with h3 | h3 | h3
  · rcases h.full with h4 | h4
    · omega
    · have := tsum_anti t.F (show n ≤ t.gone - 1 by omega); omega
  · exact h3
  · rcases h2 with h4 | h4
    · omega
    · have := tsum_anti t.F (show t.gone ≤ n - 1 by omega); omega

def Tb.get (t : Tb) (n : Nat) : Option Fd := if t.gone ≤ n then t.F[n]? else none
/-- The fields from the last one on, with their places. -/
def bk (l : List Fd) : Nat → List (Nat × Fd)
  | 0 => []
  | k + 1 => (k, l.getD k ⟨.empty, .empty⟩) :: bk l k
def Tb.find (t : Tb) (f : Fd) : Nat × Bool × Bool :=
  match (bk t.l t.l.length).find? (fun x => decide (x.2 = f)) with
  | some x => (t.gone + x.1, true, true)
  | none => match (bk t.l t.l.length).find? (fun x => decide (x.2.name = f.name)) with
    | some x => (t.gone + x.1, true, false)
    | none => (0, false, false)
theorem bk_find_some {l : List Fd} {q : Nat × Fd → Bool} : ∀ {k : Nat} {x : Nat × Fd}, (bk l k).find? q = some x → x.1 < k ∧ q x = true ∧ x.2 = l.getD x.1 ⟨.empty, .empty⟩ ∧ ∀ i, x.1 < i → i < k → q (i, l.getD i ⟨.empty, .empty⟩) = false
  | 0, x, h => by simp [bk] at h
  | k + 1, x, h => by
    rw [bk, List.find?_cons] at h
    split at h
    · rename_i hq
      injection h with h
      subst h
      exact ⟨Nat.lt_succ_self k, hq, rfl, fun i h1 h2 => by simp only at h1; omega⟩
    · rename_i hq
      obtain ⟨h1, h2, h3, h4⟩ := bk_find_some h
      refine ⟨by omega, h2, h3, fun i h5 h6 => ?_⟩
      by_cases hi : i = k
      · subst hi; simpa using hq
      · exact h4 i h5 (by omega)
theorem bk_find_none {l : List Fd} {q : Nat × Fd → Bool} : ∀ {k : Nat}, (bk l k).find? q = none → ∀ i, i < k → q (i, l.getD i ⟨.empty, .empty⟩) = false
  | 0, _, i, h => by omega
  | k + 1, h, i, hi => by
    rw [bk, List.find?_cons] at h
    split at h
    · cases h
    · rename_i hq
      by_cases hk : i = k
      · subst hk; simpa using hq
      · exact bk_find_none h i (by omega)
theorem bk_find_is {l : List Fd} {q : Nat × Fd → Bool} {k j : Nat} (h1 : j < k) (h2 : q (j, l.getD j ⟨.empty, .empty⟩) = true) (h3 : ∀ i, j < i → i < k → q (i, l.getD i ⟨.empty, .empty⟩) = false) : (bk l k).find? q = some (j, l.getD j ⟨.empty, .empty⟩) := by
  cases h : (bk l k).find? q with
  | none => rw [bk_find_none h j h1] at h2; cases h2
  | some x =>
    obtain ⟨a1, a2, a3, a4⟩ := bk_find_some h
    have : x.1 = j := by
      rcases Nat.lt_trichotomy x.1 j with h5 | h5 | h5
      · rw [a4 j h5 h1] at h2; cases h2
      · exact h5
      · have hx := h3 x.1 h5 a1
        rw [← a3] at hx
        rw [show (x.1, x.2) = x from rfl, a2] at hx; cases hx
    obtain ⟨x1, x2⟩ := x
    simp only at this a3
    subst this
    rw [a3]
theorem bk_find_no {l : List Fd} {q : Nat × Fd → Bool} {k : Nat} (h : ∀ i, i < k → q (i, l.getD i ⟨.empty, .empty⟩) = false) : (bk l k).find? q = none := by
  cases hf : (bk l k).find? q with
  | none => rfl
  | some x =>
    obtain ⟨a1, a2, a3, a4⟩ := bk_find_some hf
    have := h x.1 a1
    rw [← a3] at this
    rw [show (x.1, x.2) = x from rfl, a2] at this; cases this
theorem bk_len (l : List Fd) (k : Nat) : (bk l k).length = k := by
  induction k with
  | zero => rfl
  | succ k ih => simp [bk, ih]
end Go.Proofs.Ytjkimabcpamdcaa
