/- ranges: the document's list of numbers, in plain words; what ties it to a set of ranges. -/
import Derived.Test.YtdhdnpagdflgpaaRgL
namespace Go.Proofs.Ytdhdnpagdflgpaa

/-- A number below all, put behind. -/
def wpush (W : List Rg) (n : Nat) : List Rg := match W.getLast? with
  | some r => if r.lo = n + 1 then W.dropLast ++ [⟨n, r.hi⟩] else W ++ [⟨n, n⟩]
  | none => [⟨n, n⟩]
def rlst (N : List Nat) : List Rg := N.foldr (fun n W => wpush W n) []
def rmemN (N : List Nat) (x : Nat) : Bool := N.any fun y => decide (y = x)
theorem rmemN_iff (N : List Nat) (x : Nat) : rmemN N x = true ↔ x ∈ N := by simp [rmemN]
theorem wpush_len (W : List Rg) (n : Nat) : (wpush W n).length ≤ W.length + 1 := by
  unfold wpush
  split
  · split
    · simp <;> omega
    · simp
  · simp
theorem rlst_len (N : List Nat) : (rlst N).length ≤ N.length := by
  induction N with
  | nil => simp [rlst]
  | cons n N ih => have := wpush_len (rlst N) n; simp only [rlst, List.foldr_cons, List.length_cons] at *; omega
theorem wpush_ok {W : List Rg} {n : Nat} (h : Rok W) (hn : ∀ r ∈ W, n < r.lo) : Rok (wpush W n) ∧ (∀ x, rmem (wpush W n) x = (rmem W x || decide (x = n))) ∧ ∀ r ∈ wpush W n, n ≤ r.lo := by
  have hw : Wt (fun x => rmem W x || decide (x = n)) W (n + 1) := ⟨h, fun x => by
    cases hx : rmem W x
    · by_cases e : x = n
      · subst e; simp
      · simp [e]
    · obtain ⟨r, hr, h1, _⟩ := (rmem_iff _ _).1 hx
      have := hn r hr
      simp; omega⟩
  have key : ∀ V, Wt (fun x => rmem W x || decide (x = n)) V n → Rok V ∧ (∀ x, rmem V x = (rmem W x || decide (x = n))) ∧ ∀ r ∈ V, n ≤ r.lo := fun V hV => ⟨hV.ok, fun x => by
    rw [hV.mem]
    cases hx : rmem W x
    · by_cases e : x = n
      · subst e; simp
      · simp [e]
    · obtain ⟨r, hr, h1, _⟩ := (rmem_iff _ _).1 hx
      have := hn r hr
      simp; omega, hV.lo⟩
  unfold wpush
  rcases hg : W.getLast? with _ | r
  · have hW : W = [] := by simpa using hg
    subst hW
    have := key _ (Wt.push hw (by simp) (by simp))
    simpa using this
  · simp only
    split
    · rename_i hr
      have hd : W.dropLast ++ [r] = W := by
        obtain ⟨V, hV⟩ := List.getLast?_eq_some_iff.1 hg
        rw [hV]; simp
      rw [← hd] at hw
      have hT : (fun x => rmem W x || decide (x = n)) n = true := by simp
      rw [hd] at hw
      have hw2 : Wt (fun x => rmem W x || decide (x = n)) (W.dropLast ++ [r]) (n + 1) := by rw [hd]; exact hw
      exact key _ (hw2.join hr hT)
    · rename_i hr
      exact key _ (Wt.push hw (fun r' h' => by rw [hg] at h'; injection h' with h'; subst h'; exact hr) (by simp))
theorem rlst_ok {N : List Nat} (h : N.Pairwise (· < ·)) : Rok (rlst N) ∧ (∀ x, rmem (rlst N) x = rmemN N x) := by
  induction N with
  | nil => exact ⟨Rok.nil, fun x => rfl⟩
  | cons n N ih =>
    rw [List.pairwise_cons] at h
    obtain ⟨h1, h2⟩ := ih h.2
    have hl : ∀ r ∈ rlst N, n < r.lo := fun r hr => by
      have := (rmem_iff _ _).2 ⟨r, hr, Nat.le_refl _, h1.le r hr⟩
      rw [h2, rmemN_iff] at this
      exact h.1 _ this
    obtain ⟨k1, k2, _⟩ := wpush_ok h1 hl
    refine ⟨k1, fun x => ?_⟩
    show rmem (wpush (rlst N) n) x = _
    rw [k2, h2]
    simp only [rmemN, List.any_cons, Bool.or_comm (decide (n = x))]
    congr 1
    rw [Bool.eq_iff_iff]; simp; exact eq_comm

/-- What the document holds. -/
structure RN where
  most : Nat
  N : List Nat
  fl : Nat
def RN.has (r : RN) (n : Nat) : Bool := rmemN r.N n || decide (n < r.fl)
def RN.below (r : RN) (n : Nat) : RN := ⟨r.most, r.N.dropWhile (fun x => decide (x < max r.fl n)), max r.fl n⟩
/-- Where a number goes in: behind the last one that is no greater. -/
def nat_ (N : List Nat) (n : Nat) : Nat := (N.takeWhile fun x => decide (x ≤ n)).length
def nins (N : List Nat) (n : Nat) : List Nat := N.take (nat_ N n) ++ n :: N.drop (nat_ N n)
def RN.add1 (r : RN) (n : Nat) : RN := ⟨r.most, nins r.N n, r.fl⟩
def RN.add (r : RN) (n : Nat) : RN := match (rlst (nins r.N n)).getLast? with
  | some x => if r.most < (rlst (nins r.N n)).length then (r.add1 n).below (x.hi + 1) else r.add1 n
  | none => r.add1 n
/-- The same numbers. -/
structure SimR (s : Rs) (r : RN) : Prop where
  ok : s.Ok
  most : s.most = r.most
  m1 : 1 ≤ s.most
  fl : s.floor = r.fl
  asc : r.N.Pairwise (· < ·)
  mem : ∀ x, rmem s.l x = rmemN r.N x
theorem SimR.new (m : Nat) (h : 1 ≤ m) : SimR (rsnew m) ⟨m, [], 0⟩ := ⟨rsnew_ok m, rfl, h, rfl, List.Pairwise.nil, fun _ => rfl⟩
section
variable {s : Rs} {r : RN} (h : SimR s r)
include h
theorem SimR.list : rlst r.N = s.l := by
  obtain ⟨h1, h2⟩ := rlst_ok h.asc
  exact rok_ext _ _ h1 h.ok.ok (fun x => by rw [h2, h.mem])
theorem SimR.has (n : Nat) : s.has n = r.has n := by
  unfold Rs.has RN.has
  rw [h.fl, h.mem, Bool.or_comm]
theorem SimR.top : ∀ x ∈ r.N, x ≤ 4611686018427387903 := fun x hx => by
  have := (rmemN_iff _ _).2 hx
  rw [← h.mem] at this
  obtain ⟨y, hy, _, h2⟩ := (rmem_iff _ _).1 this
  have := h.ok.top y hy
  omega
end
theorem drop_asc {N : List Nat} (h : N.Pairwise (· < ·)) (m : Nat) : (N.dropWhile fun x => decide (x < m)).Pairwise (· < ·) ∧ ∀ x, rmemN (N.dropWhile fun x => decide (x < m)) x = (rmemN N x && decide (m ≤ x)) := by
  induction N with
  | nil => exact ⟨List.Pairwise.nil, fun _ => rfl⟩
  | cons a N ih =>
    have h' := h
    rw [List.pairwise_cons] at h
    obtain ⟨i1, i2⟩ := ih h.2
    by_cases ha : a < m
    · rw [List.dropWhile_cons_of_pos (by simpa using ha)]
      refine ⟨i1, fun x => ?_⟩
      rw [i2]
      simp only [rmemN, List.any_cons]
      by_cases e : a = x
      · subst e
        rw [decide_eq_false (by omega : ¬ m ≤ a)]; simp
      · rw [decide_eq_false e]; simp
    · rw [List.dropWhile_cons_of_neg (by simpa using ha)]
      refine ⟨h', fun x => ?_⟩
      cases hx : rmemN (a :: N) x
      · rfl
      · rw [rmemN_iff] at hx
        have : m ≤ x := by
          rcases List.mem_cons.1 hx with rfl | hx
          · omega
          · have := h.1 x hx; omega
        simp [this]
theorem SimR.below {s : Rs} {r : RN} (h : SimR s r) (n : Nat) (hn : n ≤ 18446744073709551615) : SimR (s.below n) (r.below n) := by
  obtain ⟨k1, k2⟩ := Rs.below_ok n h.ok hn
  have hf : (s.below n).floor = max r.fl n := by unfold Rs.below; simp only; rw [h.fl]
  obtain ⟨i1, i2⟩ := drop_asc h.asc (max r.fl n)
  exact ⟨k1, h.most, h.m1, hf, i1, fun x => by
    rw [k2, hf, h.mem]
    exact (i2 x).symm⟩
theorem nins_ok {N : List Nat} (h : N.Pairwise (· < ·)) {n : Nat} (hn : rmemN N n = false) : (nins N n).Pairwise (· < ·) ∧ ∀ x, rmemN (nins N n) x = (rmemN N x || decide (x = n)) := by
  have hnm : n ∉ N := fun hx => by rw [← rmemN_iff, hn] at hx; cases hx
  unfold nins nat_
  have e1 : N.take (N.takeWhile fun x => decide (x ≤ n)).length = N.takeWhile fun x => decide (x ≤ n) := by
    have := List.takeWhile_append_dropWhile (p := fun x => decide (x ≤ n)) (l := N)
    conv => lhs; arg 2; rw [← this]
    rw [List.take_left]
  have e2 : N.drop (N.takeWhile fun x => decide (x ≤ n)).length = N.dropWhile fun x => decide (x ≤ n) := by
    have := List.takeWhile_append_dropWhile (p := fun x => decide (x ≤ n)) (l := N)
    conv => lhs; arg 2; rw [← this]
    rw [List.drop_left]
  rw [e1, e2]
  have hsplit := List.takeWhile_append_dropWhile (p := fun x => decide (x ≤ n)) (l := N)
  obtain ⟨P, hP⟩ : ∃ P, (N.takeWhile fun x => decide (x ≤ n)) = P := ⟨_, rfl⟩
  obtain ⟨Q, hQ⟩ : ∃ Q, (N.dropWhile fun x => decide (x ≤ n)) = Q := ⟨_, rfl⟩
  have hPle : ∀ x ∈ P, x ≤ n := fun x hx => by
    rw [← hP] at hx
    have := List.all_eq_true.1 (List.all_takeWhile (p := fun x => decide (x ≤ n)) (l := N)) x hx
    simpa using this
  rw [hP, hQ] at hsplit ⊢
  have h' := h
  rw [← hsplit, List.pairwise_append] at h'
  obtain ⟨a1, a2, a3⟩ := h'
  have hlt : ∀ x ∈ P, x < n := fun x hx => by
    have h1 := hPle x hx
    have h2 : x ≠ n := fun e => hnm (by rw [← hsplit]; subst e; exact List.mem_append_left _ hx)
    omega
  have hQn : ∀ x ∈ Q, n < x := by
    cases Q with
    | nil => simp
    | cons q Q' =>
      have hq : n < q := by
        have := List.head?_dropWhile_not (p := fun x => decide (x ≤ n)) (l := N)
        rw [hQ] at this
        simp at this
        exact this
      intro x hx
      rcases List.mem_cons.1 hx with rfl | hx
      · exact hq
      · rw [List.pairwise_cons] at a2
        have := a2.1 x hx
        omega
  refine ⟨?_, fun x => ?_⟩
  · rw [List.pairwise_append, List.pairwise_cons]
    refine ⟨a1, ⟨hQn, a2⟩, fun x hx y hy => ?_⟩
    rcases List.mem_cons.1 hy with rfl | hy
    · exact hlt x hx
    · exact a3 x hx y hy
  · conv => rhs; rw [← hsplit]
    simp only [rmemN, List.any_append, List.any_cons]
    rw [Bool.eq_iff_iff]
    simp only [Bool.or_eq_true, decide_eq_true_eq]
    constructor
    · rintro (a | b | c)
      · exact .inl (.inl a)
      · exact .inr b.symm
      · exact .inl (.inr c)
    · rintro ((a | c) | b)
      · exact .inl a
      · exact .inr (.inr c)
      · exact .inr (.inl b.symm)
theorem SimR.add {s : Rs} {r : RN} (h : SimR s r) (n : Nat) (hn : n ≤ 4611686018427387903) (hh : s.has n = false) : SimR (s.add n) (r.add n) := by
  have hn2 : rmem s.l n = false ∧ s.floor ≤ n := by unfold Rs.has at hh; simp at hh; exact ⟨hh.2, hh.1⟩
  obtain ⟨k1, k2⟩ := radd_ok h.ok.ok hn2.1
  obtain ⟨a1, a2, a3, a4, a5, a6⟩ := Rs.add_ok h.ok hh hn h.m1
  obtain ⟨i1, i2⟩ := nins_ok h.asc (by rw [← h.mem]; exact hn2.1)
  obtain ⟨j1, j2⟩ := rlst_ok i1
  have hl : rlst (nins r.N n) = radd s.l n := rok_ext _ _ j1 k1 (fun x => by rw [j2, i2, k2, h.mem])
  have hlen : (radd s.l n).length ≤ s.most + 1 := by have := radd_len s.l n; have := h.ok.len; omega
  unfold RN.add
  rw [hl]
  by_cases hm : (radd s.l n).length ≤ s.most
  · obtain ⟨f1, f2⟩ := a5 hm
    have e : ∀ (o : Option Rg), (match o with | some x => if r.most < (radd s.l n).length then (r.add1 n).below (x.hi + 1) else r.add1 n | none => r.add1 n) = r.add1 n := fun o => by
      cases o with
      | none => rfl
      | some x => simp only; rw [if_neg (by rw [← h.most]; omega)]
    rw [e]
    exact ⟨a1, by rw [a4]; exact h.most, by rw [a4]; exact h.m1, by rw [f1]; exact h.fl, i1, fun x => by rw [f2, k2, h.mem]; exact (i2 x).symm⟩
  · obtain ⟨x, f1, f2, f3⟩ := a6 (by omega)
    rw [f1]
    simp only
    rw [if_pos (by rw [← h.most]; omega)]
    have hx : s.floor ≤ x.hi + 1 := by rw [← f2]; exact a3
    have hfl : max r.fl (x.hi + 1) = x.hi + 1 := by rw [← h.fl]; omega
    obtain ⟨d1, d2⟩ := drop_asc i1 (max r.fl (x.hi + 1))
    refine ⟨a1, by rw [a4]; exact h.most, by rw [a4]; exact h.m1, ?_, d1, fun y => ?_⟩
    · rw [f2]; exact hfl.symm
    · rw [a2, f2, h.mem]
      refine Eq.trans ?_ (d2 y).symm
      show _ = (rmemN (nins r.N n) y && _)
      rw [i2, hfl]
theorem nins_len (N : List Nat) (n : Nat) : (nins N n).length = N.length + 1 := by
  unfold nins
  have : nat_ N n ≤ N.length := (List.takeWhile_sublist _).length_le
  simp; omega
theorem below_len (r : RN) (n : Nat) : (r.below n).N.length ≤ r.N.length := (List.dropWhile_sublist _).length_le
theorem add_len (r : RN) (n : Nat) : (r.add n).N.length ≤ r.N.length + 1 := by
  have h1 := nins_len r.N n
  have h2 : ∀ y, ((r.add1 n).below y).N.length ≤ r.N.length + 1 := fun y => by have := below_len (r.add1 n) y; simp only [RN.add1] at this ⊢; omega
  unfold RN.add
  split
  · split
    · exact h2 _
    · simp only [RN.add1]; omega
  · simp only [RN.add1]; omega
end Go.Proofs.Ytdhdnpagdflgpaa
