/- The document's fields: what a line tells, in plain Lean; it is what our reader tells. -/
import Derived.Test.YtjkimabcpamdcaaFdG
import Derived.Test.YtjkimabcpamdcaaFsA
import Derived.Test.YtjkimabcpamdcaaFsB
namespace Go.Proofs.Ytjkimabcpamdcaa
open Go.RowKit

theorem res_ctt {P : Program} {fn : Func} {p t1 t2 : Tmp} {s : TypeId} (h : fn.results = #[.cell p s, .tmp t1, .tmp t2]) (tmps : Array Value) (w : World) (a : Addr) (x : Value) {u1 u2 : Value}
    (ha : tmps.getD p undef = .pointer (some a)) (hx : (loadVar s a).run P w = .ok x w) (h1 : tmps.getD t1 undef = u1) (h2 : tmps.getD t2 undef = u2) : (results fn tmps).run P w = .ok (.tuple #[x, u1, u2]) w := by
  subst h1 h2
  simp only [Array.getD_eq_getD_getElem?] at ha
  simp only [results, h]
  simp [Sem.run_bind, Result.andThen, ha, asAddr, hx]
set_option maxRecDepth 100000 in
set_option maxHeartbeats 2000000 in
theorem rfixed_far (w : World) : Calls Try.prog 31 #[] w fun e w' => ∃ g, e = .returned (.slice (some ⟨g, 0, none⟩) 16 16) ∧ w.heap.size ≤ g ∧ (∀ (N : Nat) (a b : ByteArray), fixed[N]? = some (⟨a, b⟩ : Fd) → w'.cell? ⟨g, N * 2, none⟩ = some (.string a) ∧ w'.cell? ⟨g, N * 2 + 1, none⟩ = some (.string b)) ∧ Below w.heap.size w w' := by
  go_enter Try.func31, Try.ntmps31
  go_wp2
  go_ret
  refine ⟨_, rfl, Nat.le_refl _, fun N a b h => ?_, (Below.refl _ w).alloc (Nat.le_refl _) _⟩
  obtain ⟨hN, e⟩ := List.getElem?_eq_some_iff.1 h
  obtain ⟨b', off', e1, x0, x1⟩ := load_fd (Rd.fresh_mark w (fdv fixed) _ _) hN
  injection e1 with e1
  injection e1 with e1 e2
  subst e1 e2
  rw [e, Nat.zero_add] at x0 x1
  exact ⟨x0, x1⟩

/-- The number of one of the fixed ones, b bits wide. -/
def rnum (b : Nat) (l : List UInt8) : Nat × Int × Int :=
  if (pget b l).2.2 ≠ 0 then (0, 0, (pget b l).2.2) else if 16 ≤ (pget b l).1 then (0, 0, 5) else ((pget b l).1.toNat, (pget b l).2.1, 0)
def rtail (l : List UInt8) (a : ByteArray) (k : Nat) : Fd × Int × Int :=
  if (pgettext 7 (l.drop k)).2.2 ≠ 0 then (fdz, 0, (pgettext 7 (l.drop k)).2.2)
  else if 400 < (pgettext 7 (l.drop k)).1.length then (fdz, 0, 4)
  else if valok ⟨(pgettext 7 (l.drop k)).1.toArray⟩ = false then (fdz, 0, 5)
  else (⟨a, ⟨(pgettext 7 (l.drop k)).1.toArray⟩⟩, (k : Int) + (pgettext 7 (l.drop k)).2.1, 0)
def rln : List UInt8 → Fd × Int × Int
  | [] => (fdz, 0, 5)
  | x :: r =>
    if x.toNat / 64 = 3 then (if (rnum 6 (x :: r)).2.2 ≠ 0 then (fdz, 0, (rnum 6 (x :: r)).2.2) else (fixed.getD (rnum 6 (x :: r)).1 fdz, (rnum 6 (x :: r)).2.1, 0))
    else if x.toNat / 16 = 5 then (if (rnum 4 (x :: r)).2.2 ≠ 0 then (fdz, 0, (rnum 4 (x :: r)).2.2) else rtail (x :: r) (fixed.getD (rnum 4 (x :: r)).1 fdz).name (rnum 4 (x :: r)).2.1.toNat)
    else if x.toNat / 16 = 2 then
      (if (pgettext 3 (x :: r)).2.2 ≠ 0 then (fdz, 0, (pgettext 3 (x :: r)).2.2)
       else if nameok ⟨(pgettext 3 (x :: r)).1.toArray⟩ = false then (fdz, 0, 5)
       else rtail (x :: r) ⟨(pgettext 3 (x :: r)).1.toArray⟩ (pgettext 3 (x :: r)).2.1.toNat)
    else (fdz, 0, 5)

theorem pgettext_pos (b : Nat) (l : List UInt8) (hb1 : 1 ≤ b) (hb7 : b ≤ 7) (h : (pgettext b l).2.2 = 0) : 1 ≤ (pgettext b l).2.1 := by
  cases l with
  | nil => simp [pgettext] at h
  | cons x r =>
    have hg := pget_ok b x r hb1 (by omega)
    unfold pgettext at h ⊢
    simp only at h ⊢
    split at h
    · simp at h
    · split at h
      · rename_i h1; exact absurd h h1
      · split at h
        · simp at h
        · split at h
          · simp at h
          · rename_i h1 h2 h3 h4
            have := hg (by simpa using h2)
            rw [if_neg h1, if_neg h2, if_neg h3, if_neg h4]
            simp only
            omega

/-- What rtail tells, beside pval. -/
theorem rtail_pval (l : List UInt8) (a : ByteArray) (k : Nat) (hk : k ≤ l.length) :
    (rtail l a k).2.2 = (pval (l.drop k) 0).2.1 ∧ ((rtail l a k).2.2 = 0 → (rtail l a k).1 = ⟨a, (pval (l.drop k) 0).2.2⟩ ∧ l.drop (rtail l a k).2.1.toNat = (pval (l.drop k) 0).1 ∧ (k : Int) + 1 ≤ (rtail l a k).2.1 ∧ (rtail l a k).2.1 ≤ l.length) := by
  have hb := pgettext_bd 7 (l.drop k) (by omega) (by omega)
  have hp := pgettext_pos 7 (l.drop k) (by omega) (by omega)
  have hld : (l.drop k).length = l.length - k := List.length_drop
  have hx : ptxt 7 (l.drop k) 0 = ((l.drop k).drop (pgettext 7 (l.drop k)).2.1.toNat, (pgettext 7 (l.drop k)).2.2, ⟨(pgettext 7 (l.drop k)).1.toArray⟩) := by unfold ptxt; rw [if_neg (by simp)]
  unfold rtail pval
  rw [hx]
  obtain ⟨⟨s, lg, er⟩, ht⟩ : ∃ t, pgettext 7 (l.drop k) = t := ⟨_, rfl⟩
  rw [ht] at hb hp ⊢
  have hsz : (⟨s.toArray⟩ : ByteArray).size = s.length := by simp [ByteArray.size]
  simp only [hsz] at hb hp ⊢
  by_cases h0 : er = 0
  · have := hp h0
    subst h0
    simp only [ne_eq, not_true_eq_false, if_false]
    by_cases h1 : 400 < s.length
    · rw [if_pos h1, if_pos h1]; simp
    · rw [if_neg h1, if_neg h1]
      cases hv : valok ⟨s.toArray⟩ with
      | false => simp
      | true =>
        rw [if_neg (by simp), if_pos rfl]
        refine ⟨rfl, fun _ => ⟨rfl, ?_, by simp only; omega, by simp only; omega⟩⟩
        simp only [List.drop_drop]
        congr 1
        omega
  · rw [if_pos h0, if_pos h0]
    exact ⟨rfl, fun h => absurd h h0⟩
theorem pval_err (l : List UInt8) (e : Int) (he : e ≠ 0) : (pval l e).2.1 = e := by
  unfold pval ptxt
  rw [if_pos he, if_pos he]
theorem rnum_pnum (b : Nat) (l : List UInt8) (hb1 : 1 ≤ b) (hb8 : b ≤ 8) : (rnum b l).2.2 = (pnum b l).2.1 ∧ ((rnum b l).2.2 = 0 → fixed.getD (rnum b l).1 fdz = (pnum b l).2.2 ∧ l.drop (rnum b l).2.1.toNat = (pnum b l).1 ∧ 1 ≤ (rnum b l).2.1 ∧ (rnum b l).2.1 ≤ l.length ∧ (rnum b l).1 < 16) := by
  have hb := pget_bd b l hb1 hb8
  unfold rnum pnum
  obtain ⟨⟨N, lg, er⟩, ht⟩ : ∃ t, pget b l = t := ⟨_, rfl⟩
  rw [ht] at hb ⊢
  simp only at hb ⊢
  by_cases h0 : er = 0
  · have := hb h0
    subst h0
    simp only [ne_eq, not_true_eq_false, if_false]
    by_cases h1 : 16 ≤ N
    · rw [if_pos h1, if_pos h1]; simp
    · rw [if_neg h1, if_neg h1]
      exact ⟨rfl, fun _ => ⟨rfl, rfl, by simp only; omega, by simp only; omega, by simp only; omega⟩⟩
  · rw [if_pos h0, if_pos h0]
    exact ⟨rfl, fun h => absurd h h0⟩
theorem rln_pln (x : UInt8) (r : List UInt8) : (rln (x :: r)).2.2 = (pln (x :: r)).2.1 ∧ ((rln (x :: r)).2.2 = 0 → (rln (x :: r)).1 = (pln (x :: r)).2.2 ∧ (x :: r).drop (rln (x :: r)).2.1.toNat = (pln (x :: r)).1 ∧ 1 ≤ (rln (x :: r)).2.1 ∧ (rln (x :: r)).2.1 ≤ (x :: r).length) := by
  rw [rln, pln]
  by_cases c1 : x.toNat / 64 = 3
  · rw [if_pos c1, if_pos c1]
    obtain ⟨h1, h2⟩ := rnum_pnum 6 (x :: r) (by omega) (by omega)
    by_cases h0 : (rnum 6 (x :: r)).2.2 = 0
    · obtain ⟨a1, a2, a3, a4, _⟩ := h2 h0
      rw [if_neg (by simpa using h0)]
      exact ⟨by rw [← h1, h0], fun _ => ⟨a1, a2, a3, a4⟩⟩
    · rw [if_pos h0]
      exact ⟨h1, fun h => absurd h h0⟩
  · rw [if_neg c1, if_neg c1]
    by_cases c2 : x.toNat / 16 = 5
    · rw [if_pos c2, if_pos c2]
      obtain ⟨h1, h2⟩ := rnum_pnum 4 (x :: r) (by omega) (by omega)
      by_cases h0 : (rnum 4 (x :: r)).2.2 = 0
      · obtain ⟨a1, a2, a3, a4, _⟩ := h2 h0
        rw [if_neg (by simpa using h0)]
        obtain ⟨b1, b2⟩ := rtail_pval (x :: r) (fixed.getD (rnum 4 (x :: r)).1 fdz).name (rnum 4 (x :: r)).2.1.toNat (by omega)
        rw [a2] at b1 b2
        rw [← h1, h0, ← a1]
        refine ⟨b1, fun h => ?_⟩
        obtain ⟨d1, d2, d3, d4⟩ := b2 h
        exact ⟨d1, d2, by omega, d4⟩
      · rw [if_pos h0]
        refine ⟨?_, fun h => absurd h h0⟩
        simp only
        rw [← h1, pval_err _ _ h0]
    · rw [if_neg c2, if_neg c2]
      by_cases c3 : x.toNat / 16 = 2
      · rw [if_pos c3, if_pos c3]
        have hb := pgettext_bd 3 (x :: r) (by omega) (by omega)
        have hp := pgettext_pos 3 (x :: r) (by omega) (by omega)
        have hx : ptxt 3 (x :: r) 0 = ((x :: r).drop (pgettext 3 (x :: r)).2.1.toNat, (pgettext 3 (x :: r)).2.2, ⟨(pgettext 3 (x :: r)).1.toArray⟩) := by unfold ptxt; rw [if_neg (by simp)]
        rw [hx]
        obtain ⟨⟨s, lg, er⟩, ht⟩ : ∃ t, pgettext 3 (x :: r) = t := ⟨_, rfl⟩
        rw [ht] at hb hp ⊢
        simp only at hb hp ⊢
        by_cases h0 : er = 0
        · rw [if_neg (by simpa using h0)]
          cases hv : nameok ⟨s.toArray⟩ with
          | false =>
            rw [if_pos rfl, if_pos ⟨h0, rfl⟩, pval_err _ _ (by omega)]
            simp
          | true =>
            have := hp h0
            rw [if_neg (by simp), if_neg (by simp), h0]
            obtain ⟨b1, b2⟩ := rtail_pval (x :: r) ⟨s.toArray⟩ lg.toNat (by omega)
            refine ⟨b1, fun h => ?_⟩
            obtain ⟨d1, d2, d3, d4⟩ := b2 h
            exact ⟨d1, d2, by omega, d4⟩
        · rw [if_pos h0, if_neg (fun h => h0 h.1), pval_err _ _ h0]
          exact ⟨rfl, fun h => absurd h h0⟩
      · rw [if_neg c3, if_neg c3, pval_err _ _ (by omega)]
        simp
end Go.Proofs.Ytjkimabcpamdcaa
