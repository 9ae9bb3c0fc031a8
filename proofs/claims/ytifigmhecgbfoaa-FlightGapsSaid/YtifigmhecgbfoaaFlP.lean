/- FlightGaps: what its states are, in plain words. No program. -/
import Derived.Test.YtifigmhecgbfoaaFlN
namespace Go.Proofs.Ytifigmhecgbfoaa
open Go.RowKit

def gapF (ns : List Nat) : Fl := ⟨ns.map fun n => ⟨n, 5, true⟩, !ns.isEmpty, false, ns.getLast?.getD 0, if ns.isEmpty then 0 else 5, 0⟩
structure Gp (ns : List Nat) (k n : Nat) : Prop where
  len : ns.length = k
  last : ns.getLast?.getD 0 = n
  rise : ns.Pairwise (· < ·)
  le : ∀ x ∈ ns, 1 ≤ x ∧ x ≤ n
  bd : n ≤ 4 * k
theorem Gp.zero : Gp [] 0 0 := ⟨rfl, rfl, List.Pairwise.nil, by simp, by omega⟩
theorem Gp.next {ns : List Nat} {k n g : Nat} (h : Gp ns k n) (hg : g < 4) : Gp (ns ++ [n + 1 + g]) (k + 1) (n + 1 + g) := by
  refine ⟨by simp [h.len], by simp, ?_, ?_, by have := h.bd; omega⟩
  · rw [List.pairwise_append]
    refine ⟨h.rise, by simp, fun a ha b hb => ?_⟩
    have := h.le a ha
    simp at hb
    omega
  · intro x hx
    rw [List.mem_append] at hx
    rcases hx with hx | hx
    · have := h.le x hx; omega
    · simp at hx; omega
theorem Gp.ok {ns : List Nat} {k n g : Nat} (h : Gp ns k n) (hk : k ≤ 100) (hg : g < 4) : fsentok (gapF ns) (n + 1 + g) 5 = true := by
  have hb := h.bd
  unfold fsentok gapF
  simp only [h.last]
  rw [decide_eq_true (by omega)]
  have : decide (n + 1 + g ≤ n) = false := decide_eq_false (by omega)
  rw [this]
  cases ns <;> simp
theorem gapF_snoc (ns : List Nat) (n : Nat) : fsent (gapF ns) n 5 true = gapF (ns ++ [n]) := by
  unfold fsent gapF; simp
theorem gap_none (ns : List Nat) : fnums (gapF ns) (qlost false 0 5 (max 1000 1)) = [] ∧ ftake (gapF ns) (qlost false 0 5 (max 1000 1)) = gapF ns := by
  have h : ∀ x ∈ (gapF ns).l, qlost false 0 5 (max 1000 1) x = false := by
    intro x hx
    simp only [gapF, List.mem_map] at hx
    obtain ⟨n, _, rfl⟩ := hx
    simp [qlost]
    omega
  constructor
  · unfold fnums
    rw [List.filter_eq_nil_iff.2 (fun x hx => by rw [h x hx]; simp)]; rfl
  · unfold ftake
    rw [List.filter_eq_self.2 (fun x hx => by rw [h x hx]; rfl)]
theorem filter_one (t : Nat) : ∀ ns : List Nat, ns.Pairwise (· < ·) → t ∈ ns → (ns.filter fun n => decide (t ≤ n) && decide (n ≤ t)) = [t]
  | [], _, h => by cases h
  | x :: l, hp, h => by
    rw [List.pairwise_cons] at hp
    rcases List.mem_cons.1 h with rfl | h
    · have : (l.filter fun n => decide (t ≤ n) && decide (n ≤ t)) = [] := List.filter_eq_nil_iff.2 (fun y hy => by have := hp.1 y hy; simp; omega)
      simp [this]
    · have := hp.1 t h
      rw [List.filter_cons, if_neg (by simp; omega)]
      exact filter_one t l hp.2 h
def gap2 (ns : List Nat) (t : Nat) : Fl := ftake (fheard (gapF ns) [⟨t, t⟩]) (qcame [⟨t, t⟩])
def gapW (ns : List Nat) (t : Nat) : List Nat := ns.filter fun n => decide (n + 3 ≤ t)
theorem gap_good {ns : List Nat} {k n t : Nat} (h : Gp ns k n) (ht : t ∈ ns) : ([⟨t, t⟩] : List Rg).any (rbad (gapF ns)) = false := by
  have := h.le t ht
  have hne : ns.isEmpty = false := by cases ns <;> simp at ht ⊢
  simp [rbad, gapF, h.last, hne]
  omega
theorem gap_one {ns : List Nat} {k n t : Nat} (h : Gp ns k n) (ht : t ∈ ns) : fnums (gapF ns) (qcame [⟨t, t⟩]) = [t] := by
  unfold fnums gapF
  simp only [List.filter_map, List.map_map]
  rw [← filter_one t ns h.rise ht]
  rw [show (Pk.num ∘ fun n => (⟨n, 5, true⟩ : Pk)) = id from rfl, List.map_id]
  apply List.filter_congr
  intro i _
  simp [qcame, Rg.has, Function.comp]
theorem gap2_st (ns : List Nat) (t : Nat) : (gap2 ns t).came = true ∧ (gap2 ns t).largest = t := by
  simp [gap2, ftake, fheard, gapF]
theorem gap2_q (ns : List Nat) (t : Nat) : fnums (gap2 ns t) (qlost true t 5 (max 1000 1)) = gapW ns t := by
  unfold fnums gap2 ftake fheard gapF gapW
  simp only [List.filter_map, List.map_map, List.filter_filter]
  rw [show (Pk.num ∘ fun n => (⟨n, 5, true⟩ : Pk)) = id from rfl, List.map_id]
  apply List.filter_congr
  intro i _
  simp [qcame, Rg.has, Function.comp, qlost]
  by_cases h : i + 3 ≤ t
  · rw [decide_eq_true h, decide_eq_true (by omega), decide_eq_true (by omega)]
    simp; omega
  · rw [decide_eq_false h]
    by_cases h3 : 3 ≤ t
    · rw [decide_eq_true h3, decide_eq_false (show ¬ i ≤ t - 3 by omega)]; rfl
    · rw [decide_eq_false h3]; rfl
def gap3 (ns : List Nat) (t : Nat) : Fl := ftake (gap2 ns t) (qlost true t 5 (max 1000 1))
theorem gap3_len {ns : List Nat} {k n t : Nat} (h : Gp ns k n) (ht : t ∈ ns) : 1 + (gapW ns t).length + (gap3 ns t).l.length = k := by
  have h1 := ftake_len (fheard (gapF ns) [⟨t, t⟩]) (qcame [⟨t, t⟩])
  have h2 := ftake_len (gap2 ns t) (qlost true t 5 (max 1000 1))
  rw [gap2_q] at h2
  have h3 : fnums (fheard (gapF ns) [⟨t, t⟩]) (qcame [⟨t, t⟩]) = fnums (gapF ns) (qcame [⟨t, t⟩]) := rfl
  rw [h3, gap_one h ht] at h1
  have h4 : (fheard (gapF ns) [⟨t, t⟩]).l.length = k := by simp [fheard, gapF, h.len]
  unfold gap3
  unfold gap2 at h2 ⊢
  simp at h1
  omega
theorem gapW_yes (ns : List Nat) (t k : Nat) (hk : k < ns.length) (h : ns[k] + 3 ≤ t) : gapW (ns.take (k + 1)) t = gapW (ns.take k) t ++ [ns[k]] := by
  unfold gapW; rw [List.take_succ_eq_append_getElem hk, List.filter_append, List.filter_cons, if_pos (by simpa using h)]; rfl
theorem gapW_no (ns : List Nat) (t k : Nat) (hk : k < ns.length) (h : ¬ ns[k] + 3 ≤ t) : gapW (ns.take (k + 1)) t = gapW (ns.take k) t := by
  unfold gapW; rw [List.take_succ_eq_append_getElem hk, List.filter_append, List.filter_cons, if_neg (by simpa using h)]; simp
theorem gapW_len (ns : List Nat) (t : Nat) : (gapW ns t).length ≤ ns.length := List.length_filter_le _ _
end Go.Proofs.Ytifigmhecgbfoaa
