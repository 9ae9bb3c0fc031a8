/- A slice of bytes, or of integers, that came in reads as a list. -/
import Derived.Test.YtgmanhbfdjlhbaaLib
import Derived.OpenShut
namespace Go.Proofs.Ytgmanhbfdjlhbaa
open Go.RowKit

/-- A slice of bytes that came in reads as a list of bytes. -/
theorem row_u8 {w : World} {a : Option Addr} {len cap : Nat} {zs : List Int}
    (h : (a = none ∧ len = 0 ∧ cap = 0 ∧ zs = []) ∨ ∃ x, a = some x ∧ len ≤ cap ∧ cap ≤ maxLen ∧ zs.length = cap ∧ (∀ i, i < zs.length → w.cell? (x.add i) = some (.int .u8 (zs.getD i 0))) ∧ ∀ n ∈ zs, (Lit.int .u8 n).wf = true) :
    ∃ l : List UInt8, l.length = len ∧ Rd w a (bv l) ∧ l.length ≤ cap ∧ cap ≤ 9223372036854775807 := by
  rcases h with ⟨rfl, rfl, rfl, _⟩ | ⟨x, rfl, hl, hm, hz, hc, hw⟩
  · exact ⟨[], rfl, Rd.nil _ _, by simp, by omega⟩
  · refine ⟨(zs.take len).map fun z => UInt8.ofNat z.toNat, by simp; omega, ?_, by simp; omega, by simpa [maxLen] using hm⟩
    intro hn
    have hn' : 0 < len := by simp at hn; omega
    obtain ⟨b, off, rfl, hcell⟩ := ints_at hc (by omega)
    refine ⟨b, off, rfl, fun k u hu => ?_⟩
    have hk : k < len := by
      have := (List.getElem?_eq_some_iff.1 hu).1
      simp at this; omega
    have hkz : k < zs.length := by omega
    rw [hcell k hkz]
    have hmem := hw zs[k] (List.getElem_mem hkz)
    have hb := bounds_u8 hmem
    have e : (bv ((zs.take len).map fun z => UInt8.ofNat z.toNat))[k]? = some (.int .u8 zs[k]) := by
      simp [bv, hk, hkz]
      omega
    rw [e] at hu
    injection hu with hu
    rw [← hu]
    simp [List.getD, hkz]

/-- A slice of numbers that came in reads as a list of them. -/
theorem row_int {k : IntKind} {w : World} {a : Option Addr} {len cap : Nat} {zs : List Int}
    (h : (a = none ∧ len = 0 ∧ cap = 0 ∧ zs = []) ∨ ∃ x, a = some x ∧ len ≤ cap ∧ cap ≤ maxLen ∧ zs.length = cap ∧ (∀ i, i < zs.length → w.cell? (x.add i) = some (.int k (zs.getD i 0))) ∧ ∀ n ∈ zs, (Lit.int k n).wf = true) :
    ∃ l : List Int, l.length = len ∧ Rd w a (l.map (Value.int k)) ∧ l.length ≤ cap ∧ cap ≤ 9223372036854775807 ∧ ∀ n ∈ l, (Lit.int k n).wf = true := by
  rcases h with ⟨rfl, rfl, rfl, _⟩ | ⟨x, rfl, hl, hm, hz, hc, hw⟩
  · exact ⟨[], rfl, Rd.nil _ _, by simp, by omega, by simp⟩
  · refine ⟨zs.take len, by simp; omega, ?_, by simp; omega, by simpa [maxLen] using hm, fun n hn => hw n (List.mem_of_mem_take hn)⟩
    intro hn
    have hn' : 0 < len := by simp at hn; omega
    obtain ⟨b, off, rfl, hcell⟩ := ints_at hc (by omega)
    refine ⟨b, off, rfl, fun j u hu => ?_⟩
    have hk : j < len := by
      have := (List.getElem?_eq_some_iff.1 hu).1
      simp at this; omega
    have hkz : j < zs.length := by omega
    rw [hcell j hkz]
    have e : ((zs.take len).map (Value.int k))[j]? = some (.int k zs[j]) := by simp [hk, hkz]
    rw [e] at hu
    injection hu with hu
    rw [← hu]
    simp [List.getD, hkz]

end Go.Proofs.Ytgmanhbfdjlhbaa
