/- A slice of records that came in, each field one cell: opened at every record and field. Nothing of the program. -/
import Derived.Test.YtgmanhbfdjlhbaaRows
import Derived.OpenShut
import Derived.Deep.Slices
import Derived.ProofKit
namespace Go.Proofs.Ytgmanhbfdjlhbaa
open Go.ChangeShapes Go.WideShapes Go.ChangeAt Go.RowKit

theorem open_recsV {H : Type} {enc : TypeId × Value → H} {P : Program} {w : World} {t e : TypeId} {fs : Array Field} {k : Nat} {base : Nat} {a : Option Addr} {len cap : Nat} {d : DataW H} {ps : List MemPlace}
    (ht : P.underlying t = some (.slice e)) (he : P.underlying e = some (.struct fs)) (ce : P.cellsOf e = k) (hk : fs.size = k) (k0 : 0 < k) (hf : ∀ (j : Nat) (f : Field), fs[j]? = some f → f.offset = j ∧ P.cellsOf f.type = 1)
    (h : DataW.Trod enc P w base (fun _ => true) true t (.slice a len cap) d ps) :
    len ≤ cap ∧ cap ≤ 9223372036854775807 ∧ (len = 0 ∨ ∃ b off, a = some ⟨b, off, none⟩) ∧ ∃ V : Nat → Nat → Value, ∀ i, i < len → ∀ (j : Nat) (f : Field), fs[j]? = some f → (∀ b off, a = some ⟨b, off, none⟩ → w.cell? ⟨b, off + i * k + j, none⟩ = some (V i j)) ∧
      ∃ n y, DataW.trod enc P w base (fun _ => true) true n f.type [V i j] = some y := by
  obtain ⟨fuel, hf0⟩ := h
  rcases Go.Deep.open_slice ht hf0 with ⟨hcs, _⟩ | ⟨a', len', cap', m, n, D, Pl, hcs, _, hl, hm, hmm, _, hx⟩
  · simp [Value.cells] at hcs
    obtain ⟨rfl, rfl, rfl⟩ := hcs
    exact ⟨Nat.le_refl _, by omega, .inl rfl, fun _ _ => .bool false, fun i hi => by omega⟩
  · simp [Value.cells] at hcs
    obtain ⟨rfl, rfl, rfl⟩ := hcs
    have hm' : len ≤ m := by rw [hmm]; simp only [if_true]; exact hl
    have each : ∀ i, i < len → ∃ cs' : List Value, cs'.length = k ∧ (∀ j, j < k → w.cell? ((a'.add (i * k)).add j) = cs'[j]?) ∧ ∀ (j : Nat) (f : Field), fs[j]? = some f → ∃ v, cs'[j]? = some v ∧ ∃ n y, DataW.trod enc P w base (fun _ => true) true n f.type [v] = some y := fun i hi => by
      obtain ⟨cs', h1, h2⟩ := hx i (by omega)
      rw [ce] at h1
      obtain ⟨_, hlen, hcell⟩ := World.cells?_some h1
      obtain ⟨xs, n', _, _, _, hxl, hfx⟩ := DataW.trod_struct he h2
      refine ⟨cs', hlen, hcell, fun j f hj => ?_⟩
      have hjk : j < k := by have := (Array.getElem?_eq_some_iff.1 hj).1; omega
      obtain ⟨ho, hc⟩ := hf j f hj
      have h3 := hfx j f hj
      rw [ho, hc, List.getElem?_eq_getElem (by omega : j < xs.length)] at h3
      have hv : (cs'.drop j).take 1 = [cs'[j]'(by omega)] := by
        rw [List.drop_eq_getElem_cons (by omega)]; rfl
      rw [hv] at h3
      exact ⟨cs'[j]'(by omega), List.getElem?_eq_getElem (by omega), n', _, h3⟩
    have hplain : len = 0 ∨ ∃ b off, a' = ⟨b, off, none⟩ := by
      rcases Nat.eq_zero_or_pos len with h0 | h0
      · exact .inl h0
      · right
        obtain ⟨cs', h1, h2, _⟩ := each 0 h0
        have h3 := h2 0 k0
        rw [List.getElem?_eq_getElem (by omega)] at h3
        obtain ⟨b, off, spot⟩ := a'
        have hspot : spot = none := by simpa [Addr.add] using World.cell?_spot h3
        subst hspot
        exact ⟨b, off, rfl⟩
    obtain ⟨cs, hcs⟩ := Go.Deep.choose_lt each
    refine ⟨hl, by unfold maxLen at hm; omega, ?_, fun i j => (cs i).getD j (.bool false), fun i hi j f hj => ?_⟩
    · rcases hplain with h0 | ⟨b, off, rfl⟩
      · exact .inl h0
      · exact .inr ⟨b, off, rfl⟩
    · obtain ⟨h1, h2, h3⟩ := hcs i hi
      have hjk : j < k := by have := (Array.getElem?_eq_some_iff.1 hj).1; omega
      obtain ⟨v, hv, n2, y, ht'⟩ := h3 j f hj
      have hg : (cs i).getD j (.bool false) = v := by rw [List.getD_eq_getElem?_getD, hv]; rfl
      simp only [hg]
      refine ⟨fun b off e => ?_, n2, y, ht'⟩
      injection e with e
      subst e
      have := h2 j hjk
      rw [hv, WideShapes.add_plain, WideShapes.add_plain] at this
      exact this
end Go.Proofs.Ytgmanhbfdjlhbaa
