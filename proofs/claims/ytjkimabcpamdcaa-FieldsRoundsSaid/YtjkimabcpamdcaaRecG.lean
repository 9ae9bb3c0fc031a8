/- A slice of api.Field that came in: how it reads; how long its strings may be. -/
import Derived.Test.YtjkimabcpamdcaaFd
import Derived.OpenShut
import Derived.Deep.SlicePairs
import Derived.SizedLaws
import Derived.ProofKit
import Derived.ChangeOld
namespace Go.Proofs.Ytjkimabcpamdcaa
open Go.ChangeShapes Go.WideShapes Go.ChangeAt Go.RowKit

theorem weightsAll_in {H : Type} {P : Program} {e : TypeId} {d : DataW H} {n : Nat} (hn : n ∈ d.weights P e) : ∀ {l : List (DataW H)}, d ∈ l → n ∈ DataW.weightsAll P e l
  | x :: l, h => by
    simp only [DataW.weightsAll, List.mem_append]
    rcases List.mem_cons.1 h with rfl | h
    · exact .inl hn
    · exact .inr (weightsAll_in hn h)
theorem open_recsF {H : Type} {enc : TypeId × Value → H} {P : Program} {w : World} {t e : TypeId} {f0 f1 : Field} {base : Nat} {a : Option Addr} {len cap : Nat} {d : DataW H} {ps : List MemPlace}
    (ht : P.underlying t = some (.slice e)) (he : P.underlying e = some (.struct #[f0, f1])) (ce : P.cellsOf e = 2) (o0 : f0.offset = 0) (o1 : f1.offset = 1) (c0 : P.cellsOf f0.type = 1) (c1 : P.cellsOf f1.type = 1)
    (s0 : P.underlying f0.type = some .string) (s1 : P.underlying f1.type = some .string) (hw : ∀ n ∈ d.weights P t, n ≤ reachBytes)
    (h : DataW.Trod enc P w base (fun _ => true) true t (.slice a len cap) d ps) :
    ∃ z : List Fd, z.length = len ∧ Rd w a (fdv z) ∧ len ≤ cap ∧ cap ≤ 9223372036854775807 ∧ ∀ x ∈ z, x.name.size ≤ reachBytes ∧ x.value.size ≤ reachBytes := by
  obtain ⟨fuel, hf⟩ := h
  rcases Go.Deep.open_slice_pairs ht he ce o0 o1 c0 c1 hf with ⟨hcs, _⟩ | ⟨a', len', cap', m, n, V0, V1, D0, D1, P0, P1, hcs, _, hl, hm, hmm, hd, hx⟩
  · simp [Value.cells] at hcs
    obtain ⟨rfl, rfl, rfl⟩ := hcs
    exact ⟨[], rfl, Rd.nil _ _, by omega, by omega, fun x hx => by cases hx⟩
  · simp [Value.cells] at hcs
    obtain ⟨rfl, rfl, rfl⟩ := hcs
    have hm' : len ≤ m := by rw [hmm]; simp only [if_true]; exact hl
    simp only [Prod.mk.injEq] at hd
    have each : ∀ i, i < len → ∃ f : Fd, w.cell? (a'.add (i * 2)) = some (.string f.name) ∧ w.cell? (a'.add (i * 2 + 1)) = some (.string f.value) ∧ f.name.size ≤ reachBytes ∧ f.value.size ≤ reachBytes := fun i hi => by
      obtain ⟨g0, g1, t0, t1⟩ := hx i (by omega)
      obtain ⟨q0, e0, x0, _⟩ := DataW.trod_string s0 t0
      obtain ⟨q1, e1, x1, _⟩ := DataW.trod_string s1 t1
      simp only [List.cons.injEq, and_true] at e0 e1
      simp only [Prod.mk.injEq] at x0 x1
      have hin : ∀ n, n ∈ (DataW.agg [D0 i, D1 i]).weights P e → n ≤ reachBytes := fun n hn => hw n (by
        rw [hd.1]
        simp only [DataW.weights, ht, List.mem_cons, List.mem_append]
        exact .inr (.inl (weightsAll_in hn (List.mem_map.2 ⟨i, List.mem_range.2 hi, rfl⟩))))
      refine ⟨⟨q0, q1⟩, by rw [g0, e0], by rw [g1, e1], ?_, ?_⟩
      · have := hin q0.data.toList.length (by simp [DataW.weights, he, DataW.weightsEach, x0.1])
        rwa [Array.length_toList] at this
      · have := hin q1.data.toList.length (by simp [DataW.weights, he, DataW.weightsEach, x1.1])
        rwa [Array.length_toList] at this
    obtain ⟨f, hf'⟩ : ∃ f : Nat → Fd, ∀ i, i < len → w.cell? (a'.add (i * 2)) = some (.string (f i).name) ∧ w.cell? (a'.add (i * 2 + 1)) = some (.string (f i).value) ∧ (f i).name.size ≤ reachBytes ∧ (f i).value.size ≤ reachBytes :=
      ⟨fun i => if hi : i < len then (each i hi).choose else ⟨.empty, .empty⟩, fun i hi => by simp only [dif_pos hi]; exact (each i hi).choose_spec⟩
    refine ⟨(List.range len).map f, by simp, fun hp => ?_, hl, by unfold maxLen at hm; omega, fun x hx => ?_⟩
    · simp at hp
      have h0 := (hf' 0 hp).1
      obtain ⟨b, off, spot⟩ := a'
      have hspot : spot = none := by simpa [Addr.add] using World.cell?_spot h0
      subst hspot
      refine ⟨b, off, rfl, fun j u hu => ?_⟩
      have hj : j < len * 2 := by have := (List.getElem?_eq_some_iff.1 hu).1; simpa using this
      have hz : ((List.range len).map f)[j / 2]? = some (f (j / 2)) := by rw [List.getElem?_map, List.getElem?_range (by omega)]; rfl
      rw [← WideShapes.add_plain]
      rcases (by omega : j % 2 = 0 ∨ j % 2 = 1) with h1 | h1
      · have h2 := rv_get Fd.cells fdc _ (j / 2) _ hz 0 (.string (f (j / 2)).name) rfl
        have h3 := (hf' (j / 2) (by omega)).1
        rw [show j / 2 * 2 + 0 = j by omega, hu] at h2
        rw [show j / 2 * 2 = j by omega] at h3
        rw [h3, h2]
      · have h2 := rv_get Fd.cells fdc _ (j / 2) _ hz 1 (.string (f (j / 2)).value) rfl
        have h3 := (hf' (j / 2) (by omega)).2.1
        rw [show j / 2 * 2 + 1 = j by omega, hu] at h2
        rw [show j / 2 * 2 + 1 = j by omega] at h3
        rw [h3, h2]
    · obtain ⟨i, hi, rfl⟩ := List.mem_map.1 hx
      exact (hf' i (List.mem_range.1 hi)).2.2
end Go.Proofs.Ytjkimabcpamdcaa
