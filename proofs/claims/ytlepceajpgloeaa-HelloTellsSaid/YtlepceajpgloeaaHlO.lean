/- hello: how an array of 32 bytes, and a slice of slices of bytes, that came in read. -/
import Derived.Test.YtlepceajpgloeaaHlC
import Derived.OpenShut
import Derived.Deep.Matrix
import Derived.ProofKit
import Derived.ChangeOld
namespace Go.Proofs.Ytlepceajpgloeaa
open Go.ChangeShapes Go.WideShapes Go.ChangeAt Go.RowKit

theorem mapM_each {α β : Type} {f : α → Option β} : ∀ {l : List α} {r : List β}, l.mapM f = some r → ∀ x ∈ l, ∃ y, f x = some y := by
  intro l
  induction l with
  | nil => intro r _ x hx; cases hx
  | cons x xs ih =>
    intro r h y hy
    rw [List.mapM_cons] at h
    cases hfx : f x with
    | none => simp [hfx] at h
    | some b =>
      cases hxs : xs.mapM f with
      | none => simp [hfx, hxs] at h
      | some ys =>
        rcases List.mem_cons.1 hy with rfl | hy
        · exact ⟨b, hfx⟩
        · exact ih hxs y hy
theorem u8_all : ∀ (cs : List Value), (∀ v ∈ cs, ∃ z : Int, v = .int .u8 z ∧ (Lit.int .u8 z).wf = true) → ∃ r : List UInt8, r.length = cs.length ∧ cs = bv r
  | [], _ => ⟨[], rfl, rfl⟩
  | v :: cs, h => by
    obtain ⟨z, rfl, hw⟩ := h v List.mem_cons_self
    obtain ⟨r, h1, h2⟩ := u8_all cs (fun u hu => h u (List.mem_cons_of_mem _ hu))
    have hb := bounds_u8 hw
    refine ⟨UInt8.ofNat z.toNat :: r, by simp [h1], ?_⟩
    rw [h2]
    have : (((UInt8.ofNat z.toNat).toNat : Nat) : Int) = z := by rw [UInt8.toNat_ofNat']; omega
    unfold bv
    rw [List.map_cons, this]
theorem open_arr32 {H : Type} {enc : TypeId × Value → H} {P : Program} {w : World} {t e : TypeId} {sp : Nat → Bool} {r0 : Reach} {base b0 : Nat} {v : Value} {d : DataW H} {ps : List MemPlace}
    (ht : P.underlying t = some (.array 32 e)) (he : P.underlying e = some (.int .u8)) (ce : P.cellsOf e = 1) (ct : P.cellsOf t = 32)
    (hv : Value.okWide P w r0 b0 t v) (h : DataW.Trod enc P w base sp true t v d ps) : ∃ r : List UInt8, r.length = 32 ∧ v = .agg (bv r).toArray := by
  simp only [Value.okWide, ht] at hv
  obtain ⟨cs, rfl, hsz, _⟩ := hv
  rw [ct] at hsz
  obtain ⟨fuel, hf⟩ := h
  cases fuel with
  | zero => simp [DataW.trod] at hf
  | succ m =>
    rw [DataW.trod_step] at hf
    unfold DataW.trodStep at hf
    simp only [ht, Value.cells, ce, Nat.mul_one] at hf
    rw [if_pos (by rw [ct]; simpa using hsz)] at hf
    simp only [Option.map_eq_some_iff] at hf
    obtain ⟨ys, hy, _⟩ := hf
    obtain ⟨r, h1, h2⟩ := u8_all cs.toList (fun u hu => by
      obtain ⟨i, hi, rfl⟩ := List.getElem_of_mem hu
      have hi32 : i < 32 := by simpa [hsz] using hi
      obtain ⟨y, hy⟩ := mapM_each hy i (List.mem_range.2 hi32)
      have e1 : (cs.toList.drop i).take 1 = [cs.toList[i]] := by
        rw [List.drop_eq_getElem_cons hi]; rfl
      rw [e1] at hy
      cases m with
      | zero => simp [DataW.trod] at hy
      | succ m2 =>
        rw [DataW.trod_step] at hy
        unfold DataW.trodStep at hy
        simp only [he] at hy
        generalize cs.toList[i] = u at hy ⊢
        cases u <;> simp at hy
        rename_i k z
        obtain ⟨⟨rfl, hw⟩, _⟩ := hy
        exact ⟨z, rfl, hw⟩)
    refine ⟨r, by rw [h1]; simpa using hsz, ?_⟩
    rw [← h2]
theorem open_rowsU8 {H : Type} {enc : TypeId × Value → H} {P : Program} {w : World} {t e q : TypeId} {base : Nat} {a : Option Addr} {len cap : Nat} {d : DataW H} {ps : List MemPlace}
    (ht : P.underlying t = some (.slice e)) (he : P.underlying e = some (.slice q)) (hq : P.underlying q = some (.int .u8)) (ce : P.cellsOf e = 1) (cq : P.cellsOf q = 1)
    (h : DataW.Trod enc P w base (fun _ => true) true t (.slice a len cap) d ps) : ∃ ids : List (List UInt8), ids.length = len ∧ RdR w a ids ∧ len ≤ 9223372036854775807 := by
  obtain ⟨fuel, hf⟩ := h
  rcases Go.Deep.open_int_rows ht he hq ce cq hf with ⟨hcs, _⟩ | ⟨a', len', cap', A, L, C, Z, hcs, _, hl, hm, _, hx⟩
  · simp [Value.cells] at hcs
    obtain ⟨rfl, rfl, rfl⟩ := hcs
    exact ⟨[], rfl, ⟨[], Rd.nil _ _, rfl, fun k id h => by simp at h⟩, by omega⟩
  · simp [Value.cells] at hcs
    obtain ⟨rfl, rfl, rfl⟩ := hcs
    have each : ∀ k, k < len → ∃ id : List UInt8, id.length = L k ∧ Rd w (A k) (bv id) := fun k hk => by
      obtain ⟨_, h2, h3, h4, h5, h6, h7⟩ := hx k (by omega)
      have hrow : (A k = none ∧ L k = 0 ∧ C k = 0 ∧ Z k = []) ∨ ∃ x, A k = some x ∧ L k ≤ C k ∧ C k ≤ maxLen ∧ (Z k).length = C k ∧ (∀ i, i < (Z k).length → w.cell? (x.add i) = some (.int .u8 ((Z k).getD i 0))) ∧ ∀ n ∈ Z k, (Lit.int .u8 n).wf = true := by
        cases hA : A k with
        | none =>
          have hc := h6 hA
          refine .inl ⟨rfl, by omega, hc, List.eq_nil_of_length_eq_zero (by omega)⟩
        | some x => exact .inr ⟨x, rfl, h2, h3, h4, fun i hi => (h7 x hA).2 i (by omega), h5⟩
      rcases hrow with ⟨e1, e2, e3, _⟩ | ⟨x, e1, hl', hm', hz, hc', hw⟩
      · exact ⟨[], by rw [e2]; rfl, Rd.nil _ _⟩
      · obtain ⟨r, h1, h2'⟩ := u8_all (((Z k).take (L k)).map (Value.int .u8)) (fun v hv => by
          obtain ⟨z, hz', rfl⟩ := List.mem_map.1 hv
          exact ⟨z, rfl, hw z (List.mem_of_mem_take hz')⟩)
        refine ⟨r, by rw [h1, List.length_map, List.length_take]; omega, fun hp => ?_⟩
        rw [bv_length, h1, List.length_map, List.length_take] at hp
        obtain ⟨b, off, rfl, hcell⟩ := ints_at hc' (by omega)
        refine ⟨b, off, e1, fun j u hu => ?_⟩
        rw [← h2', List.getElem?_map, List.getElem?_take] at hu
        have hj : j < L k := by
          rcases Nat.lt_or_ge j (L k) with h | h
          · exact h
          · rw [if_neg (by omega)] at hu; cases hu
        rw [if_pos hj, List.getElem?_eq_getElem (by omega)] at hu
        simp only [Option.map_some, Option.some.injEq] at hu
        subst hu
        rw [hcell j (by omega)]
        simp [List.getD, (by omega : j < (Z k).length)]
    have hch : ∃ f : Nat → List UInt8, ∀ k, k < len → (f k).length = L k ∧ Rd w (A k) (bv (f k)) :=
      ⟨fun k => if hk : k < len then (each k hk).choose else [], fun k hk => by simp only [dif_pos hk]; exact (each k hk).choose_spec⟩
    obtain ⟨f, hf'⟩ := hch
    refine ⟨(List.range len).map f, by simp, ⟨(List.range len).map fun k => Value.slice (A k) (L k) (C k), fun hp => ?_, by simp, fun k id hk => ?_⟩, by unfold maxLen at hm; omega⟩
    · simp at hp
      have hcell : ∀ k, k < len → w.cell? (a'.add k) = some (.slice (A k) (L k) (C k)) := fun k hk => (hx k (by omega)).1
      have h0 := hcell 0 hp
      obtain ⟨b, off, spot⟩ := a'
      have hspot : spot = none := by simpa [Addr.add] using World.cell?_spot h0
      subst hspot
      refine ⟨b, off, rfl, fun j u hu => ?_⟩
      have hj : j < len := by have := (List.getElem?_eq_some_iff.1 hu).1; simpa using this
      rw [List.getElem?_map, List.getElem?_range hj] at hu
      simp only [Option.map_some, Option.some.injEq] at hu
      subst hu
      rw [← WideShapes.add_plain]
      exact hcell j hj
    · have hkl : k < len := by
        have := (List.getElem?_eq_some_iff.1 hk).1; simpa using this
      rw [List.getElem?_map, List.getElem?_range hkl] at hk
      simp only [Option.map_some, Option.some.injEq] at hk
      subst hk
      obtain ⟨q1, q2⟩ := hf' k hkl
      obtain ⟨_, h2, h3, _⟩ := hx k (by omega)
      exact ⟨A k, C k, by rw [List.getElem?_map, List.getElem?_range hkl, q1]; rfl, q2, by rw [q1]; exact h2, by unfold maxLen at h3; omega⟩
end Go.Proofs.Ytlepceajpgloeaa
