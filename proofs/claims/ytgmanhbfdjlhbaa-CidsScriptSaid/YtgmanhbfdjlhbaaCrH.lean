/- CidsScript: what it answers at every input; the acts that came in, opened. -/
import Derived.Test.YtgmanhbfdjlhbaaCrG
import Derived.Test.YtgmanhbfdjlhbaaRecs
import Derived.OpenShut
import Derived.Deep.Matrix
import Derived.ProofKit
import Derived.ChangeOld
namespace Go.Proofs.Ytgmanhbfdjlhbaa
open Go.ChangeShapes Go.WideShapes Go.ChangeAt Go.RowKit

theorem u8_all : ∀ (cs : List Value), (∀ v ∈ cs, ∃ z : Int, v = .int .u8 z ∧ (Lit.int .u8 z).wf = true) → ∃ r : List UInt8, r.length = cs.length ∧ cs = bv r
  | [], _ => ⟨[], rfl, rfl⟩
  | v :: cs, h => by
    obtain ⟨z, rfl, hw⟩ := h v List.mem_cons_self
    obtain ⟨r, h1, h2⟩ := u8_all cs (fun u hu => h u (List.mem_cons_of_mem _ hu))
    have hb := bounds_u8 hw
    refine ⟨UInt8.ofNat z.toNat :: r, by simp [h1], ?_⟩
    rw [h2]
    have : (((UInt8.ofNat z.toNat).toNat : Nat) : Int) = z := by rw [UInt8.toNat_ofNat']; omega
    unfold bv
    rw [List.map_cons, this]
/-- A slice of bytes, a cell of what came in. -/
theorem open_u8 {H : Type} {enc : TypeId × Value → H} {P : Program} {w : World} {t e : TypeId} {base n : Nat} {v : Value} {y : DataW H × List MemPlace} (ht : P.underlying t = some (.slice e)) (he : P.underlying e = some (.int .u8)) (ce : P.cellsOf e = 1)
    (h : DataW.trod enc P w base (fun _ => true) true n t [v] = some y) : ∃ A l c, v = .slice A l c ∧ ∃ D : List UInt8, D.length = l ∧ Rd w A (bv D) ∧ l ≤ c ∧ c ≤ 9223372036854775807 := by
  rcases open_ints ht he ce h with ⟨hcs, _⟩ | ⟨x, l, c, zs, hcs, _, hl, hm, hz, _, hcell, hwz⟩
  · injection hcs with hcs
    exact ⟨none, 0, 0, hcs, [], rfl, Rd.nil _ _, Nat.le_refl _, by omega⟩
  · injection hcs with hcs
    have hzc : zs.length = c := by simpa using hz
    obtain ⟨r, h1, h2'⟩ := u8_all ((zs.take l).map (Value.int .u8)) (fun v hv => by
      obtain ⟨z, hz', rfl⟩ := List.mem_map.1 hv
      exact ⟨z, rfl, hwz z (List.mem_of_mem_take hz')⟩)
    refine ⟨some x, l, c, hcs, r, by rw [h1, List.length_map, List.length_take]; omega, fun hp => ?_, hl, by unfold maxLen at hm; omega⟩
    rw [bv_length, h1, List.length_map, List.length_take] at hp
    have h0 := hcell 0 (by omega)
    obtain ⟨b, off, spot⟩ := x
    have hspot : spot = none := by simpa [Addr.add] using World.cell?_spot h0
    subst hspot
    refine ⟨b, off, rfl, fun j u hu => ?_⟩
    rw [← h2', List.getElem?_map, List.getElem?_take] at hu
    have hj : j < l := by
      rcases Nat.lt_or_ge j l with h | h
      · exact h
      · rw [if_neg (by omega)] at hu; cases hu
    rw [if_pos hj, List.getElem?_eq_getElem (by omega)] at hu
    simp only [Option.map_some, Option.some.injEq] at hu
    subst hu
    rw [← WideShapes.add_plain, hcell j (by omega)]
    simp [List.getD, (by omega : j < zs.length)]
theorem vals_int {H : Type} {enc : TypeId × Value → H} {w : World} {base n : Nat} {v : Value} {y : DataW H × List MemPlace} (h : DataW.trod enc Try.prog w base (fun _ => true) true n 3 [v] = some y) : ∃ x : Int, v = .int .i64 x ∧ -9223372036854775808 ≤ x ∧ x ≤ 9223372036854775807 := by
  obtain ⟨x, h1, _, h3⟩ := DataW.trod_int (k := .i64) Try.underlying3 h
  injection h1 with h1
  exact ⟨x, h1, (bounds_i64 h3).1, (bounds_i64 h3).2⟩
theorem vals_u64 {H : Type} {enc : TypeId × Value → H} {w : World} {base n : Nat} {v : Value} {y : DataW H × List MemPlace} (h : DataW.trod enc Try.prog w base (fun _ => true) true n 31 [v] = some y) : ∃ x : Nat, v = .int .u64 (x : Int) ∧ x < 18446744073709551616 := by
  obtain ⟨x, h1, _, h3⟩ := DataW.trod_int (k := .u64) Try.underlying31 h
  injection h1 with h1
  have hb := bounds_u64 h3
  obtain ⟨k, rfl⟩ := Int.eq_ofNat_of_zero_le hb.1
  exact ⟨k, h1, by omega⟩

theorem open_acts {H : Type} {enc : TypeId × Value → H} {w : World} {base : Nat} {a : Option Addr} {len cap : Nat} {d : DataW H} {ps : List MemPlace}
    (h : DataW.Trod enc Try.prog w base (fun _ => true) true 23 (.slice a len cap) d ps) : ∃ vd vp vq vA va vC vB vb vT, AcIn w a len vd vp vq vA va vC vB vb vT := by
  obtain ⟨_, _, hp, V, hV⟩ := open_recsV (k := 5) Try.underlying23 Try.underlying34 (by kernel_rfl) rfl (by decide) (by
    intro j f hj
    rcases j with _ | _ | _ | _ | _ | j
    · injection hj with hj; subst hj; exact ⟨rfl, by kernel_rfl⟩
    · injection hj with hj; subst hj; exact ⟨rfl, by kernel_rfl⟩
    · injection hj with hj; subst hj; exact ⟨rfl, by kernel_rfl⟩
    · injection hj with hj; subst hj; exact ⟨rfl, by kernel_rfl⟩
    · injection hj with hj; subst hj; exact ⟨rfl, by kernel_rfl⟩
    · simp at hj) h
  have each : ∀ i, ∃ t : (Int × Int × Nat) × (Option Addr × Nat × List UInt8) × (Option Addr × Nat × List UInt8), i < len → (∀ b off, a = some ⟨b, off, none⟩ → w.cell? ⟨b, off + i * 5, none⟩ = some (.int .i64 t.1.1) ∧ w.cell? ⟨b, off + i * 5 + 1, none⟩ = some (.int .i64 t.1.2.1) ∧ w.cell? ⟨b, off + i * 5 + 2, none⟩ = some (.int .u64 (t.1.2.2 : Int)) ∧ w.cell? ⟨b, off + i * 5 + 3, none⟩ = some (.slice t.2.1.1 t.2.1.2.2.length t.2.1.2.1) ∧ w.cell? ⟨b, off + i * 5 + 4, none⟩ = some (.slice t.2.2.1 t.2.2.2.2.length t.2.2.2.1)) ∧
      (Rd w t.2.1.1 (bv t.2.1.2.2) ∧ t.2.1.2.2.length ≤ 9223372036854775807) ∧ (Rd w t.2.2.1 (bv t.2.2.2.2) ∧ t.2.2.2.2.length ≤ 9223372036854775807) := fun i => by
    by_cases hi : i < len
    · obtain ⟨h0, n0, y0, t0⟩ := hV i hi 0 _ rfl
      obtain ⟨h1, n1, y1, t1⟩ := hV i hi 1 _ rfl
      obtain ⟨h2, n2, y2, t2⟩ := hV i hi 2 _ rfl
      obtain ⟨h3, n3, y3, t3⟩ := hV i hi 3 _ rfl
      obtain ⟨h4, n4, y4, t4⟩ := hV i hi 4 _ rfl
      obtain ⟨x0, e0, _, _⟩ := vals_int t0
      obtain ⟨x1, e1, _, _⟩ := vals_int t1
      obtain ⟨x2, e2, _⟩ := vals_u64 t2
      obtain ⟨A, l, c, e3, D, hl, hr, hlc, hc⟩ := open_u8 Try.underlying22 Try.underlying5 (by kernel_rfl) t3
      obtain ⟨A', l', c', e4, D', hl', hr', hlc', hc'⟩ := open_u8 Try.underlying22 Try.underlying5 (by kernel_rfl) t4
      exact ⟨((x0, x1, x2), (A, c, D), (A', c', D')), fun _ => ⟨fun b off hb => ⟨by rw [← e0]; exact h0 b off hb, by rw [← e1]; exact h1 b off hb, by rw [← e2]; exact h2 b off hb, by rw [hl, ← e3]; exact h3 b off hb, by rw [hl', ← e4]; exact h4 b off hb⟩, ⟨hr, by rw [hl]; omega⟩, ⟨hr', by rw [hl']; omega⟩⟩⟩
    · exact ⟨((0, 0, 0), (none, 0, []), (none, 0, [])), fun h => absurd h hi⟩
  obtain ⟨T, hT⟩ := Classical.axiomOfChoice each
  exact ⟨fun i => (T i).1.1, fun i => (T i).1.2.1, fun i => (T i).1.2.2, fun i => (T i).2.1.1, fun i => (T i).2.1.2.1, fun i => (T i).2.1.2.2, fun i => (T i).2.2.1, fun i => (T i).2.2.2.1, fun i => (T i).2.2.2.2, hp, fun b off hb i hi => (hT i hi).1 b off hb, fun i hi => (hT i hi).2.1, fun i hi => (hT i hi).2.2⟩

theorem cscript_any (first : List UInt8) (A0 A1 : Option Addr) (n c0 m c1 : Nat) (vd vp : Nat → Int) (vq : Nat → Nat) (vA : Nat → Option Addr) (va : Nat → Nat) (vC : Nat → List UInt8) (vB : Nat → Option Addr) (vb : Nat → Nat) (vT : Nat → List UInt8) (w : World) (hn : first.length = n) (hr0 : Rd w A0 (bv first)) (hac : AcIn w A1 m vd vp vq vA va vC vB vb vT) :
    Calls Try.prog 3 #[.slice A0 n c0, .slice A1 m c1] w fun e w' => e = .returned (.bool true) ∧ Below w.heap.size w w' := by
  by_cases h : 40 < n ∨ 40 < m
  · exact cscript_much A0 A1 n c0 m c1 w h
  · by_cases h8 : n = 8
    · subst h8
      exact cscript_go first A0 A1 c0 m c1 vd vp vq vA va vC vB vb vT w hn hr0 hac (by omega)
    · exact cscript_nil A0 A1 n c0 m c1 w h8 (by omega) (by omega)
end Go.Proofs.Ytgmanhbfdjlhbaa
