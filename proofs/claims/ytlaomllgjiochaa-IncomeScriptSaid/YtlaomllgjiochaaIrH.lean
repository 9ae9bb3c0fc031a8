/- IncomeScript: what it answers at every input; the acts that came in, opened. -/
import Derived.Test.YtlaomllgjiochaaIrG
import Derived.Test.YtlaomllgjiochaaRecs
import Derived.OpenShut
import Derived.Deep.Matrix
import Derived.ProofKit
import Derived.ChangeOld
namespace Go.Proofs.Ytlaomllgjiochaa
open Go.ChangeShapes Go.WideShapes Go.ChangeAt Go.RowKit

theorem u8_all : ∀ (cs : List Value), (∀ v ∈ cs, ∃ z : Int, v = .int .u8 z ∧ (Lit.int .u8 z).wf = true) → ∃ r : List UInt8, r.length = cs.length ∧ cs = bv r
  | [], _ => ⟨[], rfl, rfl⟩
  | v :: cs, h => by
    obtain ⟨z, rfl, hw⟩ := h v List.mem_cons_self
    obtain ⟨r, h1, h2⟩ := u8_all cs (fun u hu => h u (List.mem_cons_of_mem _ hu))
    have hb := bounds_u8 hw
    refine ⟨UInt8.ofNat z.toNat :: r, by simp [h1], ?_⟩
    rw [h2]
    have : (((UInt8.ofNat z.toNat).toNat : Nat) : Int) = z := by rw [UInt8.toNat_ofNat']; omega
    unfold bv
    rw [List.map_cons, this]
/-- A slice of bytes, a cell of what came in. -/
theorem open_u8 {H : Type} {enc : TypeId × Value → H} {P : Program} {w : World} {t e : TypeId} {base n : Nat} {v : Value} {y : DataW H × List MemPlace} (ht : P.underlying t = some (.slice e)) (he : P.underlying e = some (.int .u8)) (ce : P.cellsOf e = 1)
    (h : DataW.trod enc P w base (fun _ => true) true n t [v] = some y) : ∃ A l c, v = .slice A l c ∧ ∃ D : List UInt8, D.length = l ∧ Rd w A (bv D) ∧ l ≤ c ∧ c ≤ 9223372036854775807 := by
  rcases open_ints ht he ce h with ⟨hcs, _⟩ | ⟨x, l, c, zs, hcs, _, hl, hm, hz, _, hcell, hwz⟩
  · injection hcs with hcs
    exact ⟨none, 0, 0, hcs, [], rfl, Rd.nil _ _, Nat.le_refl _, by omega⟩
  · injection hcs with hcs
    have hzc : zs.length = c := by simpa using hz
    obtain ⟨r, h1, h2'⟩ := u8_all ((zs.take l).map (Value.int .u8)) (fun v hv => by
      obtain ⟨z, hz', rfl⟩ := List.mem_map.1 hv
      exact ⟨z, rfl, hwz z (List.mem_of_mem_take hz')⟩)
    refine ⟨some x, l, c, hcs, r, by rw [h1, List.length_map, List.length_take]; omega, fun hp => ?_, hl, by unfold maxLen at hm; omega⟩
    rw [bv_length, h1, List.length_map, List.length_take] at hp
    have h0 := hcell 0 (by omega)
    obtain ⟨b, off, spot⟩ := x
    have hspot : spot = none := by simpa [Addr.add] using World.cell?_spot h0
    subst hspot
    refine ⟨b, off, rfl, fun j u hu => ?_⟩
    rw [← h2', List.getElem?_map, List.getElem?_take] at hu
    have hj : j < l := by
      rcases Nat.lt_or_ge j l with h | h
      · exact h
      · rw [if_neg (by omega)] at hu; cases hu
    rw [if_pos hj, List.getElem?_eq_getElem (by omega)] at hu
    simp only [Option.map_some, Option.some.injEq] at hu
    subst hu
    rw [← WideShapes.add_plain, hcell j (by omega)]
    simp [List.getD, (by omega : j < zs.length)]
theorem vals_int {H : Type} {enc : TypeId × Value → H} {w : World} {base n : Nat} {v : Value} {y : DataW H × List MemPlace} (h : DataW.trod enc Try.prog w base (fun _ => true) true n 3 [v] = some y) : ∃ x : Int, v = .int .i64 x ∧ -9223372036854775808 ≤ x ∧ x ≤ 9223372036854775807 := by
  obtain ⟨x, h1, _, h3⟩ := DataW.trod_int (k := .i64) Try.underlying3 h
  injection h1 with h1
  exact ⟨x, h1, (bounds_i64 h3).1, (bounds_i64 h3).2⟩
theorem open_acts {H : Type} {enc : TypeId × Value → H} {w : World} {base : Nat} {a : Option Addr} {len cap : Nat} {d : DataW H} {ps : List MemPlace}
    (h : DataW.Trod enc Try.prog w base (fun _ => true) true 32 (.slice a len cap) d ps) : ∃ vo vr vA vc vb ve, AcIn w a len vo vr vA vc vb ve := by
  obtain ⟨_, _, hp, V, hV⟩ := open_recsV (k := 4) Try.underlying32 Try.underlying36 (by kernel_rfl) rfl (by decide) (by
    intro j f hj
    rcases j with _ | _ | _ | _ | j
    · injection hj with hj; subst hj; exact ⟨rfl, by kernel_rfl⟩
    · injection hj with hj; subst hj; exact ⟨rfl, by kernel_rfl⟩
    · injection hj with hj; subst hj; exact ⟨rfl, by kernel_rfl⟩
    · injection hj with hj; subst hj; exact ⟨rfl, by kernel_rfl⟩
    · simp at hj) h
  have each : ∀ i, ∃ t : (Int × Int) × (Option Addr × Nat × List UInt8) × Bool, i < len → (∀ b off, a = some ⟨b, off, none⟩ → w.cell? ⟨b, off + i * 4, none⟩ = some (.int .i64 t.1.1) ∧ w.cell? ⟨b, off + i * 4 + 1, none⟩ = some (.int .i64 t.1.2) ∧ w.cell? ⟨b, off + i * 4 + 2, none⟩ = some (.slice t.2.1.1 t.2.1.2.2.length t.2.1.2.1) ∧ w.cell? ⟨b, off + i * 4 + 3, none⟩ = some (.bool t.2.2)) ∧
      (Rd w t.2.1.1 (bv t.2.1.2.2) ∧ t.2.1.2.2.length ≤ 9223372036854775807) ∧ t.1.1 ≤ 9223372036854775807 := fun i => by
    by_cases hi : i < len
    · obtain ⟨h0, n0, y0, t0⟩ := hV i hi 0 _ rfl
      obtain ⟨h1, n1, y1, t1⟩ := hV i hi 1 _ rfl
      obtain ⟨h2, n2, y2, t2⟩ := hV i hi 2 _ rfl
      obtain ⟨h3, n3, y3, t3⟩ := hV i hi 3 _ rfl
      obtain ⟨x0, e0, _, q0⟩ := vals_int t0
      obtain ⟨x1, e1, p1, q1⟩ := vals_int t1
      obtain ⟨A, l, c, e2, D, hl, hr, hlc, hc⟩ := open_u8 Try.underlying22 Try.underlying5 (by kernel_rfl) t2
      obtain ⟨x3, e3, _⟩ := DataW.trod_bool Try.underlying4 t3
      injection e3 with e3
      exact ⟨((x0, x1), (A, c, D), x3), fun _ => ⟨fun b off hb => ⟨by rw [← e0]; exact h0 b off hb, by rw [← e1]; exact h1 b off hb, by rw [hl, ← e2]; exact h2 b off hb, by rw [← e3]; exact h3 b off hb⟩, ⟨hr, by rw [hl]; omega⟩, q0⟩⟩
    · exact ⟨((0, 0), (none, 0, []), false), fun h => absurd h hi⟩
  obtain ⟨T, hT⟩ := Classical.axiomOfChoice each
  exact ⟨fun i => (T i).1.1, fun i => (T i).1.2, fun i => (T i).2.1.1, fun i => (T i).2.1.2.1, fun i => (T i).2.1.2.2, fun i => (T i).2.2, hp, fun b off hb i hi => (hT i hi).1 b off hb, fun i hi => (hT i hi).2.1, fun i hi => (hT i hi).2.2⟩

theorem iscript_any (most : Int) (A1 : Option Addr) (m c1 : Nat) (vo vr : Nat → Int) (vA : Nat → Option Addr) (vc : Nat → Nat) (vb : Nat → List UInt8) (ve : Nat → Bool) (w : World) (hac : AcIn w A1 m vo vr vA vc vb ve) :
    Calls Try.prog 4 #[.int .i64 most, .slice A1 m c1] w fun e w' => e = .returned (.bool true) ∧ Below w.heap.size w w' := by
  by_cases h : 40 < m ∨ 2000 < most
  · exact iscript_much most A1 m c1 w h
  · by_cases h0 : 0 ≤ most
    · exact iscript_go most A1 m c1 vo vr vA vc vb ve w hac (by omega) h0 (by omega)
    · exact iscript_neg most A1 m c1 w (by omega) (by omega)
end Go.Proofs.Ytlaomllgjiochaa
