/- FlightScript: what it answers at every input; the acts that came in, opened. -/
import Derived.Test.YtifigmhecgbfoaaFrG
import Derived.Test.YtifigmhecgbfoaaRecs
import Derived.OpenShut
import Derived.Deep.Matrix
import Derived.ProofKit
import Derived.ChangeOld
namespace Go.Proofs.Ytifigmhecgbfoaa
open Go.ChangeShapes Go.WideShapes Go.ChangeAt Go.RowKit

theorem vals_int {H : Type} {enc : TypeId × Value → H} {w : World} {base n : Nat} {v : Value} {y : DataW H × List MemPlace} (h : DataW.trod enc Try.prog w base (fun _ => true) true n 3 [v] = some y) : ∃ x : Int, v = .int .i64 x ∧ -9223372036854775808 ≤ x ∧ x ≤ 9223372036854775807 := by
  obtain ⟨x, h1, _, h3⟩ := DataW.trod_int (k := .i64) Try.underlying3 h
  injection h1 with h1
  exact ⟨x, h1, (bounds_i64 h3).1, (bounds_i64 h3).2⟩
theorem vals_u64 {H : Type} {enc : TypeId × Value → H} {w : World} {base n : Nat} {v : Value} {y : DataW H × List MemPlace} (h : DataW.trod enc Try.prog w base (fun _ => true) true n 27 [v] = some y) : ∃ x : Nat, v = .int .u64 (x : Int) ∧ x < 18446744073709551616 := by
  obtain ⟨x, h1, _, h3⟩ := DataW.trod_int (k := .u64) Try.underlying27 h
  injection h1 with h1
  have hb := bounds_u64 h3
  obtain ⟨k, rfl⟩ := Int.eq_ofNat_of_zero_le hb.1
  exact ⟨k, h1, by omega⟩
/-- A slice of ranges, a cell of what came in. -/
theorem open_rgs {H : Type} {enc : TypeId × Value → H} {w : World} {base n : Nat} {v : Value} {y : DataW H × List MemPlace}
    (h : DataW.trod enc Try.prog w base (fun _ => true) true n 36 [v] = some y) : ∃ A l c, v = .slice A l c ∧ ∃ rs : List Rg, rs.length = l ∧ Rd w A (rgv rs) ∧ l ≤ 9223372036854775807 := by
  have hv : ∃ A l c, v = .slice A l c := by
    rcases Go.Deep.open_slice Try.underlying36 h with ⟨hcs, _⟩ | ⟨a', len', cap', _, _, _, _, hcs, _⟩
    · injection hcs with hcs; exact ⟨_, _, _, hcs⟩
    · injection hcs with hcs; exact ⟨_, _, _, hcs⟩
  obtain ⟨A, l, c, rfl⟩ := hv
  obtain ⟨hl, hc, hp, V, hV⟩ := open_recsV (k := 2) Try.underlying36 Try.underlying35 (by kernel_rfl) rfl (by decide) (by
    intro j f hj
    rcases j with _ | _ | j
    · injection hj with hj; subst hj; exact ⟨rfl, by kernel_rfl⟩
    · injection hj with hj; subst hj; exact ⟨rfl, by kernel_rfl⟩
    · simp at hj) (⟨n, h⟩ : DataW.Trod enc Try.prog w base (fun _ => true) true 36 (.slice A l c) y.1 y.2)
  have each : ∀ i, ∃ r : Rg, i < l → ∀ b off, A = some ⟨b, off, none⟩ → w.cell? ⟨b, off + i * 2, none⟩ = some (.int .u64 r.lo) ∧ w.cell? ⟨b, off + i * 2 + 1, none⟩ = some (.int .u64 r.hi) := fun i => by
    by_cases hi : i < l
    · obtain ⟨h0, n0, y0, t0⟩ := hV i hi 0 _ rfl
      obtain ⟨h1, n1, y1, t1⟩ := hV i hi 1 _ rfl
      obtain ⟨x0, e0, _⟩ := vals_u64 t0
      obtain ⟨x1, e1, _⟩ := vals_u64 t1
      exact ⟨⟨x0, x1⟩, fun _ b off hb => ⟨by rw [← e0]; exact h0 b off hb, by rw [← e1]; exact h1 b off hb⟩⟩
    · exact ⟨⟨0, 0⟩, fun h => absurd h hi⟩
  obtain ⟨T, hT⟩ := Classical.axiomOfChoice each
  refine ⟨A, l, c, rfl, (List.range l).map T, by simp, fun hn => ?_, by omega⟩
  rw [rgv_length, List.length_map, List.length_range] at hn
  rcases hp with h0 | ⟨b, off, hb⟩
  · omega
  · refine ⟨b, off, hb, fun j u hu => ?_⟩
    have hj : j < l * 2 := by have := (List.getElem?_eq_some_iff.1 hu).1; simpa using this
    have hk : j / 2 < l := by omega
    have hg : ((List.range l).map T)[j / 2]? = some (T (j / 2)) := by simp [hk]
    obtain ⟨c0, c1⟩ := hT (j / 2) hk b off hb
    rcases Nat.mod_two_eq_zero_or_one j with hm | hm
    · have e := rgv_get _ _ _ hg 0 _ rfl
      rw [show j / 2 * 2 + 0 = j by omega] at e
      rw [e] at hu
      injection hu with hu
      rw [← hu, show off + j = off + j / 2 * 2 by omega]
      exact c0
    · have e := rgv_get _ _ _ hg 1 _ rfl
      rw [show j / 2 * 2 + 1 = j by omega] at e
      rw [e] at hu
      injection hu with hu
      rw [← hu, show off + j = off + j / 2 * 2 + 1 by omega]
      exact c1
theorem open_acts {H : Type} {enc : TypeId × Value → H} {w : World} {base : Nat} {a : Option Addr} {len cap : Nat} {d : DataW H} {ps : List MemPlace}
    (h : DataW.Trod enc Try.prog w base (fun _ => true) true 42 (.slice a len cap) d ps) : ∃ vd vt vp vn vc vR vk vs, AcIn w a len vd vt vp vn vc vR vk vs := by
  obtain ⟨_, _, hp, V, hV⟩ := open_recsV (k := 6) Try.underlying42 Try.underlying48 (by kernel_rfl) rfl (by decide) (by
    intro j f hj
    rcases j with _ | _ | _ | _ | _ | _ | j
    · injection hj with hj; subst hj; exact ⟨rfl, by kernel_rfl⟩
    · injection hj with hj; subst hj; exact ⟨rfl, by kernel_rfl⟩
    · injection hj with hj; subst hj; exact ⟨rfl, by kernel_rfl⟩
    · injection hj with hj; subst hj; exact ⟨rfl, by kernel_rfl⟩
    · injection hj with hj; subst hj; exact ⟨rfl, by kernel_rfl⟩
    · injection hj with hj; subst hj; exact ⟨rfl, by kernel_rfl⟩
    · simp at hj) h
  have each : ∀ i, ∃ t : (Int × Int × Int) × (Nat × Bool) × (Option Addr × Nat × List Rg), i < len → (∀ b off, a = some ⟨b, off, none⟩ → w.cell? ⟨b, off + i * 6, none⟩ = some (.int .i64 t.1.1) ∧ w.cell? ⟨b, off + i * 6 + 1, none⟩ = some (.int .i64 t.1.2.1) ∧ w.cell? ⟨b, off + i * 6 + 2, none⟩ = some (.int .i64 t.1.2.2) ∧ w.cell? ⟨b, off + i * 6 + 3, none⟩ = some (.int .u64 t.2.1.1) ∧ w.cell? ⟨b, off + i * 6 + 4, none⟩ = some (.bool t.2.1.2) ∧ w.cell? ⟨b, off + i * 6 + 5, none⟩ = some (.slice t.2.2.1 t.2.2.2.2.length t.2.2.2.1)) ∧
      (Rd w t.2.2.1 (rgv t.2.2.2.2) ∧ t.2.2.2.2.length ≤ 9223372036854775807) ∧ t.1.2.1 ≤ 9223372036854775807 ∧ t.2.1.1 < 18446744073709551616 := fun i => by
    by_cases hi : i < len
    · obtain ⟨h0, n0, y0, t0⟩ := hV i hi 0 _ rfl
      obtain ⟨h1, n1, y1, t1⟩ := hV i hi 1 _ rfl
      obtain ⟨h2, n2, y2, t2⟩ := hV i hi 2 _ rfl
      obtain ⟨h3, n3, y3, t3⟩ := hV i hi 3 _ rfl
      obtain ⟨h4, n4, y4, t4⟩ := hV i hi 4 _ rfl
      obtain ⟨h5, n5, y5, t5⟩ := hV i hi 5 _ rfl
      obtain ⟨x0, e0, _, _⟩ := vals_int t0
      obtain ⟨x1, e1, _, q1⟩ := vals_int t1
      obtain ⟨x2, e2, _, _⟩ := vals_int t2
      obtain ⟨x3, e3, q3⟩ := vals_u64 t3
      obtain ⟨x4, e4, _⟩ := DataW.trod_bool Try.underlying4 t4
      injection e4 with e4
      obtain ⟨A, l, c, e5, rs, hl, hr, hc⟩ := open_rgs t5
      exact ⟨((x0, x1, x2), (x3, x4), (A, c, rs)), fun _ => ⟨fun b off hb => ⟨by rw [← e0]; exact h0 b off hb, by rw [← e1]; exact h1 b off hb, by rw [← e2]; exact h2 b off hb, by rw [← e3]; exact h3 b off hb, by rw [← e4]; exact h4 b off hb, by rw [hl, ← e5]; exact h5 b off hb⟩, ⟨hr, by rw [hl]; omega⟩, q1, q3⟩⟩
    · exact ⟨((0, 0, 0), (0, false), (none, 0, [])), fun h => absurd h hi⟩
  obtain ⟨T, hT⟩ := Classical.axiomOfChoice each
  exact ⟨fun i => (T i).1.1, fun i => (T i).1.2.1, fun i => (T i).1.2.2, fun i => (T i).2.1.1, fun i => (T i).2.1.2, fun i => (T i).2.2.1, fun i => (T i).2.2.2.1, fun i => (T i).2.2.2.2, hp, fun b off hb i hi => (hT i hi).1 b off hb, fun i hi => (hT i hi).2.1, fun i hi => (hT i hi).2.2⟩

set_option maxRecDepth 100000 in
set_option maxHeartbeats 2000000 in
theorem fscript_any (A1 : Option Addr) (m c1 : Nat) (vd vt vp : Nat → Int) (vn : Nat → Nat) (vc : Nat → Bool) (vR : Nat → Option Addr) (vk : Nat → Nat) (vs : Nat → List Rg) (w : World) (hac : AcIn w A1 m vd vt vp vn vc vR vk vs) :
    Calls Try.prog 5 #[.slice A1 m c1] w fun e w' => e = .returned (.bool true) ∧ Below w.heap.size w w' := by
  by_cases hm : m ≤ 60
  · exact fscript_go A1 m c1 vd vt vp vn vc vR vk vs w hac hm
  · have CA := Lib.hid (awake_any w)
    clear hac
    go_enter Try.func5, Try.ntmps5
    go_wp2_with fail
    refine CA.out.mono ?_
    rintro e w1 ⟨rfl, b1⟩
    go_wp2_with fail
    go_ret
    exact ⟨rfl, b1⟩
end Go.Proofs.Ytifigmhecgbfoaa
