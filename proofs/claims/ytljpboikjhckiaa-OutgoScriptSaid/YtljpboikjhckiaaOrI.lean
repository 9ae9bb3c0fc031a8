/- OutgoScript: what it answers at every input; the acts that came in, opened. -/
import Derived.Test.YtljpboikjhckiaaOrH
import Derived.Test.YtljpboikjhckiaaRecs
namespace Go.Proofs.Ytljpboikjhckiaa
open Go.ChangeShapes Go.WideShapes Go.ChangeAt Go.RowKit

theorem vals_int {H : Type} {enc : TypeId × Value → H} {w : World} {base n : Nat} {v : Value} {y : DataW H × List MemPlace} (h : DataW.trod enc Try.prog w base (fun _ => true) true n 3 [v] = some y) : ∃ x : Int, v = .int .i64 x ∧ -9223372036854775808 ≤ x ∧ x ≤ 9223372036854775807 := by
  obtain ⟨x, h1, _, h3⟩ := DataW.trod_int (k := .i64) Try.underlying3 h
  injection h1 with h1
  exact ⟨x, h1, (bounds_i64 h3).1, (bounds_i64 h3).2⟩
theorem open_acts {H : Type} {enc : TypeId × Value → H} {w : World} {base : Nat} {a : Option Addr} {len cap : Nat} {d : DataW H} {ps : List MemPlace}
    (h : DataW.Trod enc Try.prog w base (fun _ => true) true 23 (.slice a len cap) d ps) : ∃ vd va vn ve, AcIn w a len vd va vn ve := by
  obtain ⟨_, _, hp, V, hV⟩ := open_recsV (k := 4) Try.underlying23 Try.underlying32 (by kernel_rfl) rfl (by decide) (by
    intro j f hj
    rcases j with _ | _ | _ | _ | j
    · injection hj with hj; subst hj; exact ⟨rfl, by kernel_rfl⟩
    · injection hj with hj; subst hj; exact ⟨rfl, by kernel_rfl⟩
    · injection hj with hj; subst hj; exact ⟨rfl, by kernel_rfl⟩
    · injection hj with hj; subst hj; exact ⟨rfl, by kernel_rfl⟩
    · simp at hj) h
  have each : ∀ i, ∃ t : Int × Int × Int × Bool, i < len → (∀ b off, a = some ⟨b, off, none⟩ → w.cell? ⟨b, off + i * 4, none⟩ = some (.int .i64 t.1) ∧ w.cell? ⟨b, off + i * 4 + 1, none⟩ = some (.int .i64 t.2.1) ∧ w.cell? ⟨b, off + i * 4 + 2, none⟩ = some (.int .i64 t.2.2.1) ∧ w.cell? ⟨b, off + i * 4 + 3, none⟩ = some (.bool t.2.2.2)) ∧
      -9223372036854775808 ≤ t.2.1 ∧ t.2.1 ≤ 9223372036854775807 ∧ -9223372036854775808 ≤ t.2.2.1 ∧ t.2.2.1 ≤ 9223372036854775807 := fun i => by
    by_cases hi : i < len
    · obtain ⟨h0, n0, y0, t0⟩ := hV i hi 0 _ rfl
      obtain ⟨h1, n1, y1, t1⟩ := hV i hi 1 _ rfl
      obtain ⟨h2, n2, y2, t2⟩ := hV i hi 2 _ rfl
      obtain ⟨h3, n3, y3, t3⟩ := hV i hi 3 _ rfl
      obtain ⟨x0, e0, _, _⟩ := vals_int t0
      obtain ⟨x1, e1, p1, q1⟩ := vals_int t1
      obtain ⟨x2, e2, p2, q2⟩ := vals_int t2
      obtain ⟨x3, e3, _⟩ := DataW.trod_bool Try.underlying4 t3
      injection e3 with e3
      exact ⟨(x0, x1, x2, x3), fun _ => ⟨fun b off hb => ⟨by rw [← e0]; exact h0 b off hb, by rw [← e1]; exact h1 b off hb, by rw [← e2]; exact h2 b off hb, by rw [← e3]; exact h3 b off hb⟩, p1, q1, p2, q2⟩⟩
    · exact ⟨(0, 0, 0, false), fun h => absurd h hi⟩
  obtain ⟨T, hT⟩ := Classical.axiomOfChoice each
  exact ⟨fun i => (T i).1, fun i => (T i).2.1, fun i => (T i).2.2.1, fun i => (T i).2.2.2, hp, fun b off hb i hi => (hT i hi).1 b off hb, fun i hi => (hT i hi).2⟩

set_option maxHeartbeats 2000000 in
set_option maxRecDepth 100000 in
theorem oscript_any (D : List UInt8) (A0 : Option Addr) (n c0 : Nat) (A1 : Option Addr) (m c1 : Nat) (vd va vn : Nat → Int) (ve : Nat → Bool) (w : World) (hn : D.length = n) (hr : Rd w A0 (bv D)) (hac : AcIn w A1 m vd va vn ve) :
    Calls Try.prog 3 #[.slice A0 n c0, .slice A1 m c1] w fun e w' => e = .returned (.bool true) ∧ Below w.heap.size w w' := by
  by_cases hs : n ≤ 60
  · by_cases hm : m ≤ 60
    · exact oscript_go D A0 n c0 A1 m c1 vd va vn ve w hn hr hac hs hm
    · have CA := Lib.hid (awake_any w)
      clear hn hr hac
      go_enter Try.func3, Try.ntmps3
      go_wp2_with fail
      refine CA.out.mono ?_
      rintro e w1 ⟨rfl, b1⟩
      go_wp2_with fail
      go_ret
      exact ⟨rfl, b1⟩
  · have CA := Lib.hid (awake_any w)
    clear hn hr hac
    go_enter Try.func3, Try.ntmps3
    go_wp2_with fail
    refine CA.out.mono ?_
    rintro e w1 ⟨rfl, b1⟩
    go_wp2_with fail
    go_ret
    exact ⟨rfl, b1⟩
end Go.Proofs.Ytljpboikjhckiaa
