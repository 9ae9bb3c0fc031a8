/- flight: Lost. -/
import Derived.Test.YtifigmhecgbfoaaFlF
import Derived.Test.YtifigmhecgbfoaaCut
namespace Go.Proofs.Ytifigmhecgbfoaa
open Go.RowKit

def qlost (came : Bool) (lg : Nat) (tick pto : Int) (x : Pk) : Bool := (came && (decide (3 ≤ lg) && decide (x.num ≤ lg - 3))) || (x.cnt && (decide ((x.tick : Int) ≤ tick) && decide (pto ≤ tick - x.tick)))

set_option maxRecDepth 100000 in
set_option maxHeartbeats 8000000 in
theorem lost1_walk (N K L T R : Int) (cn came : Bool) (p B1 B2 B3 : Nat) (w : World) (hL : 0 ≤ L ∧ L ≤ 4611686018427387903) (hK : 0 ≤ K) (hT : T ≤ 9223372036854775807)
    (e1 : w.cell? ⟨B1, 0, none⟩ = some (.pointer (some ⟨p, 0, none⟩))) (e2 : w.cell? ⟨B2, 0, none⟩ = some (.int .i64 T)) (e3 : w.cell? ⟨B3, 0, none⟩ = some (.int .i64 R))
    (c2 : w.cell? ⟨p, 2, none⟩ = some (.bool came)) (c5 : w.cell? ⟨p, 5, none⟩ = some (.int .u64 L)) (b : Bool)
    (hb : ((came && (decide (3 ≤ L) && decide (N ≤ L - 3))) || (cn && (decide (K ≤ T) && decide (R ≤ T - K)))) = b) :
    Calls Try.prog 25 #[.agg #[.int .u64 N, .int .i64 K, .bool cn], .pointer (some ⟨B1, 0, none⟩), .pointer (some ⟨B2, 0, none⟩), .pointer (some ⟨B3, 0, none⟩)] w fun e w' => e = .returned (.bool b) ∧ Below w.heap.size w w' := by
  have g1 : ∀ o, (w.alloc o).cell? ⟨B1, 0, none⟩ = some (.pointer (some ⟨p, 0, none⟩)) := fun o => Lib.cell?_alloc_some o e1
  have g2 : ∀ o, (w.alloc o).cell? ⟨B2, 0, none⟩ = some (.int .i64 T) := fun o => Lib.cell?_alloc_some o e2
  have g3 : ∀ o, (w.alloc o).cell? ⟨B3, 0, none⟩ = some (.int .i64 R) := fun o => Lib.cell?_alloc_some o e3
  have g4 : ∀ o, (w.alloc o).cell? ⟨p, 2, none⟩ = some (.bool came) := fun o => Lib.cell?_alloc_some o c2
  have g5 : ∀ o, (w.alloc o).cell? ⟨p, 5, none⟩ = some (.int .u64 L) := fun o => Lib.cell?_alloc_some o c5
  have hbl : Hid (∀ o n, Below w.heap.size w ((w.alloc o).drewN n)) := Lib.hid (fun o n => (((Fr.refl NoS w).alloc o).drewN n).below)
  clear e1 e2 e3 c2 c5
  have hA : (came = false ∧ (came && (decide (3 ≤ L) && decide (N ≤ L - 3))) = false) ∨ (came = true ∧ decide (3 ≤ L) = false) ∨ (came = true ∧ decide (3 ≤ L) = true ∧ IntKind.u64.wrap (L - 3) = L - 3 ∧ decide (N ≤ L - 3) = false) ∨ (came = true ∧ decide (3 ≤ L) = true ∧ IntKind.u64.wrap (L - 3) = L - 3 ∧ decide (N ≤ L - 3) = true) := by
    cases came
    · exact .inl ⟨rfl, rfl⟩
    · by_cases h3 : 3 ≤ L
      · have hw : IntKind.u64.wrap (L - 3) = L - 3 := by rw [IntKind.wrap_u64]; omega
        by_cases h4 : N ≤ L - 3
        · exact .inr (.inr (.inr ⟨rfl, decide_eq_true h3, hw, decide_eq_true h4⟩))
        · exact .inr (.inr (.inl ⟨rfl, decide_eq_true h3, hw, decide_eq_false h4⟩))
      · exact .inr (.inl ⟨rfl, decide_eq_false h3⟩)
  have hB : (cn = false) ∨ (cn = true ∧ decide (K ≤ T) = false) ∨ (cn = true ∧ decide (K ≤ T) = true ∧ IntKind.i64.wrap (T - K) = T - K ∧ decide (R ≤ T - K) = false) ∨ (cn = true ∧ decide (K ≤ T) = true ∧ IntKind.i64.wrap (T - K) = T - K ∧ decide (R ≤ T - K) = true) := by
    cases cn
    · exact .inl rfl
    · by_cases h3 : K ≤ T
      · have hw : IntKind.i64.wrap (T - K) = T - K := by rw [IntKind.wrap_i64]; omega
        by_cases h4 : R ≤ T - K
        · exact .inr (.inr (.inr ⟨rfl, decide_eq_true h3, hw, decide_eq_true h4⟩))
        · exact .inr (.inr (.inl ⟨rfl, decide_eq_true h3, hw, decide_eq_false h4⟩))
      · exact .inr (.inl ⟨rfl, decide_eq_false h3⟩)
  replace hL := Lib.hid hL
  replace hK := Lib.hid hK
  replace hT := Lib.hid hT
  rcases hA with ⟨rfl, -⟩ | ⟨rfl, a1⟩ | ⟨rfl, a1, a2, a3⟩ | ⟨rfl, a1, a2, a3⟩
  case inr.inr.inr =>
    have hbt : b = true := by rw [← hb, a1, a3]; rfl
    subst hbt
    clear hB hb
    go_enter Try.func25, Try.ntmps25
    go_wp2_with fail
    go_quiet (fail)
    go_wp2_with fail
    go_ret
    exact ⟨rfl, hbl.out _ _⟩
  all_goals
    rcases hB with rfl | ⟨rfl, d1⟩ | ⟨rfl, d1, d2, d3⟩ | ⟨rfl, d1, d2, d3⟩
    all_goals
      first
        | (have hbt : b = true := by (rw [← hb]; first | rfl | (rw [d1]; first | rfl | (rw [d3]; first | rfl | (rw [a1]; first | rfl | (rw [a3]; rfl)))) | (rw [d1, a1]; rfl) | (rw [d1, d3, a1]; rfl) | (rw [d1, d3, a1, a3]; rfl))
           subst hbt)
        | (have hbt : b = false := by (rw [← hb]; first | rfl | (rw [d1]; rfl) | (rw [d1, d3]; rfl) | (rw [a1]; rfl) | (rw [a1, a3]; rfl) | (rw [d1, a1]; rfl) | (rw [d1, a1, a3]; rfl) | (rw [d1, d3, a1]; rfl) | (rw [d1, d3, a1, a3]; rfl))
           subst hbt)
      clear hb
      go_enter Try.func25, Try.ntmps25
      go_wp2_with fail
      go_quiet (fail)
      go_wp2_with fail
      go_ret
      exact ⟨rfl, hbl.out _ _⟩
end Go.Proofs.Ytifigmhecgbfoaa
