/- IncomeScript: what it answers. -/
import Derived.Test.YtlaomllgjiochaaIrE
import Derived.Test.YtlaomllgjiochaaIncK
import Derived.Deep.RegionHeld3
import Derived.Deep.CutRange
import Derived.Deep.Cut
import Derived.Deep.CutBlock
namespace Go.Proofs.Ytlaomllgjiochaa
open Go.RowKit

/-- The acts that came in: what each is, place by place. -/
structure AcIn (w : World) (A : Option Addr) (m : Nat) (vo vr : Nat → Int) (vA : Nat → Option Addr) (vc : Nat → Nat) (vb : Nat → List UInt8) (ve : Nat → Bool) : Prop where
  pl : m = 0 ∨ ∃ b off, A = some ⟨b, off, none⟩
  at_ : ∀ b off, A = some ⟨b, off, none⟩ → ∀ i, i < m → w.cell? ⟨b, off + i * 4, none⟩ = some (.int .i64 (vo i)) ∧ w.cell? ⟨b, off + i * 4 + 1, none⟩ = some (.int .i64 (vr i)) ∧ w.cell? ⟨b, off + i * 4 + 2, none⟩ = some (.slice (vA i) (vb i).length (vc i)) ∧ w.cell? ⟨b, off + i * 4 + 3, none⟩ = some (.bool (ve i))
  rd : ∀ i, i < m → Rd w (vA i) (bv (vb i)) ∧ (vb i).length ≤ 9223372036854775807
  ra : ∀ i, i < m → vo i ≤ 9223372036854775807
theorem AcIn.lt {w : World} {A : Option Addr} {m : Nat} {vo vr : Nat → Int} {vA : Nat → Option Addr} {vc : Nat → Nat} {vb : Nat → List UInt8} {ve : Nat → Bool} (h : AcIn w A m vo vr vA vc vb ve) {b off i : Nat} (hA : A = some ⟨b, off, none⟩) (hi : i < m) : b < w.heap.size := World.block_lt_of_cell? w _ (h.at_ b off hA i hi).1
theorem AcIn.below {w w' : World} {A : Option Addr} {m : Nat} {vo vr : Nat → Int} {vA : Nat → Option Addr} {vc : Nat → Nat} {vb : Nat → List UInt8} {ve : Nat → Bool} (h : AcIn w A m vo vr vA vc vb ve) (f : Below w.heap.size w w') : AcIn w' A m vo vr vA vc vb ve :=
  ⟨h.pl, fun b off e i hi => by
    have hb := h.lt e hi
    obtain ⟨h1, h2, h3, h4⟩ := h.at_ b off e i hi
    exact ⟨by rw [f.cell (p := ⟨b, _, none⟩) hb]; exact h1, by rw [f.cell (p := ⟨b, _, none⟩) hb]; exact h2, by rw [f.cell (p := ⟨b, _, none⟩) hb]; exact h3, by rw [f.cell (p := ⟨b, _, none⟩) hb]; exact h4⟩, fun i hi => ⟨(h.rd i hi).1.below f, (h.rd i hi).2⟩, h.ra⟩
theorem load4 {P : Program} {w : World} {b o : Nat} {v0 v1 v2 v3 : Value} (h0 : w.cell? ⟨b, o, none⟩ = some v0) (h1 : w.cell? ⟨b, o + 1, none⟩ = some v1) (h2 : w.cell? ⟨b, o + 2, none⟩ = some v2) (h3 : w.cell? ⟨b, o + 3, none⟩ = some v3) :
    Sem.run P (loadCellsFrom ⟨b, o, none⟩ 0 4 #[]) w = .ok #[v0, v1, v2, v3] w := by
  have := run_loadCells_list (P := P) (w := w) ⟨b, o, none⟩ [v0, v1, v2, v3] (fun j v hj => by
    rw [WideShapes.add_plain]
    rcases j with _ | _ | _ | _ | j
    · simp at hj; subst hj; exact h0
    · simp at hj; subst hj; exact h1
    · simp at hj; subst hj; exact h2
    · simp at hj; subst hj; exact h3
    · simp at hj)
  simpa [loadCells] using this
theorem copied_to (l : List UInt8) (n : Nat) (A : Option Addr) (c : Nat) (w : World) (hn : l.length = n) (hr : Rd w A (bv l)) (hl : n ≤ 140737488355328) :
    Calls Try.prog 16 #[.slice A n c] w (RetS 5 w n (bv l)) := by subst hn; exact copied_any l A c w hr hl
theorem same_eq2 (l : List UInt8) (n : Nat) (A1 A2 : Option Addr) (c1 c2 : Nat) (w : World) (hl : l.length = n) (h1 : Rd w A1 (bv l)) (h2 : Rd w A2 (bv l)) (hn : n ≤ 140737488355328) :
    Calls Try.prog 13 #[.slice A1 n c1, .slice A2 n c2] w fun e w' => e = .returned (.bool true) ∧ Still w w' := by
  subst hl
  have := still_of (same_any l l A1 A2 c1 c2 w h1 h2 hn hn)
  rwa [show decide (l = l) = true from by simp] at this

/-! ### Where there is none -/
set_option maxHeartbeats 2000000 in
theorem iread_nil (x : Int) (w : World) : Calls Try.prog 12 #[.pointer none, .int .i64 x] w fun r w' => r = .returned (.slice none 0 0) ∧ w = w' := by
  go_enter Try.func12, Try.ntmps12
  go_wp2_with fail
  go_ret
  exact ⟨rfl, rfl⟩
set_option maxHeartbeats 2000000 in
theorem iwhole_nil (w : World) : Calls Try.prog 23 #[.pointer none] w fun r w' => r = .returned (.bool false) ∧ ∃ k, w' = w.drewN k := by
  go_enter Try.func23, Try.ntmps23
  go_wp2_with fail
  go_big_quiet (fail)
  go_wp2_with fail
  go_ret
  exact ⟨rfl, _, rfl⟩
set_option maxHeartbeats 2000000 in
theorem iended_nil (w : World) : Calls Try.prog 14 #[.pointer none] w fun r w' => r = .returned (.bool false) ∧ ∃ k, w' = w.drewN k := by
  have CW := Lib.hid (fun k => iwhole_nil (w.drewN k))
  go_enter Try.func14, Try.ntmps14
  go_wp2_with fail
  go_quiet ((go_at_call 23; first | exact Calls.quiet_of (CW.out _) | exact quiet_add (CW.out _)))
  go_wp2_with fail
  go_ret
  exact ⟨rfl, _, rfl⟩

set_option maxRecDepth 100000 in
set_option maxHeartbeats 4000000 in
theorem iscript_neg (most : Int) (A1 : Option Addr) (m c1 : Nat) (w : World) (hm : m ≤ 40) (h0 : most < 0) :
    Calls Try.prog 4 #[.int .i64 most, .slice A1 m c1] w fun e w' => e = .returned (.bool true) ∧ Below w.heap.size w w' := by
  have h1 := Lib.hid (inew_neg most w (.inl h0))
  have h2 := Lib.hid (rinew_neg most w (.inl h0))
  go_enter Try.func4, Try.ntmps4
  go_wp2_with fail
  refine h1.out.mono ?_
  rintro e w' ⟨rfl, rfl⟩
  go_wp2_with fail
  refine h2.out.mono ?_
  rintro e w' ⟨rfl, rfl⟩
  go_wp2_with fail
  refine (put_nil _ (.int .i64 0) true 0 w).mono ?_
  rintro e w' ⟨rfl, rfl⟩
  go_wp2_with fail
  refine (iread_nil 1 w).mono ?_
  rintro e w' ⟨rfl, rfl⟩
  go_wp2_with fail
  refine (iended_nil w).mono ?_
  rintro e w' ⟨rfl, k, rfl⟩
  go_wp2_with fail
  refine (awake_any _).mono ?_
  rintro e w' ⟨rfl, b⟩
  go_wp2_with fail
  go_ret
  exact ⟨rfl, (Still.drewN w k).below.trans b⟩

set_option maxRecDepth 100000 in
set_option maxHeartbeats 2000000 in
theorem iscript_much (most : Int) (A1 : Option Addr) (m c1 : Nat) (w : World) (h : 40 < m ∨ 2000 < most) :
    Calls Try.prog 4 #[.int .i64 most, .slice A1 m c1] w fun e w' => e = .returned (.bool true) ∧ Below w.heap.size w w' := by
  have CA := Lib.hid (awake_any w)
  by_cases hm : 40 < m
  · clear h
    go_enter Try.func4, Try.ntmps4
    go_wp2_with fail
    refine CA.out.mono ?_
    rintro e w1 ⟨rfl, b1⟩
    go_wp2_with fail
    go_ret
    exact ⟨rfl, b1⟩
  · have hm : 2000 < most := by omega
    clear h
    go_enter Try.func4, Try.ntmps4
    go_wp2_with fail
    refine CA.out.mono ?_
    rintro e w1 ⟨rfl, b1⟩
    go_wp2_with fail
    go_ret
    exact ⟨rfl, b1⟩
end Go.Proofs.Ytlaomllgjiochaa
