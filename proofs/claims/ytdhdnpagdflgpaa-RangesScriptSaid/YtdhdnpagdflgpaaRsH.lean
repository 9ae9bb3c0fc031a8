/- RangesScript: what it answers at every input; the row of bools that came in, opened. -/
import Derived.Test.YtdhdnpagdflgpaaRsG
import Derived.OpenShut
import Derived.Deep.Grids
import Derived.ProofKit
import Derived.ChangeOld
namespace Go.Proofs.Ytdhdnpagdflgpaa
open Go.ChangeShapes Go.WideShapes Go.ChangeAt Go.RowKit

theorem bools_at {w : World} {a : Addr} {n : Nat} {B : Nat → Bool} (h : ∀ i, i < n → w.cell? (a.add i) = some (.bool (B i))) (hp : 0 < n) :
    ∃ b off, a = ⟨b, off, none⟩ ∧ ∀ j, j < n → w.cell? ⟨b, off + j, none⟩ = some (.bool (B j)) := by
  obtain ⟨b, off, spot⟩ := a
  have hspot : spot = none := by simpa [Addr.add] using World.cell?_spot (h 0 hp)
  subst hspot
  exact ⟨b, off, rfl, fun j hj => by rw [← Go.WideShapes.add_plain]; exact h j hj⟩
/-- A row of bools that came in. -/
def AcIn (w : World) (a : Option Addr) (len : Nat) (bs : List Bool) : Prop :=
  bs.length = len ∧ Rd w a (bs.map Value.bool) ∧ len ≤ 9223372036854775807
theorem open_acts {H : Type} {enc : TypeId × Value → H} {w : World} {base : Nat} {a : Option Addr} {len cap : Nat} {d : DataW H} {ps : List MemPlace}
    (h : DataW.Trod enc Try.prog w base (fun _ => true) true 42 (.slice a len cap) d ps) : ∃ bs, AcIn w a len bs := by
  obtain ⟨fuel, hf⟩ := h
  rcases Go.Deep.open_bools Try.underlying42 Try.underlying4 (by kernel_rfl) hf with ⟨hcs, _⟩ | ⟨x, l, c, B, hcs, _, hl, hm, _, hcell⟩
  · simp [Value.cells] at hcs
    obtain ⟨rfl, rfl, rfl⟩ := hcs
    exact ⟨[], rfl, Rd.nil _ _, by omega⟩
  · simp [Value.cells] at hcs
    obtain ⟨rfl, rfl, rfl⟩ := hcs
    refine ⟨(List.range len).map B, by simp, fun hn => ?_, by unfold maxLen at hm; omega⟩
    have hn' : 0 < len := by simpa using hn
    obtain ⟨b, off, rfl, hc2⟩ := bools_at hcell (by omega)
    refine ⟨b, off, rfl, fun k u hu => ?_⟩
    have hk : k < len := by
      have := (List.getElem?_eq_some_iff.1 hu).1
      simpa using this
    have e : (((List.range len).map B).map Value.bool)[k]? = some (.bool (B k)) := by simp [hk]
    rw [e] at hu
    injection hu with hu
    rw [← hu]
    exact hc2 k (by omega)

set_option maxRecDepth 100000 in
set_option maxHeartbeats 2000000 in
theorem rscript_much (mo : Int) (A1 : Option Addr) (m c1 : Nat) (A2 : Option Addr) (m2 c2 : Nat) (w : World) (h : 60 < m ∨ 60 < m2) :
    Calls Try.prog 7 #[.int .i64 mo, .slice A1 m c1, .slice A2 m2 c2] w fun e w' => e = .returned (.bool true) ∧ Below w.heap.size w w' := by
  have CA := Lib.hid (awake_any w)
  by_cases h1 : 60 < m
  · have d1 : decide ((60 : Int) < (m : Int)) = true := decide_eq_true (by omega)
    have d2 : decide (60 < m) = true := decide_eq_true h1
    clear h h1
    go_enter Try.func7, Try.ntmps7
    go_wp2_with fail
    refine CA.out.mono ?_
    rintro e w1 ⟨rfl, b1⟩
    go_wp2_with fail
    go_ret
    exact ⟨rfl, b1⟩
  · have d1 : decide ((60 : Int) < (m : Int)) = false := decide_eq_false (by omega)
    have d2 : decide (60 < m) = false := decide_eq_false h1
    have d3 : decide ((60 : Int) < (m2 : Int)) = true := decide_eq_true (by omega)
    have d4 : decide (60 < m2) = true := decide_eq_true (by omega)
    clear h h1
    go_enter Try.func7, Try.ntmps7
    go_wp2_with fail
    refine CA.out.mono ?_
    rintro e w1 ⟨rfl, b1⟩
    go_wp2_with fail
    go_ret
    exact ⟨rfl, b1⟩

set_option maxRecDepth 100000 in
set_option maxHeartbeats 4000000 in
theorem rscript_no (mo : Int) (hmo : mo < 1 ∨ 64 < mo) (A1 : Option Addr) (m c1 : Nat) (A2 : Option Addr) (m2 c2 : Nat) (w : World) (hm : m ≤ 60) (hm2 : m2 ≤ 60) :
    Calls Try.prog 7 #[.int .i64 mo, .slice A1 m c1, .slice A2 m2 c2] w fun e w' => e = .returned (.bool true) ∧ Below w.heap.size w w' := by
  have CN := Lib.hid (new_no mo w hmo)
  have CL := Lib.hid (zlargest w)
  have CA := Lib.hid (zadd 1 w)
  have d1 : decide ((60 : Int) < (m : Int)) = false := decide_eq_false (by omega)
  have d2 : decide (60 < m) = false := decide_eq_false (by omega)
  have d3 : decide ((60 : Int) < (m2 : Int)) = false := decide_eq_false (by omega)
  have d4 : decide (60 < m2) = false := decide_eq_false (by omega)
  obtain ⟨x, hx⟩ : ∃ x, decide (mo < 1) = x := ⟨_, rfl⟩
  obtain ⟨y, hy⟩ : ∃ y, decide (64 < mo) = y := ⟨_, rfl⟩
  have hxy : x = true ∨ (x = false ∧ y = true) := by
    rcases hmo with h | h
    · left; rw [← hx]; exact decide_eq_true h
    · by_cases h1 : mo < 1
      · left; rw [← hx]; exact decide_eq_true h1
      · right; exact ⟨by rw [← hx]; exact decide_eq_false h1, by rw [← hy]; exact decide_eq_true h⟩
  clear hmo hm hm2
  have key : ∀ (x' y' : Bool), x = x' → y = y' → (x' = true ∨ (x' = false ∧ y' = true)) → Calls Try.prog 7 #[.int .i64 mo, .slice A1 m c1, .slice A2 m2 c2] w fun e w' => e = .returned (.bool true) ∧ Below w.heap.size w w' := by
    intro x' y' ex ey hh
    rw [ex] at hx
    rw [ey] at hy
    clear ex ey hxy
    rcases hh with rfl | ⟨rfl, rfl⟩
    all_goals
      go_enter Try.func7, Try.ntmps7
      go_wp2_with fail
      refine CN.out.mono ?_
      rintro e w1 ⟨rfl, rfl⟩
      go_wp2_with fail
      refine CL.out.mono ?_
      rintro e w2 ⟨rfl, rfl⟩
      go_wp2_with fail
      refine CA.out.mono ?_
      rintro e w3 ⟨rfl, b3⟩
      go_wp2_with fail
      refine (zhas 0 w3).mono ?_
      rintro e w4 ⟨rfl, b4⟩
      go_wp2_with fail
      refine (zlist w4).mono ?_
      rintro e w5 ⟨rfl, rfl⟩
      go_wp2_with fail
      refine (awake_any w4).mono ?_
      rintro e w6 ⟨rfl, b6⟩
      have B4 := b3.trans (b4.mono b3.size)
      have B6 := B4.trans (b6.mono B4.size)
      clear b3 b4 b6 B4
      go_wp2_with fail
      go_ret
      exact ⟨rfl, B6⟩
  exact key x y rfl rfl hxy

theorem rscript_any (mo : Int) (A1 : Option Addr) (m c1 : Nat) (ns : List Int) (A2 : Option Addr) (m2 c2 : Nat) (bs : List Bool) (w : World) (hn : ns.length = m) (hr : Rd w A1 (ns.map (Value.int .u64))) (hw : ∀ n ∈ ns, (Lit.int .u64 n).wf = true) (hac : AcIn w A2 m2 bs) :
    Calls Try.prog 7 #[.int .i64 mo, .slice A1 m c1, .slice A2 m2 c2] w fun e w' => e = .returned (.bool true) ∧ Below w.heap.size w w' := by
  by_cases hm : 60 < m ∨ 60 < m2
  · exact rscript_much mo A1 m c1 A2 m2 c2 w hm
  · by_cases hmo : mo < 1 ∨ 64 < mo
    · exact rscript_no mo hmo A1 m c1 A2 m2 c2 w (by omega) (by omega)
    · obtain ⟨k, rfl⟩ := Int.eq_ofNat_of_zero_le (show 0 ≤ mo by omega)
      have hb : ∀ n ∈ ns, 0 ≤ n ∧ n ≤ 18446744073709551615 := fun n h => bounds_u64 (hw n h)
      have e : ns.map (Value.int .u64) = nv (ns.map Int.toNat) := by
        simp only [nv, List.map_map]
        refine List.map_congr_left fun n h => ?_
        have := hb n h
        simp only [Function.comp, Value.int.injEq, true_and]
        omega
      refine rscript_go k (by omega) (by omega) (ns.map Int.toNat) A1 m c1 bs A2 m2 c2 w (by simpa using hn) (by rw [← e]; exact hr) (fun x hx => ?_) (by omega) hac.1 hac.2.1 (by omega)
      obtain ⟨n, h1, rfl⟩ := List.mem_map.1 hx
      have := hb n h1
      omega
end Go.Proofs.Ytdhdnpagdflgpaa
