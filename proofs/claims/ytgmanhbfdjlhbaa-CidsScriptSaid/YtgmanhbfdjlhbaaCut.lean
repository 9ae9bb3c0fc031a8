/- 's[l:h]', 's[l:]' of a slice: the value under one name, and what it reads as. Nothing of the program. -/
import Derived.Test.YtgmanhbfdjlhbaaStill
namespace Go.Proofs.Ytgmanhbfdjlhbaa
open Go.RowKit

/-- Where a cut's elements lie. -/
structure CutOf (A X : Option Addr) (l h cap : Nat) : Prop where
  rd : ∀ (w : World) (xs : List Value), h ≤ xs.length → xs.length ≤ cap → Rd w A xs → Rd w X ((xs.drop l).take (h - l))
  blk : ∀ a, X = some a → ∃ a0, A = some a0 ∧ a0.block = a.block
  nl : X = none → A = none
  eq : cap ≠ l → X = A.map (·.add l)

theorem cutOf (A : Option Addr) (l h cap : Nat) (hl : l ≤ h) (hh : h ≤ cap) : CutOf A (if cap = l then A else A.map (·.add l)) l h cap := by
  refine ⟨fun w xs h1 h2 hr => (hr.drop (k := l) (by omega) h2).take _, fun a ha => ?_, fun h => by split at h <;> simpa using h, fun h => by rw [if_neg h]⟩
  split at ha
  · exact ⟨a, ha, rfl⟩
  · cases A with
    | none => cases ha
    | some a0 =>
      injection ha with ha
      subst ha
      exact ⟨a0, rfl, by unfold Addr.add; split <;> rfl⟩

section
variable {P : Program} {t e : TypeId} {z : Value} {bytes : Nat}
theorem cut_lh (ht : P.underlying t = some (.slice e)) (hinfo : (P.info? e).map (fun i => (i.zero, i.size, i.bytes)) = some (some z, 1, bytes)) (A : Option Addr) (len cap l h : Nat) (hl : l ≤ h) (hh : h ≤ cap) :
    ∃ X, (∀ w : World, (Instr.sliceAt t (.slice A len cap) (some (.int .i64 l)) (some (.int .i64 h)) none).run P w = .ok (.slice X (h - l) (cap - l)) w) ∧ CutOf A X l h cap := by
  refine ⟨_, fun w => ?_, cutOf A l h cap hl hh⟩
  obtain ⟨i, hi, -, hz, -⟩ := info_parts hinfo
  simp [Instr.sliceAt, Instr.slice, run_underlying ht, Instr.sliceBounds, run_sliceBound, (by omega : (l : Int) ≤ h), (by omega : (h : Int) ≤ cap), sizeOf, typeInfo, hi, hz]
theorem cut_l (ht : P.underlying t = some (.slice e)) (hinfo : (P.info? e).map (fun i => (i.zero, i.size, i.bytes)) = some (some z, 1, bytes)) (A : Option Addr) (len cap l : Nat) (hl : l ≤ len) (hh : len ≤ cap) :
    ∃ X, (∀ w : World, (Instr.sliceAt t (.slice A len cap) (some (.int .i64 l)) none none).run P w = .ok (.slice X (len - l) (cap - l)) w) ∧ CutOf A X l len cap := by
  refine ⟨_, fun w => ?_, cutOf A l len cap hl hh⟩
  obtain ⟨i, hi, -, hz, -⟩ := info_parts hinfo
  simp [Instr.sliceAt, Instr.slice, run_underlying ht, Instr.sliceBounds, run_sliceBound, (by omega : (l : Int) ≤ len), sizeOf, typeInfo, hi, hz]
theorem cut_h (ht : P.underlying t = some (.slice e)) (hinfo : (P.info? e).map (fun i => (i.zero, i.size, i.bytes)) = some (some z, 1, bytes)) (A : Option Addr) (len cap h : Nat) (hh : h ≤ cap) :
    ∀ w : World, (Instr.sliceAt t (.slice A len cap) none (some (.int .i64 h)) none).run P w = .ok (.slice A h cap) w := by
  intro w
  obtain ⟨i, hi, -, hz, -⟩ := info_parts hinfo
  have e : (if cap = 0 then A else Option.map (fun x => x.add (0 * 1)) A) = A := by
    split
    · rfl
    · cases A with
      | none => rfl
      | some a => simp [Addr.add]
  simp only [Nat.zero_mul] at e
  simp [Instr.sliceAt, Instr.slice, run_underlying ht, Instr.sliceBounds, run_sliceBound, (by omega : (h : Int) ≤ cap), sizeOf, typeInfo, hi, hz, e]
end
theorem CutOf.bytes {A X : Option Addr} {l h cap : Nat} (q : CutOf A X l h cap) {w : World} {xs : List UInt8} (hr : Rd w A (bv xs)) (h1 : h ≤ xs.length) (h2 : xs.length ≤ cap) : Rd w X (bv ((xs.drop l).take (h - l))) := by
  rw [bv, List.map_take, List.map_drop]; exact q.rd w _ (by simpa [bv] using h1) (by simpa [bv] using h2) hr
/-- min, max of two numbers, under one name. -/
theorem run_min2 {P : Program} (x y m : Int) (h : m = min x y) (ts : Array TypeId) (t : TypeId) (w : World) : (Builtin.min_ ts t #[.int .i64 x, .int .i64 y]).run P w = .ok (.int .i64 m) w := by
  rw [run_min_int2, h]
  congr 2
  split <;> omega
theorem run_max2 {P : Program} (x y m : Int) (h : m = max x y) (ts : Array TypeId) (t : TypeId) (w : World) : (Builtin.max_ ts t #[.int .i64 x, .int .i64 y]).run P w = .ok (.int .i64 m) w := by
  rw [run_max_int2, h]
  congr 2
  split <;> omega
theorem run_min3 {P : Program} (x y z m : Int) (h : m = min (min x y) z) (ts : Array TypeId) (t : TypeId) (w : World) : (Builtin.min_ ts t #[.int .i64 x, .int .i64 y, .int .i64 z]).run P w = .ok (.int .i64 m) w := by
  simp only [Builtin.min_, Builtin.min2, List.foldlM_cons, List.foldlM_nil, Sem.run_bind, Sem.run_pure, Result.andThen_ok, h]
  congr 2
  split <;> split <;> omega
theorem u8_ne {a b : UInt8} (h : a ≠ b) : ((a.toNat : Int) == (b.toNat : Int)) = false := by
  rw [beq_eq_false_iff_ne]; intro e; exact h (UInt8.toNat_inj.1 (Int.ofNat.inj e))
theorem u8_ne' {a b : UInt8} (h : a ≠ b) : ((a.toNat : Int) != (b.toNat : Int)) = true := by
  rw [bne_iff_ne]; intro e; exact h (UInt8.toNat_inj.1 (Int.ofNat.inj e))
section
variable {P : Program} {t e : TypeId} {z : Value} {bytes : Nat}
theorem cut_hI (ht : P.underlying t = some (.slice e)) (hinfo : (P.info? e).map (fun i => (i.zero, i.size, i.bytes)) = some (some z, 1, bytes)) (A : Option Addr) (len cap h : Nat) (hi : Int) (he : hi = h) (hh : h ≤ cap) :
    ∀ w : World, (Instr.sliceAt t (.slice A len cap) none (some (.int .i64 hi)) none).run P w = .ok (.slice A h cap) w := by
  subst he; exact cut_h ht hinfo A len cap h hh
end
theorem Rd.take_bytes {w : World} {A : Option Addr} {xs : List UInt8} (h : Rd w A (bv xs)) (k : Nat) : Rd w A (bv (xs.take k)) := by rw [bv, List.map_take]; exact h.take k
/-- A cut up to the end. -/
theorem CutOf.bytes' {A X : Option Addr} {l h cap : Nat} (q : CutOf A X l h cap) {w : World} {xs : List UInt8} (hr : Rd w A (bv xs)) (h1 : xs.length = h) (h2 : h ≤ cap) : Rd w X (bv (xs.drop l)) := by
  have := q.bytes hr (by omega) (by omega)
  rwa [List.take_of_length_le (by simp; omega)] at this
section
variable {P : Program} {t e : TypeId} {z : Value} {bytes : Nat}
theorem cut_lhI (ht : P.underlying t = some (.slice e)) (hinfo : (P.info? e).map (fun i => (i.zero, i.size, i.bytes)) = some (some z, 1, bytes)) (A : Option Addr) (len cap l h : Nat) (li hi : Int) (h1 : li = l) (h2 : hi = h) (hl : l ≤ h) (hh : h ≤ cap) :
    ∃ X, (∀ w : World, (Instr.sliceAt t (.slice A len cap) (some (.int .i64 li)) (some (.int .i64 hi)) none).run P w = .ok (.slice X (h - l) (cap - l)) w) ∧ CutOf A X l h cap := by
  subst h1 h2; exact cut_lh ht hinfo A len cap l h hl hh
end
end Go.Proofs.Ytgmanhbfdjlhbaa
