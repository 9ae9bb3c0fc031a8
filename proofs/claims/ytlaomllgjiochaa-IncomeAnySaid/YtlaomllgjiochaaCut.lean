/- 's[l:h]', 's[l:]' of a slice: the value under one name, and what it reads as. Nothing of the program. -/
import Derived.Test.YtlaomllgjiochaaStill
namespace Go.Proofs.Ytlaomllgjiochaa
open Go.RowKit

/-- Where a cut's elements lie. -/
structure CutOf (A X : Option Addr) (l h cap : Nat) : Prop where
  rd : ∀ (w : World) (xs : List Value), h ≤ xs.length → xs.length ≤ cap → Rd w A xs → Rd w X ((xs.drop l).take (h - l))
  blk : ∀ a, X = some a → ∃ a0, A = some a0 ∧ a0.block = a.block

theorem cutOf (A : Option Addr) (l h cap : Nat) (hl : l ≤ h) (hh : h ≤ cap) : CutOf A (if cap = l then A else A.map (·.add l)) l h cap := by
  refine ⟨fun w xs h1 h2 hr => (hr.drop (k := l) (by omega) h2).take _, fun a ha => ?_⟩
  split at ha
  · exact ⟨a, ha, rfl⟩
  · cases A with
    | none => cases ha
    | some a0 =>
      injection ha with ha
      subst ha
      exact ⟨a0, rfl, by unfold Addr.add; split <;> rfl⟩

section
variable {P : Program} {t e : TypeId} {z : Value} {bytes : Nat}
theorem cut_lh (ht : P.underlying t = some (.slice e)) (hinfo : (P.info? e).map (fun i => (i.zero, i.size, i.bytes)) = some (some z, 1, bytes)) (A : Option Addr) (len cap l h : Nat) (hl : l ≤ h) (hh : h ≤ cap) :
    ∃ X, (∀ w : World, (Instr.sliceAt t (.slice A len cap) (some (.int .i64 l)) (some (.int .i64 h)) none).run P w = .ok (.slice X (h - l) (cap - l)) w) ∧ CutOf A X l h cap := by
  refine ⟨_, fun w => ?_, cutOf A l h cap hl hh⟩
  obtain ⟨i, hi, -, hz, -⟩ := info_parts hinfo
  simp [Instr.sliceAt, Instr.slice, run_underlying ht, Instr.sliceBounds, run_sliceBound, (by omega : (l : Int) ≤ h), (by omega : (h : Int) ≤ cap), sizeOf, typeInfo, hi, hz]
theorem cut_l (ht : P.underlying t = some (.slice e)) (hinfo : (P.info? e).map (fun i => (i.zero, i.size, i.bytes)) = some (some z, 1, bytes)) (A : Option Addr) (len cap l : Nat) (hl : l ≤ len) (hh : len ≤ cap) :
    ∃ X, (∀ w : World, (Instr.sliceAt t (.slice A len cap) (some (.int .i64 l)) none none).run P w = .ok (.slice X (len - l) (cap - l)) w) ∧ CutOf A X l len cap := by
  refine ⟨_, fun w => ?_, cutOf A l len cap hl hh⟩
  obtain ⟨i, hi, -, hz, -⟩ := info_parts hinfo
  simp [Instr.sliceAt, Instr.slice, run_underlying ht, Instr.sliceBounds, run_sliceBound, (by omega : (l : Int) ≤ len), sizeOf, typeInfo, hi, hz]
end
theorem CutOf.bytes {A X : Option Addr} {l h cap : Nat} (q : CutOf A X l h cap) {w : World} {xs : List UInt8} (hr : Rd w A (bv xs)) (h1 : h ≤ xs.length) (h2 : xs.length ≤ cap) : Rd w X (bv ((xs.drop l).take (h - l))) := by
  rw [bv, List.map_take, List.map_drop]; exact q.rd w _ (by simpa [bv] using h1) (by simpa [bv] using h2) hr
end Go.Proofs.Ytlaomllgjiochaa
