/- income: what an In holds, as a list of places; New, Highest, Readable: what they return. -/
import Derived.Test.YtlaomllgjiochaaIdx
namespace Go.Proofs.Ytlaomllgjiochaa
open Go.RowKit

structure Inc where
  most : Int
  en : Int
  rd : Nat
  hi : Int
  got : List (Option UInt8)

def gb (g : List (Option UInt8)) : List UInt8 := g.map (fun o => o.getD 0)
def gc (g : List (Option UInt8)) : List Bool := g.map Option.isSome
@[simp] theorem gb_length (g : List (Option UInt8)) : (gb g).length = g.length := by simp [gb]
@[simp] theorem gc_length (g : List (Option UInt8)) : (gc g).length = g.length := by simp [gc]

structure Inc.Ok (s : Inc) : Prop where
  most0 : 0 ≤ s.most
  most1 : s.most ≤ 1048576
  en0 : -1 ≤ s.en
  en1 : s.en ≤ s.most
  rd : s.rd ≤ s.got.length
  hi0 : 0 ≤ s.hi
  hi1 : s.hi ≤ s.most
  len : (s.got.length : Int) ≤ s.most

/-- Block p is an In that holds s; its two rows are vD, vC. -/
structure IsInc (w : World) (p : Nat) (vD vC : Value) (s : Inc) : Prop where
  cell : w.heap[p]? = some (.cells #[.int .i64 s.most, .int .i64 s.en, .int .i64 s.rd, .int .i64 s.hi, vD, vC] 48 (0, 0))
  data : w.ownsRow (p + 1) 5 1 vD s.got.length (bv (gb s.got))
  came : w.ownsRow (p + 1) 4 1 vC s.got.length (bo (gc s.got))
  apart : ∀ k, vD.ownBlock = some k → vC.ownBlock ≠ some k
  ok : s.Ok
/-- The blocks of an In. -/
def IncS (p : Nat) (vD vC : Value) (k : Nat) : Prop := k = p ∨ vD.ownBlock = some k ∨ vC.ownBlock = some k

theorem IsInc.fr {w w' : World} {p : Nat} {vD vC : Value} {s : Inc} {S : Nat → Prop} (h : IsInc w p vD vC s) (f : Fr S w w') (hS : ∀ k, IncS p vD vC k → ¬ S k) : IsInc w' p vD vC s :=
  ⟨heap_fr h.cell f (hS p (.inl rfl)), own_fr h.data f (fun k hk => hS k (.inr (.inl hk))), own_fr h.came f (fun k hk => hS k (.inr (.inr hk))), h.apart, h.ok⟩
theorem IsInc.ge {w : World} {p : Nat} {vD vC : Value} {s : Inc} (h : IsInc w p vD vC s) {k : Nat} (hk : IncS p vD vC k) : p ≤ k ∧ k < w.heap.size := by
  rcases hk with rfl | hk | hk
  · exact ⟨Nat.le_refl _, heap_lt h.cell⟩
  · have := h.data.lt k hk; omega
  · have := h.came.lt k hk; omega

theorem wrote_cell {w : World} {p : Nat} {cs : Array Value} {t : TypeId} (h : w.heap[p]? = some (.cells cs t (0, 0))) (i : Nat) (v : Value) (hi : cs[i]? = some v) : w.cell? ⟨p, i, none⟩ = some v := by
  rw [cell_of_row w p i cs t (0, 0) h]; exact hi

def inew (m : Int) : Inc := ⟨m, -1, 0, 0, []⟩
/-- How many may be read. -/
def irdb (s : Inc) : Nat := ((gc s.got).drop s.rd |>.takeWhile id).length
theorem irdb_le (s : Inc) (h : s.Ok) : s.rd + irdb s ≤ s.got.length := by
  have := (List.takeWhile_sublist (p := id) (l := (gc s.got).drop s.rd)).length_le
  unfold irdb
  have h2 := h.rd
  simp at this
  omega

set_option maxHeartbeats 1000000 in
theorem inew_any (m : Int) (w : World) (h0 : 0 ≤ m) (h1 : m ≤ 1048576) :
    Calls Try.prog 9 #[.int .i64 m] w fun e w' => e = .returned (.pointer (some ⟨w.heap.size, 0, none⟩)) ∧ IsInc w' w.heap.size (.slice none 0 0) (.slice none 0 0) (inew m) ∧ Below w.heap.size w w' := by
  go_enter Try.func9, Try.ntmps9
  go_wp2
  go_ret
  refine ⟨rfl, ⟨?_, World.ownsRow_nil _ _ _ _, World.ownsRow_nil _ _ _ _, fun k hk => by simp [Value.ownBlock] at hk, ⟨h0, h1, by simp [inew], by simp [inew]; omega, by simp [inew], by simp [inew], h0, h0⟩⟩, Fr.below ((Fr.refl NoS w).alloc _)⟩
  rw [heap_alloc_new]
  rfl

theorem inew_neg (m : Int) (w : World) (h : m < 0 ∨ 1048576 < m) :
    Calls Try.prog 9 #[.int .i64 m] w fun e w' => e = .returned (.pointer none) ∧ w = w' := by
  by_cases h0 : m < 0
  · go_enter Try.func9, Try.ntmps9
    go_wp2
    go_ret
    exact ⟨rfl, rfl⟩
  · have h1 : 1048576 < m := by omega
    go_enter Try.func9, Try.ntmps9
    go_wp2
    go_ret
    exact ⟨rfl, rfl⟩

set_option maxHeartbeats 1000000 in
theorem ihigh_any (p : Nat) (vD vC : Value) (s : Inc) (w : World) (h : IsInc w p vD vC s) :
    Calls Try.prog 21 #[.pointer (some ⟨p, 0, none⟩)] w fun e w' => e = .returned (.int .i64 s.hi) ∧ w = w' := by
  have c3 := wrote_cell h.cell 3 _ rfl
  go_enter Try.func21, Try.ntmps21
  go_wp2
  go_ret
  exact ⟨rfl, rfl⟩
end Go.Proofs.Ytlaomllgjiochaa
