/- hello: a hello in a variable, whose names grow; what Get hands back, in a variable. -/
import Derived.Test.YtlepceajpgloeaaHlG
import Derived.Test.YtlepceajpgloeaaHlP
import Derived.Test.YtlepceajpgloeaaHlO
import Derived.Test.YtlepceajpgloeaaGrow
import Derived.Test.YtlepceajpgloeaaSame
import Derived.Test.YtlepceajpgloeaaLow
import Derived.Test.YtlepceajpgloeaaOpen
namespace Go.Proofs.Ytlepceajpgloeaa
open Go.RowKit

/-- A hello in a variable at g; its names are the call's own, from block B on. -/
structure Hv (B : Nat) (w : World) (g : Nat) (s : Bool) (r : List UInt8) (A : Option Addr) (n c : Nat) (ids : List (List UInt8)) : Prop where
  h : w.heap[g]? = some (.cells (hcl s r A n c) 27 (0, 0))
  r32 : r.length = 32
  id : Ids B w A n c ids
section
variable {B : Nat} {w w' : World} {g : Nat} {s : Bool} {r : List UInt8} {A : Option Addr} {n c : Nat} {ids : List (List UInt8)}
theorem Hv.below (h : Hv B w g s r A n c ids) (b : Below w.heap.size w w') : Hv B w' g s r A n c ids := ⟨heap_fr h.h (Fr.of_below b NoS) (fun x => x), h.r32, h.id.below b⟩
theorem Hv.lt (h : Hv B w g s r A n c ids) : g < w.heap.size := heap_lt h.h
theorem Hv.c0 (h : Hv B w g s r A n c ids) : w.cell? ⟨g, 0, none⟩ = some (.bool s) := wrote_cell h.h 0 _ (hcl_0 s r A n c)
theorem Hv.c33 (h : Hv B w g s r A n c ids) : w.cell? ⟨g, 33, none⟩ = some (.slice A n c) := wrote_cell h.h 33 _ (hcl_33 s r A n c h.r32)
theorem Hv.rr (h : Hv B w g s r A n c ids) : w.rangeAt g 1 (bv r) := fun j v hv => by
  rw [cell_of_row w g (1 + j) _ _ (0, 0) h.h]; exact hcl_r s r A n c j v hv
theorem Hv.len (h : Hv B w g s r A n c ids) : ids.length = n := by obtain ⟨_, _, h2, _⟩ := h.id; exact h2
theorem Hv.push (h : Hv B w g s r A n c ids) (hB : B ≤ g) {w0 : World} (hb : Below B w0 w) {Ai : Option Addr} {ci : Nat} {id : List UInt8} (hid : id.length = 8) (ho : w.ownsRow B 5 1 (.slice Ai 8 ci) 8 (bv id)) :
    ∃ vs, w.ownsRow B 24 1 (.slice A n c) n vs ∧ ∀ (w3 : World) (A3 : Option Addr) (c3 : Nat), w3.ownsRow B 24 1 (.slice A3 (n + 1) c3) (n + 1) (vs ++ [.slice Ai 8 ci]) → w.grownBy w3 (Value.slice A n c).ownBlock →
      w3.cell? ⟨g, 33, none⟩ = some (.slice A n c) ∧ w3.frozen? ⟨g, 33, none⟩ = false ∧
      Hv B (w3.setCell ⟨g, 33, none⟩ (.slice A3 (n + 1) c3)) g s r A3 (n + 1) c3 (ids ++ [id]) ∧ Below B w0 (w3.setCell ⟨g, 33, none⟩ (.slice A3 (n + 1) c3)) := by
  obtain ⟨vs, o1, hstep⟩ := h.id.row
  refine ⟨vs, o1, fun w3 A3 c3 ho3 hg3 => ?_⟩
  have F : Fr (fun k => (Value.slice A n c).ownBlock = some k) w w3 := (Fr.refl _ w).grown hg3 (fun _ hk _ => hk)
  have hh3 := heap_fr h.h F (fun e => own_not_at o1 h.h (by decide) _ e rfl)
  have F2 : Fr (fun k => k = g) w3 (w3.setCell ⟨g, 33, none⟩ (.slice A3 (n + 1) c3)) := (Fr.refl (fun k => k = g) w3).setCell (p := ⟨g, 33, none⟩) (fun _ => rfl) _
  have hI := hstep w3 A3 c3 Ai ci id (by rw [hid]; exact ho) (by rw [hid]; exact ho3) hg3
  have hgl := h.lt
  refine ⟨wrote_cell hh3 33 _ (hcl_33 s r A n c h.r32), frozen_of_row w3 _ _ _ _ hh3, ⟨?_, h.r32, hI.at_ F2 hh3 (by decide) (by decide)⟩, ?_⟩
  · have := heap_setCell_same w3 g 33 _ _ (.slice A3 (n + 1) c3) hh3
    rw [hcl_set33 s r A A3 n c (n + 1) c3 h.r32] at this
    exact this
  · have b1 : Below B w0 w3 := Fr.under hb (by omega) F (fun k hk _ => (o1.lt k hk).1)
    exact bel_at b1 (by have := F.size; omega) hB F2
end
/-- The list of a hello's cells, as the walk has it behind a load. -/
def hcs (s : Bool) (r : List UInt8) (A : Option Addr) (n c : Nat) : List Value := .bool s :: (bv r ++ [.slice A n c])
theorem hcs_arr (s : Bool) (r : List UInt8) (A : Option Addr) (n c : Nat) : (hcs s r A n c).toArray = hcl s r A n c := rfl
theorem Hv.range {B : Nat} {w : World} {g : Nat} {s : Bool} {r : List UInt8} {A : Option Addr} {n c : Nat} {ids : List (List UInt8)} (h : Hv B w g s r A n c ids) : w.rangeAt g 0 (hcs s r A n c) := by
  have := range_of_block h.h
  exact this
/-- What Get has handed back goes into a new variable. -/
theorem Hv.new {B : Nat} {w w' : World} {lit : Array Value} {s : Bool} {r : List UInt8} {A : Option Addr} {n c : Nat} {ids : List (List UInt8)} (hs : lit.size = 34) (hr : r.length = 32) (hI : Ids B w A n c ids)
    (h : w'.heap[w.heap.size]? = some (.cells (over lit 0 (hcs s r A n c)) 27 (0, 0))) (F : Fr (fun k => k = w.heap.size) (w.alloc (.cells lit 27)) w') : Hv B w' w.heap.size s r A n c ids ∧ Below w.heap.size w w' := by
  obtain ⟨h1, h2⟩ := alloc_store h F (by rw [hs]; exact (hcl_len s r A n c hr).symm)
  exact ⟨⟨h1, hr, hI.below h2⟩, h2⟩
def gids (b m : Nat) : List (List UInt8) := (List.range m).map fun i => growl 8 (i + b)
theorem gids_succ (b m : Nat) : gids b (m + 1) = gids b m ++ [growl 8 (m + b)] := by simp [gids, List.range_succ]
theorem gids_len (b m : Nat) : (gids b m).length = m := by simp [gids]
theorem gids_8 (b m : Nat) : ∀ i ∈ gids b m, i.length = 8 := by
  intro i hi
  obtain ⟨k, _, rfl⟩ := List.mem_map.1 hi
  simp
/-- What Get hands back, its hello as a list of cells. -/
def RetL (w : World) (x : Hl × Int × Int) (e : Ending) (w' : World) : Prop :=
  ∃ LS : List Value, e = .returned (.tuple #[.agg LS.toArray, .int .i64 x.2.1, .int .i64 x.2.2]) ∧ LS.length = 34 ∧ (∀ u ∈ LS, u.oneCell' = true) ∧ LS.toArray[0]? = some (.bool x.1.s) ∧ Below w.heap.size w w'
theorem hgetL_any (l : List UInt8) (A0 : Option Addr) (c0 n0 : Nat) (w0 : World) (hn : l.length = n0) (hr : Rd w0 A0 (bv l)) (hl : n0 ≤ 1000000) (hc : n0 ≤ c0) (hcc : c0 ≤ 9223372036854775807) :
    Calls Try.prog 19 #[.slice A0 n0 c0] w0 (RetL w0 (hget l)) :=
  (hget_any l A0 c0 n0 w0 hn hr hl hc hcc).mono fun e w' ⟨A, n, c, he, h32, _, hb⟩ => ⟨hcs (hget l).1.s (hget l).1.r A n c, he, hcl_len _ _ _ _ _ h32, hcl_one _ _ _ _ _, hcl_0 _ _ _ _ _, hb⟩
end Go.Proofs.Ytlepceajpgloeaa
