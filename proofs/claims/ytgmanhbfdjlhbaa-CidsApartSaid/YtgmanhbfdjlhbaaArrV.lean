/- An array (or a slice) of one-cell values that a call keeps: its cells. Nothing of the program. -/
import Derived.Test.YtgmanhbfdjlhbaaOwn
import Derived.Laws.OwnMore
namespace Go.Proofs.Ytgmanhbfdjlhbaa
open Go.RowKit

def tv (n : Nat) (f : Nat → Value) : List Value := (List.range n).map f
@[simp] theorem tv_length (n : Nat) (f : Nat → Value) : (tv n f).length = n := by simp [tv]
theorem tv_get (n : Nat) (f : Nat → Value) (x : Nat) (h : x < n) : (tv n f)[x]? = some (f x) := by simp [tv, h]
theorem tv_set (n : Nat) (f : Nat → Value) (x : Nat) (v : Value) : (tv n f).set x v = tv n (fun y => if y = x then v else f y) := by
  apply List.ext_getElem
  · simp
  · intro i h1 h2
    rw [List.getElem_set]
    by_cases h : x = i
    · subst h; simp [tv]
    · rw [if_neg h]; simp [tv]; intro e; exact absurd e.symm h
def AtArrV (t : TypeId) (B : Nat) (w : World) (g n : Nat) (f : Nat → Value) : Prop := w.ownsRow B t 1 (.slice (some ⟨g, 0, none⟩) n n) n (tv n f)
section
variable {t : TypeId} {B : Nat} {w w' : World} {g n : Nat} {f f' : Nat → Value}
theorem AtArrV.cell (h : AtArrV t B w g n f) {x : Nat} (hx : x < n) : w.cell? ⟨g, x, none⟩ = some (f x) := by
  have := h.cells (g := g) rfl x _ (tv_get n f x hx)
  rwa [WideShapes.add_plain, Nat.zero_add] at this
theorem AtArrV.frozen (h : AtArrV t B w g n f) (x : Nat) : w.frozen? ⟨g, x, none⟩ = false := h.frozenAt x
theorem AtArrV.put (h : AtArrV t B w g n f) (x : Nat) (v : Value) : AtArrV t B (w.setCell ⟨g, x, none⟩ v) g n (fun y => if y = x then v else f y) := by
  have := (h.stored x v).1
  rwa [tv_set] at this
theorem AtArrV.new (t : TypeId) (w : World) (n : Nat) (f : Nat → Value) (hn : n ≤ 1000) (cs : Array Value) (hc : cs = (tv n f).toArray) : AtArrV t 0 (w.alloc (.cells cs t)) w.heap.size n f := by
  subst hc
  refine ⟨by simp, .inr ⟨w.heap.size, n, (tv n f).toArray, rfl, Nat.zero_le _, heap_alloc_new w _, Nat.le_refl _, by simp [maxLen]; omega, by simp, ?_⟩⟩
  rw [List.take_of_length_le (by simp)]
theorem AtArrV.fr {S : Nat → Prop} (h : AtArrV t B w g n f) (F : Fr S w w') (hS : ¬ S g) : AtArrV t B w' g n f := own_fr h F (fun k hk => by injection hk with hk; subst hk; exact hS)
theorem AtArrV.below (h : AtArrV t B w g n f) (b : Below w.heap.size w w') : AtArrV t B w' g n f := h.fr (Fr.of_below b NoS) (fun x => x)
theorem AtArrV.eq (h : AtArrV t B w g n f) (he : ∀ x, x < n → f x = f' x) : AtArrV t B w g n f' := by
  have : tv n f = tv n f' := List.map_congr_left (fun x hx => he x (List.mem_range.1 hx))
  unfold AtArrV at *; rwa [← this]
theorem AtArrV.lt (h : AtArrV t B w g n f) (hn : 0 < n) : g < w.heap.size := World.block_lt_of_cell? w ⟨g, 0, none⟩ (h.cell hn)
end
end Go.Proofs.Ytgmanhbfdjlhbaa
