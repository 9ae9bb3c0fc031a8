/- An array of bools that a call keeps: its cells. Nothing of the program. -/
import Derived.Test.YtgmanhbfdjlhbaaOwn
import Derived.Laws.OwnMore
namespace Go.Proofs.Ytgmanhbfdjlhbaa
open Go.RowKit

def tb (n : Nat) (T : Nat → Bool) : List Value := (List.range n).map fun x => .bool (T x)
@[simp] theorem tb_length (n : Nat) (T : Nat → Bool) : (tb n T).length = n := by simp [tb]
theorem tb_get (n : Nat) (T : Nat → Bool) (x : Nat) (h : x < n) : (tb n T)[x]? = some (.bool (T x)) := by simp [tb, h]
theorem tb_set (n : Nat) (T : Nat → Bool) (x : Nat) (v : Bool) : (tb n T).set x (.bool v) = tb n (fun y => if y = x then v else T y) := by
  apply List.ext_getElem
  · simp
  · intro i h1 h2
    rw [List.getElem_set]
    by_cases h : x = i
    · subst h; simp [tb]
    · rw [if_neg h]; simp [tb]; intro e; exact absurd e.symm h
def AtArrB (t : TypeId) (B : Nat) (w : World) (g n : Nat) (T : Nat → Bool) : Prop := w.ownsRow B t 1 (.slice (some ⟨g, 0, none⟩) n n) n (tb n T)
section
variable {t : TypeId} {B : Nat} {w w' : World} {g n : Nat} {T : Nat → Bool}
theorem AtArrB.cell (h : AtArrB t B w g n T) {x : Nat} (hx : x < n) : w.cell? ⟨g, x, none⟩ = some (.bool (T x)) := by
  have := h.cells (g := g) rfl x _ (tb_get n T x hx)
  rwa [WideShapes.add_plain, Nat.zero_add] at this
theorem AtArrB.frozen (h : AtArrB t B w g n T) (x : Nat) : w.frozen? ⟨g, x, none⟩ = false := h.frozenAt x
theorem AtArrB.put (h : AtArrB t B w g n T) (x : Nat) (v : Bool) : AtArrB t B (w.setCell ⟨g, x, none⟩ (.bool v)) g n (fun y => if y = x then v else T y) := by
  have := (h.stored x (.bool v)).1
  rwa [tb_set] at this
theorem AtArrB.new (t : TypeId) (w : World) (n : Nat) (hn : n ≤ 1000) (cs : Array Value) (hc : cs = (tb n (fun _ => false)).toArray) : AtArrB t w.heap.size (w.alloc (.cells cs t)) w.heap.size n (fun _ => false) := by
  subst hc
  refine ⟨by simp, .inr ⟨w.heap.size, n, (tb n (fun _ => false)).toArray, rfl, Nat.le_refl _, heap_alloc_new w _, Nat.le_refl _, by simp [maxLen]; omega, by simp, ?_⟩⟩
  rw [List.take_of_length_le (by simp)]
theorem AtArrB.fr {S : Nat → Prop} (h : AtArrB t B w g n T) (F : Fr S w w') (hS : ¬ S g) : AtArrB t B w' g n T := own_fr h F (fun k hk => by injection hk with hk; subst hk; exact hS)
theorem AtArrB.below (h : AtArrB t B w g n T) (b : Below w.heap.size w w') : AtArrB t B w' g n T := h.fr (Fr.of_below b NoS) (fun x => x)
end
end Go.Proofs.Ytgmanhbfdjlhbaa
