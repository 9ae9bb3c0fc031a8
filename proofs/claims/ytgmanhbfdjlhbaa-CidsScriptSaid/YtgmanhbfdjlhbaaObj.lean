/- The blocks of an object that keeps one row; functions handed over as values. Nothing of the program but its name. -/
import Derived.Test.YtgmanhbfdjlhbaaRec
import Derived.Shelf.Abstract
namespace Go.Proofs.Ytgmanhbfdjlhbaa
open Go.RowKit

/-- The blocks of an object that keeps one row. -/
def OnB (p : Nat) (A : Option Addr) (k : Nat) : Prop := k = p ∨ ∃ a, A = some a ∧ a.block = k
/-- What follows on an object's row: the same block, or a new one. -/
def Next (w : World) (A A' : Option Addr) : Prop := ∀ a, A' = some a → (∃ b, A = some b ∧ b.block = a.block) ∨ w.heap.size ≤ a.block
theorem Next.refl (w : World) (A : Option Addr) : Next w A A := fun a h => .inl ⟨a, h, rfl⟩
theorem Next.far {w : World} {p : Nat} {A A' : Option Addr} (h : Next w A A') {k : Nat} (hk : k < w.heap.size) (hn : ¬ OnB p A k) : ¬ OnB p A' k := by
  rintro (h1 | ⟨a, ha, hb⟩)
  · exact hn (.inl h1)
  · rcases h a ha with ⟨b, hb1, hb2⟩ | h2
    · exact hn (.inr ⟨b, hb1, hb2.trans hb⟩)
    · omega
theorem Next.trans {w w1 : World} {A B C : Option Addr} (h : Next w A B) (hs : w.heap.size ≤ w1.heap.size) (k : Next w1 B C) : Next w A C := fun a ha => by
  rcases k a ha with ⟨b, hb1, hb2⟩ | h2
  · rcases h b hb1 with ⟨d, hd1, hd2⟩ | h3
    · exact .inl ⟨d, hd1, hd2.trans hb2⟩
    · exact .inr (by omega)
  · exact .inr (by omega)
/-- Two steps, the second on what follows. -/
theorem Fr.next {p : Nat} {A B : Option Addr} {w w1 w2 : World} (f : Fr (OnB p A) w w1) (n : Next w A B) (g : Fr (OnB p B) w1 w2) : Fr (OnB p A) w w2 := by
  refine f.trans' g (fun i hi hlt => ?_)
  rcases hi with h1 | ⟨b, hb1, hb2⟩
  · exact .inl h1
  · rcases n b hb1 with ⟨a, ha1, ha2⟩ | h2
    · exact .inr ⟨a, ha1, ha2.trans hb2⟩
    · omega
theorem wrote_cell {w : World} {p : Nat} {cs : Array Value} {t : TypeId} (h : w.heap[p]? = some (.cells cs t (0, 0))) (i : Nat) (v : Value) (hi : cs[i]? = some v) : w.cell? ⟨p, i, none⟩ = some v := by
  rw [cell_of_row w p i cs t (0, 0) h]; exact hi
/-- A function of the program, called by its value, is entered. -/
def Ent (g : Nat) : Prop := ∀ (args : Array Value) (w : World), (callFunc g args).run Try.prog w = .ok (.enter g args) w
theorem mkfn (fn : Fn) (first cap : Array Value) (w : World) : (Instr.makeFunc fn first cap).run Try.prog w = .ok (.func fn first cap) w := rfl

section
variable {α : Type}
/-- The first place at which a test holds, or -1. -/
def fidx (q : α → Bool) (l : List α) : Int := match l.findIdx? q with | some k => (k : Int) | none => -1
theorem fidx_hit (q : α → Bool) (l : List α) (k : Nat) (x : α) (h : l[k]? = some x) (hq : q x = true) (hb : ∀ j, j < k → ∀ y, l[j]? = some y → q y = false) : fidx q l = k := by
  have : l.findIdx? q = some k := by
    rw [List.findIdx?_eq_some_iff_getElem]
    obtain ⟨hk, he⟩ := List.getElem?_eq_some_iff.1 h
    refine ⟨hk, by rw [he]; exact hq, fun j hj => ?_⟩
    rw [hb j hj _ (List.getElem?_eq_getElem (by omega))]
    simp
  unfold fidx; rw [this]
theorem fidx_miss (q : α → Bool) (l : List α) (hb : ∀ j, j < l.length → ∀ y, l[j]? = some y → q y = false) : fidx q l = -1 := by
  have : l.findIdx? q = none := by
    rw [List.findIdx?_eq_none_iff]
    intro x hx
    obtain ⟨j, hj, rfl⟩ := List.getElem_of_mem hx
    exact hb j hj _ (List.getElem?_eq_getElem hj)
  unfold fidx; rw [this]
theorem fidx_any (q : α → Bool) (l : List α) : decide (0 ≤ fidx q l) = l.any q := by
  unfold fidx
  rcases h : l.findIdx? q with _ | k
  · rw [List.findIdx?_eq_none_iff] at h
    have : l.any q = false := List.any_eq_false.2 (fun x hx => by rw [h x hx]; simp)
    rw [this]; rfl
  · obtain ⟨hk, hq, _⟩ := List.findIdx?_eq_some_iff_getElem.1 h
    have : l.any q = true := List.any_eq_true.2 ⟨_, List.getElem_mem hk, hq⟩
    rw [this]
    exact decide_eq_true (by simp only; omega)
end
end Go.Proofs.Ytgmanhbfdjlhbaa
