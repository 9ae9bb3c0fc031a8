/- income.Put: the state between the operations of one statement. -/
import Derived.Test.YtlaomllgjiochaaIncF
namespace Go.Proofs.Ytlaomllgjiochaa
open Go.RowKit

/-- Between two operations: the struct as it was, the two rows perhaps grown. -/
structure Mid (wr w : World) (p : Nat) (c0 c1 c2 c3 vd vc VD VC : Value) (n1 n2 : Nat) (xs ys : List Value) : Prop where
  heap : w.heap[p]? = some (.cells #[c0, c1, c2, c3, vd, vc] 48 (0, 0))
  data : w.ownsRow (p + 1) 5 1 VD n1 xs
  came : w.ownsRow (p + 1) 4 1 VC n2 ys
  fr : Fr (fun k => vd.ownBlock = some k ∨ vc.ownBlock = some k) wr w
  newD : ∀ k, VD.ownBlock = some k → vd.ownBlock = some k ∨ wr.heap.size ≤ k
  newC : ∀ k, VC.ownBlock = some k → vc.ownBlock = some k ∨ wr.heap.size ≤ k

theorem Rd.fresh1 (w : World) (u : Value) (e : TypeId) : Rd (w.alloc (.cells #[u] e)) (some ⟨w.heap.size, 0, none⟩) [u] := Rd.fresh w [u] e

section
variable {wr w w' : World} {p : Nat} {c0 c1 c2 c3 vd vc VD VC : Value} {n1 n2 : Nat} {xs ys : List Value}
theorem Mid.two (h : Mid wr w p c0 c1 c2 c3 vd vc VD VC n1 n2 xs ys) {x y : Value} (h4 : vd = x) (h5 : vc = y) : w.cell? ⟨p, 4, none⟩ = some x ∧ w.cell? ⟨p, 5, none⟩ = some y :=
  ⟨wrote_cell h.heap 4 _ (by rw [h4]; rfl), wrote_cell h.heap 5 _ (by rw [h5]; rfl)⟩
theorem Mid.base (h : Mid wr w p c0 c1 c2 c3 vd vc VD VC n1 n2 xs ys) : p + 1 ≤ w.heap.size := heap_lt h.heap
theorem Mid.allocd (h : Mid wr w p c0 c1 c2 c3 vd vc VD VC n1 n2 xs ys) (o : Obj) : Mid wr (w.alloc o) p c0 c1 c2 c3 vd vc VD VC n1 n2 xs ys :=
  ⟨heap_fr h.heap ((Fr.refl NoS w).alloc o) (fun x => x), h.data.alloc o, h.came.alloc o, h.fr.alloc o, h.newD, h.newC⟩
theorem Mid.rd (_ : Mid wr w p c0 c1 c2 c3 vd vc VD VC n1 n2 xs ys) (u : Value) (e : TypeId) : Rd (w.alloc (.cells #[u] e)) (some ⟨w.heap.size, 0, none⟩) [u] := Rd.fresh w [u] e
theorem Rd.farC {b : World} {u : Value} (h : Mid wr b p c0 c1 c2 c3 vd vc VD VC n1 n2 xs ys) (r : Rd w (some ⟨b.heap.size, 0, none⟩) [u]) (hg : w.grownBy w' VC.ownBlock) : Rd w' (some ⟨b.heap.size, 0, none⟩) [u] :=
  r.grown hg (fun _ a ha e => by injection ha with ha; subst ha; have := (h.came.lt _ e).2; simp at this)
theorem Rd.farD {b : World} {u : Value} (h : Mid wr b p c0 c1 c2 c3 vd vc VD VC n1 n2 xs ys) (r : Rd w (some ⟨b.heap.size, 0, none⟩) [u]) (hg : w.grownBy w' VD.ownBlock) : Rd w' (some ⟨b.heap.size, 0, none⟩) [u] :=
  r.grown hg (fun _ a ha e => by injection ha with ha; subst ha; have := (h.data.lt _ e).2; simp at this)
theorem own_types {e f : TypeId} {b1 b2 m1 m2 : Nat} {V W : Value} {zs us : List Value} (h : w.ownsRow b1 e 1 V m1 zs) (k : w.ownsRow b2 f 1 W m2 us) (hne : e ≠ f) : V.ownBlock = none ∨ V.ownBlock ≠ W.ownBlock := by
  rcases h.2 with ⟨rfl, _⟩ | ⟨g, cap, cur, rfl, _, hg, _⟩
  · exact .inl rfl
  · rcases k.2 with ⟨rfl, _⟩ | ⟨g', cap', cur', rfl, _, hg', _⟩
    · exact .inr (by simp [Value.ownBlock])
    · refine .inr (fun he => ?_)
      have : g = g' := by simpa [Value.ownBlock] using he
      subst this
      rw [hg] at hg'
      injection hg' with h1
      injection h1 with _ h2
      exact hne h2
theorem Mid.grownC (h : Mid wr w p c0 c1 c2 c3 vd vc VD VC n1 n2 xs ys) {V : Value} {m : Nat} {zs : List Value} (ho : w'.ownsRow (p + 1) 4 1 V m zs) (hg : w.grownBy w' VC.ownBlock) (hb : V.ownBlock = VC.ownBlock ∨ V.ownBlock = some w.heap.size) :
    Mid wr w' p c0 c1 c2 c3 vd vc VD V n1 m xs zs := by
  have hp : some p ≠ VC.ownBlock := fun e => by have := h.came.lt p e.symm; omega
  refine ⟨by rw [hg.block p (heap_lt h.heap) hp]; exact h.heap, h.data.kept hg (own_types h.data h.came (by decide)), ho, h.fr.grown hg (fun k hk hlt => ?_), h.newD, fun k hk => ?_⟩
  · rcases h.newC k hk with h1 | h1
    · exact .inr h1
    · omega
  · rcases hb with hb | hb
    · exact h.newC k (hb ▸ hk)
    · rw [hb] at hk; injection hk with hk; exact .inr (by have := h.fr.size; omega)
theorem Mid.grownD (h : Mid wr w p c0 c1 c2 c3 vd vc VD VC n1 n2 xs ys) {V : Value} {m : Nat} {zs : List Value} (ho : w'.ownsRow (p + 1) 5 1 V m zs) (hg : w.grownBy w' VD.ownBlock) (hb : V.ownBlock = VD.ownBlock ∨ V.ownBlock = some w.heap.size) :
    Mid wr w' p c0 c1 c2 c3 vd vc V VC m n2 zs ys := by
  have hp : some p ≠ VD.ownBlock := fun e => by have := h.data.lt p e.symm; omega
  refine ⟨by rw [hg.block p (heap_lt h.heap) hp]; exact h.heap, ho, h.came.kept hg (own_types h.came h.data (by decide)), h.fr.grown hg (fun k hk hlt => ?_), fun k hk => ?_, h.newC⟩
  · rcases h.newD k hk with h1 | h1
    · exact .inl h1
    · omega
  · rcases hb with hb | hb
    · exact h.newD k (hb ▸ hk)
    · rw [hb] at hk; injection hk with hk; exact .inr (by have := h.fr.size; omega)
end
end Go.Proofs.Ytlaomllgjiochaa
