/- A call that leaves memory as it was. Nothing of the program. -/
import Derived.Test.YtgmanhbfdjlhbaaOwn
namespace Go.Proofs.Ytgmanhbfdjlhbaa
open Go.RowKit

structure Still (w w' : World) : Prop where
  heap : w'.heap = w.heap
  os : w'.os = w.os
  tape : w'.tape = w.tape
  output : w'.output = w.output

section
variable {w w' : World} {A : Option Addr} {xs : List Value}
theorem Still.refl (w : World) : Still w w := ⟨rfl, rfl, rfl, rfl⟩
theorem Still.drewN (w : World) (n : Nat) : Still w (w.drewN n) := ⟨rfl, rfl, rfl, rfl⟩
theorem Still.drew (w : World) : Still w w.drew := ⟨rfl, rfl, rfl, rfl⟩
theorem Still.trans {a b c : World} (h : Still a b) (k : Still b c) : Still a c := ⟨k.heap.trans h.heap, k.os.trans h.os, k.tape.trans h.tape, k.output.trans h.output⟩
theorem Still.fr (h : Still w w') (S : Nat → Prop) : Fr S w w' := ⟨h.os, h.tape, h.output, by rw [h.heap]; exact Nat.le_refl _, fun _ _ _ => by rw [h.heap]⟩
theorem Still.below (h : Still w w') : Below w.heap.size w w' := (h.fr NoS).below
theorem Still.size (h : Still w w') : w'.heap.size = w.heap.size := by rw [h.heap]
theorem Still.rd (h : Still w w') (r : Rd w A xs) : Rd w' A xs := r.heap h.heap
theorem Still.own (h : Still w w') {b e s n : Nat} {v : Value} (r : w.ownsRow b e s v n xs) : w'.ownsRow b e s v n xs := own_fr r (h.fr NoS) (fun _ _ x => x)
theorem still_of {f : FuncId} {P : Program} {args : Array Value} {v : Value} (h : Calls P f args w fun e w' => e = .returned v ∧ ∃ k, w' = w.drewN k) : Calls P f args w fun e w' => e = .returned v ∧ Still w w' :=
  h.mono fun _ _ ⟨he, k, hk⟩ => ⟨he, by subst hk; exact Still.drewN w k⟩
theorem still_of0 {f : FuncId} {P : Program} {args : Array Value} {v : Value} (h : Calls P f args w fun e w' => e = .returned v ∧ w = w') : Calls P f args w fun e w' => e = .returned v ∧ Still w w' :=
  h.mono fun _ _ ⟨he, hk⟩ => ⟨he, by subst hk; exact Still.refl w⟩

theorem cell_mark (w : World) (xs : List Value) (e : TypeId) (fr : Nat × Nat) (k : Nat) : (w.alloc (.cells xs.toArray e fr)).cell? ⟨w.heap.size, k, none⟩ = xs[k]? := by
  have h : (w.alloc (.cells xs.toArray e fr)).heap[w.heap.size]? = some (.cells xs.toArray e fr) := heap_alloc_new w _
  unfold World.cell?
  simp only [h]
  simp
/-- A new row reads so, whatever its mark. -/
theorem Rd.fresh_mark (w : World) (xs : List Value) (e : TypeId) (fr : Nat × Nat) : Rd (w.alloc (.cells xs.toArray e fr)) (some ⟨w.heap.size, 0, none⟩) xs := fun _ =>
  ⟨w.heap.size, 0, rfl, fun k u hu => by rw [Nat.zero_add, cell_mark]; exact hu⟩
theorem fresh_far {p N : Nat} {a : Addr} (h : N ≤ w.heap.size) (ha : some ⟨w.heap.size, 0, none⟩ = some a) : a.block < p ∨ N ≤ a.block := by
  injection ha with ha; subst ha; exact .inr h
end

section
variable {P : Program} {ops : Array Oper} {Q : Exit → Act → World → Prop} {a : Act} {rest : List Oper} {o : Oper}
theorem wpList_want {w : World} (hw : Region.wanted o (yielded ops a.tmps) = true)
    (h : ∀ K : Act → World → Prop, (∀ a w, wpList P ops Q rest a w → K a w) → o.wp P a w K Q) : wpList P ops Q (o :: rest) a w := by
  simp only [wpList, hw, if_true]
  exact .inl (h _ (fun _ _ h => h))
/-- 'append(v, xs...)', v the call's own row (or nil), in a guarded operation that runs. -/
theorem wpList_appG (w : World) (hgd : Region.wanted o (yielded ops a.tmps) = true) (s x : Operand) (t : TypeId)
    (ho : o.op = .call { callee := .builtin .append, args := #[s, x], argTypes := #[t, t] })
    (base : Nat) (e : TypeId) (z : Value) (bytes : Nat) (hinfo : (P.info? e).map (fun i => (i.zero, i.size, i.bytes)) = some (some z, 1, bytes)) (ht : P.underlying t = some (.slice e)) (hzs : z.cells.size = 1)
    (v : Value) (n : Nat) (xs : List Value) (hs : a.eval s = v) (hown : w.ownsRow base e 1 v n xs)
    (A : Option Addr) (m c : Nat) (news : List Value) (hx : a.eval x = .slice A m c) (hl : news.length = m) (hr : Rd w A news) (h1 : ∀ u ∈ news, u.oneCell' = true)
    (h63 : n + m ≤ maxLen) (hbytes : (n + m) * bytes ≤ 140737488355328) (hbase : base ≤ w.heap.size)
    (h : ∀ A' c' w', w'.ownsRow base e 1 (.slice A' (n + m) c') (n + m) (xs ++ news) → w.grownBy w' v.ownBlock →
      ((Value.slice A' (n + m) c').ownBlock = v.ownBlock ∨ (Value.slice A' (n + m) c').ownBlock = some w.heap.size) → wpList P ops Q rest (a.put o.dst (.slice A' (n + m) c')) w') : wpList P ops Q (o :: rest) a w := by
  obtain ⟨i, hi, hz, hsize, hby⟩ := info_parts hinfo
  exact wpList_want hgd fun _ hK => wp_app w s x t ho base e i z bytes ht hi hz hsize hby hzs v n xs hs hown A m c news hx hl hr h1 h63 hbytes hbase fun A' c' w' h2 h3 h4 => hK _ _ (h A' c' w' h2 h3 h4)
end
end Go.Proofs.Ytgmanhbfdjlhbaa
