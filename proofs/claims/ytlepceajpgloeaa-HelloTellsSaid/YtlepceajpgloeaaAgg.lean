/- Records with an array in them, by value: loads, stores, results; a scope with jumps to any of its labels. Nothing of the program. -/
import Derived.Test.YtlepceajpgloeaaRec
import Derived.Scope
import Derived.Deep.MidRow
namespace Go.Proofs.Ytlepceajpgloeaa
open Go.RowKit

/-! ### A scope in which the run jumps to labels -/
def JumpTo (J : Nat → Act → World → Prop) (Q : Exit → Act → World → Prop) : Exit → Act → World → Prop
  | .goto l, a, w => J l a w
  | e, a, w => Q e a w
theorem wp_scope_labels {P : Program} {a : Act} {w : World} {Q : Exit → Act → World → Prop} {c : Code} (J : Nat → Act → World → Prop) (μ : Nat → Act → World → Nat) (rest : Nat → Code) (hf : ∀ l a w, J l a w → findLabel c l = some (rest l))
    (first : c.wp P (JumpTo J Q) a w)
    (pass : ∀ l a w, J l a w → (rest l).wp P (JumpTo (fun l' a' w' => J l' a' w' ∧ μ l' a' w' < μ l a w) Q) a w) : (Code.scope c).wp P Q a w := by
  intro b k cs
  have far : ∀ m l a w, μ l a w = m → J l a w → ∃ e a' w', Q e a' w' ∧ Arrives P (lone (b.at a (.code (rest l) :: .inScope c :: k)) cs w) b k cs e a' w' := by
    intro m
    induction m using Nat.strongRecOn with
    | _ m ih =>
      intro l a w hm hJ
      obtain ⟨e, a1, w1, h1, h2⟩ := pass l a w hJ b (.inScope c :: k) cs
      cases e with
      | goto l' =>
        obtain ⟨hJ', hlt⟩ := h1
        obtain ⟨e3, a3, w3, h3, h4⟩ := ih _ (by omega) l' a1 w1 rfl hJ'
        exact ⟨e3, a3, w3, h3, .of_steps (h2 _ (by simp [gotoIn, hf _ _ _ hJ'])) h4⟩
      | normal => exact ⟨.normal, a1, w1, h1, Steps.trans h2 (.one step_inScope)⟩
      | exit id => exact ⟨.exit id, a1, w1, h1, fun k' hk => h2 k' (by simp [exitTo, hk])⟩
      | ret => exact ⟨_, a1, w1, h1, h2⟩
      | panic ch => exact ⟨_, a1, w1, h1, h2⟩
      | outgrown => exact ⟨_, a1, w1, h1, h2⟩
  obtain ⟨e, a1, w1, h1, h2⟩ := first b (.inScope c :: k) cs
  cases e with
  | goto l' =>
    obtain ⟨e3, a3, w3, h3, h4⟩ := far _ l' a1 w1 rfl h1
    exact ⟨e3, a3, w3, h3, .of_steps (.head step_scope (h2 _ (by simp [gotoIn, hf _ _ _ h1]))) h4⟩
  | normal => exact ⟨.normal, a1, w1, h1, .head step_scope (Steps.trans h2 (.one step_inScope))⟩
  | exit id => exact ⟨.exit id, a1, w1, h1, fun k' hk => .head step_scope (h2 k' (by simp [exitTo, hk]))⟩
  | ret => exact ⟨_, a1, w1, h1, .of_steps (.one step_scope) h2⟩
  | panic ch => exact ⟨_, a1, w1, h1, .of_steps (.one step_scope) h2⟩
  | outgrown => exact ⟨_, a1, w1, h1, .of_steps (.one step_scope) h2⟩

theorem jumpTo_mono {J J' : Nat → Act → World → Prop} {Q : Exit → Act → World → Prop} (h : ∀ l a w, J l a w → J' l a w) : ∀ e a w, JumpTo J Q e a w → JumpTo J' Q e a w := by
  intro e a w
  cases e
  all_goals first
    | exact fun x => h _ _ _ x
    | exact fun x => x
/-- Two labels: at the one the run ends, at the other one it comes round. -/
theorem wp_scope_two {P : Program} {a : Act} {w : World} {Q : Exit → Act → World → Prop} {c r0 r1 : Code} (l0 l1 : Nat) (J0 J1 : Act → World → Prop) (μ : Act → World → Nat) (hne : l0 ≠ l1)
    (hf0 : findLabel c l0 = some (Code.skip.seq r0)) (hf1 : findLabel c l1 = some (Code.skip.seq r1))
    (pass1 : ∀ a w, J1 a w → r1.wp P (JumpTo (fun l a' w' => (l = l0 ∧ J0 a' w') ∨ (l = l1 ∧ J1 a' w' ∧ μ a' w' < μ a w)) Q) a w)
    (pass0 : ∀ a w, J0 a w → r0.wp P (JumpTo (fun _ _ _ => False) Q) a w)
    (first : (∀ a w, J1 a w → r1.wp P (JumpTo (fun l a' w' => (l = l0 ∧ J0 a' w') ∨ (l = l1 ∧ J1 a' w')) Q) a w) → c.wp P (JumpTo (fun l a' w' => (l = l0 ∧ J0 a' w') ∨ (l = l1 ∧ J1 a' w')) Q) a w) : (Code.scope c).wp P Q a w := by
  refine wp_scope_labels (fun l a' w' => (l = l0 ∧ J0 a' w') ∨ (l = l1 ∧ J1 a' w')) (fun l a w => if l = l0 then 0 else μ a w + 1) (fun l => if l = l0 then Code.skip.seq r0 else Code.skip.seq r1) ?_ ?_ ?_
  · rintro l a w (⟨rfl, _⟩ | ⟨rfl, _⟩)
    · rw [if_pos rfl]; exact hf0
    · rw [if_neg (fun e => hne e.symm)]; exact hf1
  · refine first fun a w hJ => Code.wp_mono (jumpTo_mono fun l a w h => ?_) (pass1 a w hJ)
    rcases h with h | h
    · exact .inl h
    · exact .inr ⟨h.1, h.2.1⟩
  · rintro l a w (⟨rfl, hJ⟩ | ⟨rfl, hJ⟩)
    · simp only [if_true]
      exact wp_seq (wp_skip (Code.wp_mono (jumpTo_mono fun _ _ _ h => h.elim) (pass0 a w hJ)))
    · simp only [if_neg (fun e => hne e.symm : ¬ l = l0)]
      refine wp_seq (wp_skip (Code.wp_mono (jumpTo_mono fun l2 a2 w2 h => ?_) (pass1 a w hJ)))
      rcases h with ⟨h, h1⟩ | ⟨h, h1, h2⟩
      · exact ⟨.inl ⟨h, h1⟩, by rw [if_pos h]; omega⟩
      · exact ⟨.inr ⟨h, h1⟩, by rw [if_neg (by rw [h]; exact fun e => hne e.symm)]; omega⟩

/-! ### A block behind a store of many cells -/
def over : Array Value → Nat → List Value → Array Value
  | cs, _, [] => cs
  | cs, o, v :: r => over (cs.setIfInBounds o v) (o + 1) r
theorem over_size : ∀ (vs : List Value) (cs : Array Value) (o : Nat), (over cs o vs).size = cs.size
  | [], _, _ => rfl
  | v :: r, cs, o => by rw [over, over_size r]; simp
theorem over_get : ∀ (vs : List Value) (cs : Array Value) (o k : Nat), o + vs.length ≤ cs.size → (over cs o vs)[k]? = if o ≤ k ∧ k < o + vs.length then vs[k - o]? else cs[k]?
  | [], cs, o, k, _ => by rw [over, if_neg (by simp only [List.length_nil]; omega)]
  | v :: r, cs, o, k, h => by
    simp only [List.length_cons] at h ⊢
    rw [over, over_get r _ _ _ (by simp; omega)]
    by_cases h1 : o + 1 ≤ k ∧ k < o + 1 + r.length
    · rw [if_pos h1, if_pos (by omega), show k - o = (k - (o + 1)) + 1 by omega, List.getElem?_cons_succ]
    · rw [if_neg h1]
      by_cases h2 : k = o
      · subst h2
        rw [if_pos (by omega), Nat.sub_self]
        simp [Array.getElem?_setIfInBounds, (by omega : k < cs.size)]
      · rw [if_neg (by omega), Array.getElem?_setIfInBounds, if_neg (by omega)]
theorem over_full (vs : List Value) (cs : Array Value) (h : cs.size = vs.length) : over cs 0 vs = vs.toArray := by
  apply Array.ext_getElem?
  intro k
  rw [over_get vs cs 0 k (by omega)]
  by_cases hk : k < vs.length
  · rw [if_pos (by omega)]; simp
  · rw [if_neg (by omega)]
    rw [Array.getElem?_eq_none (by omega), Array.getElem?_eq_none (by simp; omega)]
theorem heap_setCells : ∀ (vs : List Value) (w : World) (g o : Nat) (cs : Array Value) (t : TypeId), w.heap[g]? = some (.cells cs t (0, 0)) → (w.setCells g o vs).heap[g]? = some (.cells (over cs o vs) t (0, 0))
  | [], _, _, _, _, _, h => h
  | v :: r, w, g, o, cs, t, h => by
    rw [World.setCells, over]
    exact heap_setCells r _ g (o + 1) _ t (heap_setCell_same w g o cs t v h)
theorem fr_setCells : ∀ (vs : List Value) (w : World) (g o : Nat), Fr (fun k => k = g) w (w.setCells g o vs)
  | [], w, _, _ => Fr.refl _ w
  | v :: r, w, g, o => by
    rw [World.setCells]
    exact Fr.trans ((Fr.refl (fun k => k = g) w).setCell (p := ⟨g, o, none⟩) (fun _ => rfl) v) (fr_setCells r _ g (o + 1))
theorem there_of_block {w : World} {g : Nat} {cs : Array Value} {t : TypeId} (h : w.heap[g]? = some (.cells cs t (0, 0))) (o n : Nat) (hn : o + n ≤ cs.size) : w.there g o n := fun j hj =>
  ⟨by rw [cell_of_row w g (o + j) cs t (0, 0) h, Array.getElem?_eq_getElem (by omega)]; rfl, frozen_of_row w g (o + j) cs t h⟩
theorem range_of_block {w : World} {g : Nat} {cs : Array Value} {t : TypeId} (h : w.heap[g]? = some (.cells cs t (0, 0))) : w.rangeAt g 0 cs.toList := fun j v hv => by
  rw [cell_of_row w g (0 + j) cs t (0, 0) h, Nat.zero_add]; simpa using hv

/-! ### Results, the first of them in a cell of many -/
theorem results_cell3 {P : Program} {fn : Func} {p x y : Nat} {ty : TypeId} (h : fn.results = #[.cell p ty, .tmp x, .tmp y]) (tmps : Array Value) (w : World) (g : Nat) (t : TypeId) (cs : Array Value) (d : TypeDesc)
    (hp : tmps.getD p undef = .pointer (some ⟨g, 0, none⟩)) (hg : w.heap[g]? = some (.cells cs t (0, 0)))
    (hu : P.underlying ty = some d) (hd : (match d with | .struct _ | .array _ _ => true | _ => false) = true) (hi : (P.info? ty).map (·.size) = some cs.size) :
    (results fn tmps).run P w = .ok (.tuple #[.agg cs, tmps.getD x undef, tmps.getD y undef]) w := by
  have hp' : tmps[p]?.getD undef = .pointer (some ⟨g, 0, none⟩) := by simpa using hp
  simp [results, h, hp', asAddr, run_loadVar_row w g t ty cs (0, 0) d hg hu hd hi]
/-- A store of a whole record (or array) into a block that is known. -/
theorem wpList_store_block {P : Program} {ops : Array Oper} {rest : List Oper} {op : Oper} {a : Act} {w : World} {Q : Exit → Act → World → Prop} (hgd : op.guard = none) (ty : TypeId) (x y : Operand) (ho : op.op = .store ty x y)
    (g o : Nat) (vs : List Value) (hx : a.eval x = .pointer (some ⟨g, o, none⟩)) (hy : a.eval y = .agg vs.toArray) (cs : Array Value) (t : TypeId) (hg : w.heap[g]? = some (.cells cs t (0, 0)))
    (hle : o + vs.length ≤ cs.size) (hi : (P.info? ty).map (·.size) = some vs.length) (h1 : ∀ u ∈ vs, u.oneCell' = true)
    (h : ∀ w', w'.heap[g]? = some (.cells (over cs o vs) t (0, 0)) → Fr (fun k => k = g) w w' → wpList P ops Q rest (a.put op.dst undef) w') : wpList P ops Q (op :: rest) a w := by
  refine wpList_store_mid hgd ty x y ho g o vs.toArray hx hy (there_of_block hg o _ (by simpa using hle)) (by simpa using hi) (all_oneCell_toArray h1) ?_
  have := h (w.setCells g o vs) (heap_setCells vs w g o cs t hg) (fr_setCells vs w g o)
  simpa using this
/-- A new variable, and a store of a whole record (or array) into it. -/
theorem alloc_store {w w' : World} {lit : Array Value} {T : TypeId} {vs : List Value} (h : w'.heap[w.heap.size]? = some (.cells (over lit 0 vs) T (0, 0))) (F : Fr (fun k => k = w.heap.size) (w.alloc (.cells lit T)) w') (hs : lit.size = vs.length) :
    w'.heap[w.heap.size]? = some (.cells vs.toArray T (0, 0)) ∧ Below w.heap.size w w' := by
  rw [over_full vs lit hs] at h
  exact ⟨h, Fr.under ((Below.refl _ w).alloc (Nat.le_refl _) _) (by simp) F (fun k hk _ => by omega)⟩
end Go.Proofs.Ytlepceajpgloeaa
