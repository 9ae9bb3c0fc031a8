/- Objects: which blocks they own, what a call on them may turn; two beside one another. Nothing of the program. -/
import Derived.Test.YtgmanhbfdjlhbaaObj
namespace Go.Proofs.Ytgmanhbfdjlhbaa
open Go.RowKit

/-- Of a kind of object: it is at p, its blocks are S, what it holds is s. -/
structure ObjOk {σ : Type} (I : World → Nat → (Nat → Prop) → σ → Prop) : Prop where
  fr : ∀ {w w' : World} {p : Nat} {S T : Nat → Prop} {s : σ}, I w p S s → Fr T w w' → (∀ k, S k → ¬ T k) → I w' p S s
  lt : ∀ {w : World} {p : Nat} {S : Nat → Prop} {s : σ}, I w p S s → ∀ k, S k → k < w.heap.size
/-- What follows on an object's blocks: the same ones, or new ones. -/
def Nxt (w : World) (S S' : Nat → Prop) : Prop := ∀ k, S' k → S k ∨ w.heap.size ≤ k
theorem Nxt.refl (w : World) (S : Nat → Prop) : Nxt w S S := fun _ h => .inl h
theorem Nxt.trans {w w1 : World} {S T U : Nat → Prop} (h : Nxt w S T) (hs : w.heap.size ≤ w1.heap.size) (k : Nxt w1 T U) : Nxt w S U := fun x hx => by
  rcases k x hx with h1 | h1
  · exact h x h1
  · exact .inr (by omega)
def NotP (P : Nat → Prop) (k : Nat) : Prop := ¬ P k
/-- None of its blocks is in P; P's blocks are there. -/
def At {σ : Type} (I : World → Nat → (Nat → Prop) → σ → Prop) (P : Nat → Prop) (w : World) (p : Nat) (s : σ) : Prop :=
  (∃ S, I w p S s ∧ ∀ k, S k → ¬ P k) ∧ ∀ k, P k → k < w.heap.size

theorem fp_below {P : Nat → Prop} {w w' w0 : World} {B : Nat} (hb : Below B w0 w) (hB : B ≤ w.heap.size) (hP : ∀ k, k < B → P k) (F : Fr (NotP P) w w') : Below B w0 w' :=
  Fr.under hb hB F (fun k hk _ => by
    rcases Nat.lt_or_ge k B with h | h
    · exact absurd (hP k h) hk
    · exact h)
section
variable {σ : Type} {I : World → Nat → (Nat → Prop) → σ → Prop} (ok : ObjOk I) {P Q : Nat → Prop} {w w' : World} {p : Nat} {s : σ}
include ok
theorem At.fr {T : Nat → Prop} (h : At I P w p s) (F : Fr T w w') (hT : ∀ k, k < w.heap.size → T k → P k) : At I P w' p s := by
  obtain ⟨⟨S, hI, hn⟩, hlt⟩ := h
  refine ⟨⟨S, ok.fr (T := fun k => T k ∧ k < w.heap.size) hI ⟨F.os, F.tape, F.output, F.size, fun k hk hs => F.block k hk (fun x => hs ⟨x, hk⟩)⟩ (fun k hk e => hn k hk (hT k e.2 e.1)), hn⟩, fun k hk => by have := hlt k hk; have := F.size; omega⟩
theorem At.below (h : At I P w p s) (b : Below w.heap.size w w') : At I P w' p s := h.fr ok (Fr.of_below b NoS) (fun _ _ x => x.elim)
theorem At.alloc (h : At I P w p s) (o : Obj) : At I P (w.alloc o) p s := h.below ok ((Below.refl _ w).alloc (Nat.le_refl _) o)
theorem At.still (h : At I P w p s) (b : Still w w') : At I P w' p s := h.below ok b.below
/-- New blocks may be guarded too. -/
theorem At.widen (h : At I P w p s) (hQ : ∀ k, Q k → P k ∨ w.heap.size ≤ k) (b : Below w.heap.size w w') (hl : ∀ k, Q k → k < w'.heap.size) : At I Q w' p s := by
  have hs := h.below ok b
  obtain ⟨⟨S, hI, hn⟩, hlt⟩ := h
  exact ⟨⟨S, ok.fr hI (Fr.of_below b NoS) (fun _ _ x => x), fun k hk hq => by
    rcases hQ k hq with h1 | h1
    · exact hn k hk h1
    · have := ok.lt hI k hk; omega⟩, hl⟩
/-- New blocks may be guarded too: behind a write into P's blocks, and new ones. -/
theorem At.widenF {T : Nat → Prop} (h : At I P w p s) (F : Fr T w w') (hT : ∀ k, k < w.heap.size → T k → P k) (hQ : ∀ k, Q k → P k ∨ w.heap.size ≤ k) (hl : ∀ k, Q k → k < w'.heap.size) : At I Q w' p s := by
  obtain ⟨⟨S, hI, hn⟩, hlt⟩ := h
  refine ⟨⟨S, ok.fr (T := fun k => T k ∧ k < w.heap.size) hI ⟨F.os, F.tape, F.output, F.size, fun k hk hs => F.block k hk (fun x => hs ⟨x, hk⟩)⟩ (fun k hk e => hn k hk (hT k e.2 e.1)), fun k hk hq => ?_⟩, hl⟩
  rcases hQ k hq with h1 | h1
  · exact hn k hk h1
  · have := ok.lt hI k hk; omega
omit ok in
theorem At.narrow (h : At I P w p s) (hQ : ∀ k, Q k → P k) : At I Q w p s := by
  obtain ⟨⟨S, hI, hn⟩, hlt⟩ := h
  exact ⟨⟨S, hI, fun k hk hq => hn k hk (hQ k hq)⟩, fun k hk => hlt k (hQ k hk)⟩
omit ok in
theorem At.step {S S' : Nat → Prop} {s' : σ} (hn : ∀ k, S k → ¬ P k) (hlt : ∀ k, P k → k < w.heap.size) (I' : I w' p S' s') (F : Fr S w w') (N : Nxt w S S') : At I P w' p s' ∧ Fr (NotP P) w w' := by
  refine ⟨⟨⟨S', I', fun k hk hp => ?_⟩, fun k hk => by have := hlt k hk; have := F.size; omega⟩, F.mono (fun k hk _ => hn k hk)⟩
  rcases N k hk with h1 | h1
  · exact hn k h1 hp
  · have := hlt k hp; omega
omit ok in
theorem At.new {S : Nat → Prop} (hP : ∀ k, P k → k < w.heap.size) (I' : I w' p S s) (b : Below w.heap.size w w') (hS : ∀ k, S k → w.heap.size ≤ k) : At I P w' p s :=
  ⟨⟨S, I', fun k hk hp => by have := hP k hp; have := hS k hk; omega⟩, fun k hk => by have := hP k hk; have := b.size; omega⟩
end

/-- Two objects, apart from one another and from P's blocks. -/
def Two {σ τ : Type} (I : World → Nat → (Nat → Prop) → σ → Prop) (J : World → Nat → (Nat → Prop) → τ → Prop) (P : Nat → Prop) (w : World) (p : Nat) (s : σ) (q : Nat) (t : τ) : Prop :=
  ∃ S T, I w p S s ∧ J w q T t ∧ (∀ k, S k → ¬ P k ∧ ¬ T k) ∧ (∀ k, T k → ¬ P k) ∧ ∀ k, P k → k < w.heap.size
section
variable {σ τ : Type} {I : World → Nat → (Nat → Prop) → σ → Prop} {J : World → Nat → (Nat → Prop) → τ → Prop} (oi : ObjOk I) (oj : ObjOk J) {P Q : Nat → Prop} {w w' : World} {p q : Nat} {s : σ} {t : τ}
theorem Two.swap (h : Two I J P w p s q t) : Two J I P w q t p s := by
  obtain ⟨S, T, h1, h2, h3, h4, h5⟩ := h
  exact ⟨T, S, h2, h1, fun k hk => ⟨h4 k hk, fun hs => (h3 k hs).2 hk⟩, fun k hk => (h3 k hk).1, h5⟩
include oj in
theorem Two.left (h : Two I J P w p s q t) : ∃ R : Nat → Prop, At I R w p s ∧ (∀ k, P k → R k) ∧ ∀ w' s', At I R w' p s' → Fr (NotP R) w w' → Two I J P w' p s' q t := by
  obtain ⟨S, T, h1, h2, h3, h4, h5⟩ := h
  refine ⟨fun k => P k ∨ T k, ⟨⟨S, h1, fun k hk hq => ?_⟩, fun k hk => ?_⟩, fun k hk => .inl hk, fun w' s' hs' F => ?_⟩
  · rcases hq with hq | hq
    · exact (h3 k hk).1 hq
    · exact (h3 k hk).2 hq
  · rcases hk with hk | hk
    · exact h5 k hk
    · exact oj.lt h2 k hk
  · obtain ⟨⟨S', I', n'⟩, _⟩ := hs'
    exact ⟨S', T, I', oj.fr h2 F (fun k hk hn => hn (.inr hk)), fun k hk => ⟨fun hp => n' k hk (.inl hp), fun hq => n' k hk (.inr hq)⟩, h4, fun k hk => by have := h5 k hk; have := F.size; omega⟩
include oi in
theorem Two.right (h : Two I J P w p s q t) : ∃ R : Nat → Prop, At J R w q t ∧ (∀ k, P k → R k) ∧ ∀ w' t', At J R w' q t' → Fr (NotP R) w w' → Two I J P w' p s q t' := by
  obtain ⟨R, h1, h2, h3⟩ := h.swap.left oi
  exact ⟨R, h1, h2, fun w' t' h4 F => (h3 w' t' h4 F).swap⟩
include oi oj
/-- A write into blocks of P. -/
theorem Two.fr {T : Nat → Prop} (h : Two I J P w p s q t) (F : Fr T w w') (hT : ∀ k, k < w.heap.size → T k → P k) : Two I J P w' p s q t := by
  obtain ⟨S, U, h1, h2, h3, h4, h5⟩ := h
  have F' : Fr (fun k => T k ∧ k < w.heap.size) w w' := ⟨F.os, F.tape, F.output, F.size, fun k hk hs => F.block k hk (fun x => hs ⟨x, hk⟩)⟩
  exact ⟨S, U, oi.fr h1 F' (fun k hk e => (h3 k hk).1 (hT k e.2 e.1)), oj.fr h2 F' (fun k hk e => h4 k hk (hT k e.2 e.1)), h3, h4, fun k hk => by have := h5 k hk; have := F.size; omega⟩
theorem Two.below (h : Two I J P w p s q t) (b : Below w.heap.size w w') : Two I J P w' p s q t := h.fr oi oj (Fr.of_below b NoS) (fun _ _ x => x.elim)
theorem Two.still (h : Two I J P w p s q t) (b : Still w w') : Two I J P w' p s q t := h.below oi oj b.below
theorem Two.alloc (h : Two I J P w p s q t) (o : Obj) : Two I J P (w.alloc o) p s q t := h.below oi oj ((Below.refl _ w).alloc (Nat.le_refl _) o)
/-- New blocks may be guarded too: behind a write into P's blocks, and new ones. -/
theorem Two.widenF {T : Nat → Prop} (h : Two I J P w p s q t) (F : Fr T w w') (hT : ∀ k, k < w.heap.size → T k → P k) (hQ : ∀ k, Q k → P k ∨ w.heap.size ≤ k) (hl : ∀ k, Q k → k < w'.heap.size) : Two I J Q w' p s q t := by
  have h' := h.fr oi oj F hT
  obtain ⟨S, U, h1, h2, h3, h4, h5⟩ := h
  have F' : Fr (fun k => T k ∧ k < w.heap.size) w w' := ⟨F.os, F.tape, F.output, F.size, fun k hk hs => F.block k hk (fun x => hs ⟨x, hk⟩)⟩
  refine ⟨S, U, oi.fr h1 F' (fun k hk e => (h3 k hk).1 (hT k e.2 e.1)), oj.fr h2 F' (fun k hk e => h4 k hk (hT k e.2 e.1)), fun k hk => ⟨fun hq => ?_, (h3 k hk).2⟩, fun k hk hq => ?_, hl⟩
  · rcases hQ k hq with e | e
    · exact (h3 k hk).1 e
    · have := oi.lt h1 k hk; omega
  · rcases hQ k hq with e | e
    · exact h4 k hk e
    · have := oj.lt h2 k hk; omega
theorem Two.widen (h : Two I J P w p s q t) (hQ : ∀ k, Q k → P k ∨ w.heap.size ≤ k) (b : Below w.heap.size w w') (hl : ∀ k, Q k → k < w'.heap.size) : Two I J Q w' p s q t := h.widenF oi oj (Fr.of_below b NoS) (fun _ _ x => x.elim) hQ hl
omit oj in
/-- A new one beside another. -/
theorem Two.new {T : Nat → Prop} (h : At I P w p s) (J' : J w' q T t) (b : Below w.heap.size w w') (hT : ∀ k, T k → w.heap.size ≤ k) : Two I J P w' p s q t := by
  obtain ⟨⟨S, hI, hn⟩, hlt⟩ := h
  exact ⟨S, T, oi.fr hI (Fr.of_below b NoS) (fun _ _ x => x), J', fun k hk => ⟨hn k hk, fun ht => by have := oi.lt hI k hk; have := hT k ht; omega⟩, fun k hk hp => by have := hlt k hp; have := hT k hk; omega, fun k hk => by have := hlt k hk; have := b.size; omega⟩
omit oi oj in
theorem Two.fst (h : Two I J P w p s q t) : At I P w p s := by
  obtain ⟨S, U, h1, h2, h3, h4, h5⟩ := h
  exact ⟨⟨S, h1, fun k hk => (h3 k hk).1⟩, h5⟩
omit oi oj in
theorem Two.snd (h : Two I J P w p s q t) : At J P w q t := h.swap.fst
end
end Go.Proofs.Ytgmanhbfdjlhbaa
