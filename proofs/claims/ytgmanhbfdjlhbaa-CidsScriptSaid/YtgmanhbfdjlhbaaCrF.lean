/- CidsScript: the acts that came in; what is kept in a round; the ends without a walk. -/
import Derived.Test.YtgmanhbfdjlhbaaCrE
import Derived.Test.YtgmanhbfdjlhbaaOverC
import Derived.Test.YtgmanhbfdjlhbaaCopied
import Derived.Deep.RegionHeld3
import Derived.Deep.CutRange
import Derived.Deep.Cut
import Derived.Deep.CutBlock
namespace Go.Proofs.Ytgmanhbfdjlhbaa
open Go.RowKit

/-- The acts that came in: what each is, place by place. -/
structure AcIn (w : World) (A : Option Addr) (m : Nat) (vd vp : Nat → Int) (vq : Nat → Nat) (vA : Nat → Option Addr) (va : Nat → Nat) (vC : Nat → List UInt8) (vB : Nat → Option Addr) (vb : Nat → Nat) (vT : Nat → List UInt8) : Prop where
  pl : m = 0 ∨ ∃ b off, A = some ⟨b, off, none⟩
  at_ : ∀ b off, A = some ⟨b, off, none⟩ → ∀ i, i < m → w.cell? ⟨b, off + i * 5, none⟩ = some (.int .i64 (vd i)) ∧ w.cell? ⟨b, off + i * 5 + 1, none⟩ = some (.int .i64 (vp i)) ∧ w.cell? ⟨b, off + i * 5 + 2, none⟩ = some (.int .u64 (vq i : Int)) ∧ w.cell? ⟨b, off + i * 5 + 3, none⟩ = some (.slice (vA i) (vC i).length (va i)) ∧ w.cell? ⟨b, off + i * 5 + 4, none⟩ = some (.slice (vB i) (vT i).length (vb i))
  rc : ∀ i, i < m → Rd w (vA i) (bv (vC i)) ∧ (vC i).length ≤ 9223372036854775807
  rt : ∀ i, i < m → Rd w (vB i) (bv (vT i)) ∧ (vT i).length ≤ 9223372036854775807
section
variable {w : World} {A : Option Addr} {m : Nat} {vd vp : Nat → Int} {vq : Nat → Nat} {vA : Nat → Option Addr} {va : Nat → Nat} {vC : Nat → List UInt8} {vB : Nat → Option Addr} {vb : Nat → Nat} {vT : Nat → List UInt8}
theorem AcIn.lt (h : AcIn w A m vd vp vq vA va vC vB vb vT) {b off i : Nat} (hA : A = some ⟨b, off, none⟩) (hi : i < m) : b < w.heap.size := World.block_lt_of_cell? w _ (h.at_ b off hA i hi).1
theorem AcIn.below {w' : World} (h : AcIn w A m vd vp vq vA va vC vB vb vT) (f : Below w.heap.size w w') : AcIn w' A m vd vp vq vA va vC vB vb vT :=
  ⟨h.pl, fun b off e i hi => by
    have hb := h.lt e hi
    obtain ⟨h1, h2, h3, h4, h5⟩ := h.at_ b off e i hi
    exact ⟨by rw [f.cell (p := ⟨b, _, none⟩) hb]; exact h1, by rw [f.cell (p := ⟨b, _, none⟩) hb]; exact h2, by rw [f.cell (p := ⟨b, _, none⟩) hb]; exact h3, by rw [f.cell (p := ⟨b, _, none⟩) hb]; exact h4, by rw [f.cell (p := ⟨b, _, none⟩) hb]; exact h5⟩, fun i hi => ⟨(h.rc i hi).1.below f, (h.rc i hi).2⟩, fun i hi => ⟨(h.rt i hi).1.below f, (h.rt i hi).2⟩⟩
end
theorem load5 {P : Program} {w : World} {b o : Nat} {v0 v1 v2 v3 v4 : Value} (h0 : w.cell? ⟨b, o, none⟩ = some v0) (h1 : w.cell? ⟨b, o + 1, none⟩ = some v1) (h2 : w.cell? ⟨b, o + 2, none⟩ = some v2) (h3 : w.cell? ⟨b, o + 3, none⟩ = some v3) (h4 : w.cell? ⟨b, o + 4, none⟩ = some v4) :
    Sem.run P (loadCellsFrom ⟨b, o, none⟩ 0 5 #[]) w = .ok #[v0, v1, v2, v3, v4] w := by
  have := run_loadCells_list (P := P) (w := w) ⟨b, o, none⟩ [v0, v1, v2, v3, v4] (fun j v hj => by
    rw [WideShapes.add_plain]
    rcases j with _ | _ | _ | _ | _ | j
    · simp at hj; subst hj; exact h0
    · simp at hj; subst hj; exact h1
    · simp at hj; subst hj; exact h2
    · simp at hj; subst hj; exact h3
    · simp at hj; subst hj; exact h4
    · simp at hj)
  simpa [loadCells] using this
theorem cell5 {w : World} {b : Nat} {T : TypeId} {v0 v1 v2 v3 v4 : Value} (h : w.heap[b]? = some (.cells #[v0, v1, v2, v3, v4] T (0, 0))) :
    w.cell? ⟨b, 0, none⟩ = some v0 ∧ w.cell? ⟨b, 1, none⟩ = some v1 ∧ w.cell? ⟨b, 2, none⟩ = some v2 ∧ w.cell? ⟨b, 3, none⟩ = some v3 ∧ w.cell? ⟨b, 4, none⟩ = some v4 :=
  ⟨wrote_cell h 0 _ rfl, wrote_cell h 1 _ rfl, wrote_cell h 2 _ rfl, wrote_cell h 3 _ rfl, wrote_cell h 4 _ rfl⟩
theorem copied_to (l : List UInt8) (n : Nat) (A : Option Addr) (c : Nat) (w : World) (hn : l.length = n) (hr : Rd w A (bv l)) (hl : n ≤ 140737488355328) :
    Calls Try.prog 13 #[.slice A n c] w (RetS 5 w n (bv l)) := by subst hn; exact copied_any l A c w hr hl

/-- Both, the act's own block, and what was there at first. -/
structure CMid (w0 : World) (P : Nat → Prop) (W : World) (p q bx : Nat) (cs : Array Value) (k : Nat) (s : Cd) : Prop where
  st : ∃ r, CdSt P W p q s r k
  x : W.heap[bx]? = some (.cells cs 34 (0, 0))
  bel : Below w0.heap.size w0 W
  lt : w0.heap.size ≤ bx
  hP : ∀ j, j < w0.heap.size ∨ j = bx → P j
/-- What every round guards. -/
abbrev P0 (w0 : World) (bx : Nat) (j : Nat) : Prop := j < w0.heap.size ∨ j = bx
section
variable {w0 W W' : World} {P Q : Nat → Prop} {p q bx k k' : Nat} {cs : Array Value} {s s' : Cd}
theorem CdSt.narrow {w : World} {r : Cd} (h : CdSt P w p q s r k) (hQ : ∀ j, Q j → P j) : CdSt Q w p q s r k := by
  obtain ⟨⟨S, T, h1, h2, h3, h4, h5⟩, a, b, c⟩ := h
  exact ⟨⟨S, T, h1, h2, fun k hk => ⟨fun e => (h3 k hk).1 (hQ k e), (h3 k hk).2⟩, fun k hk e => h4 k hk (hQ k e), fun k hk => h5 k (hQ k hk)⟩, a, b, c⟩
theorem CMid.blt (h : CMid w0 P W p q bx cs k s) : bx < W.heap.size := heap_lt h.x
theorem CMid.below (h : CMid w0 P W p q bx cs k s) (b : Below W.heap.size W W') : CMid w0 P W' p q bx cs k s := by
  obtain ⟨r, hr⟩ := h.st
  exact ⟨⟨r, hr.below b⟩, heap_fr h.x (Fr.of_below b NoS) (fun x => x), h.bel.trans (b.mono (by have := h.blt; have := h.lt; omega)), h.lt, h.hP⟩
theorem CMid.rd (h : CMid w0 P W p q bx cs k s) {A : Option Addr} {xs : List Value} (r : Rd w0 A xs) : Rd W A xs := r.below h.bel
theorem CMid.fbel (h : CMid w0 P W p q bx cs k s) (F : Fr (NotP P) W W') : Below w0.heap.size w0 W' := fp_below h.bel (by have := h.blt; have := h.lt; omega) (fun j hj => h.hP j (.inl hj)) F
theorem CMid.fx (h : CMid w0 P W p q bx cs k s) (F : Fr (NotP P) W W') : W'.heap[bx]? = some (.cells cs 34 (0, 0)) := heap_fr h.x F (fun hn => hn (h.hP bx (.inr rfl)))
theorem CMid.step (h : CMid w0 P W p q bx cs k s) (F : Fr (NotP P) W W') (st : ∃ r, CdSt Q W' p q s' r k') (hQ : ∀ j, P j → Q j) : CMid w0 Q W' p q bx cs k' s' :=
  ⟨st, h.fx F, h.fbel F, h.lt, fun j hj => hQ j (h.hP j hj)⟩
theorem CMid.own (h : CMid w0 P W p q bx cs k s) {base n c : Nat} {A : Option Addr} {xs : List Value} (o : W'.ownsRow base 5 1 (.slice A n c) n xs) (hb : W.heap.size ≤ base) (b : Below W.heap.size W W') : CMid w0 (fun j => P j ∨ (Value.slice A n c).ownBlock = some j) W' p q bx cs k s := by
  obtain ⟨r, hr⟩ := h.st
  have h2 := h.below b
  exact ⟨⟨r, hr.two.widen okC okD (fun j hj => hj.elim .inl (fun e => .inr (by have := (o.lt j e).1; omega))) b (fun j hj => hj.elim (fun e => by
    obtain ⟨S, T, _, _, _, _, h5⟩ := hr.two
    have := h5 j e; have := b.size; omega) (fun e => (o.lt j e).2)), hr.sim, hr.small, hr.few⟩, h2.x, h2.bel, h2.lt, fun j hj => .inl (h.hP j hj)⟩
theorem CMid.over (h : CMid w0 P W p q bx cs k s) {v : Value} (F : Fr (fun j => v.ownBlock = some j) W W') (hv : ∀ j, v.ownBlock = some j → P j ∧ bx < j) : CMid w0 P W' p q bx cs k s := by
  obtain ⟨r, hr⟩ := h.st
  exact ⟨⟨r, hr.two.fr okC okD F (fun j _ hj => (hv j hj).1), hr.sim, hr.small, hr.few⟩, heap_fr h.x F (fun hj => by have := (hv bx hj).2; omega), Fr.under h.bel (by have := h.blt; have := h.lt; omega) F (fun j hj _ => by have := (hv j hj).2; have := h.lt; omega), h.lt, h.hP⟩
theorem CMid.narrow (h : CMid w0 P W p q bx cs k s) (hQ : ∀ j, Q j → P j) (h0 : ∀ j, P0 w0 bx j → Q j) : CMid w0 Q W p q bx cs k s := by
  obtain ⟨r, hr⟩ := h.st
  exact ⟨⟨r, hr.narrow hQ⟩, h.x, h.bel, h.lt, h0⟩
theorem CMid.to0 (h : CMid w0 P W p q bx cs k s) : CMid w0 (P0 w0 bx) W p q bx cs k s := h.narrow h.hP (fun _ h => h)
theorem CMid.drewB (_ : CMid w0 P W p q bx cs k s) : Below W.heap.size W W.drew := (Still.drew W).below
theorem CMid.keep {v0 v1 v2 v3 v4 : Value} (h : CMid w0 P W p q bx #[v0, v1, v2, v3, v4] k s) : ∀ W', Below W.heap.size W W' → W'.cell? ⟨bx, 4, none⟩ = some v4 := fun _ b => (cell5 (h.below b).x).2.2.2.2
theorem CMid.keepR (h : CMid w0 P W p q bx cs k s) {A : Option Addr} {xs : List Value} (r : Rd w0 A xs) : ∀ W', Below W.heap.size W W' → Rd W' A xs := fun _ b => (h.below b).rd r
theorem CdSt.keepS {r : Cd} (h : CdSt P W p q s r k) : ∀ W', Below W.heap.size W W' → CdSt P W' p q s r k := fun _ b => h.below b
theorem CMid.next (h : CMid w0 P W p q bx cs k s) : CMid w0 P W p q bx cs (k + 1) s := by
  obtain ⟨r, hr⟩ := h.st
  exact ⟨⟨r, hr.two, hr.sim, by have := hr.small; omega, hr.few⟩, h.x, h.bel, h.lt, h.hP⟩
end

set_option maxRecDepth 100000 in
set_option maxHeartbeats 4000000 in
theorem cscript_much (A0 A1 : Option Addr) (n c0 m c1 : Nat) (w : World) (h : 40 < n ∨ 40 < m) :
    Calls Try.prog 3 #[.slice A0 n c0, .slice A1 m c1] w fun e w' => e = .returned (.bool true) ∧ Below w.heap.size w w' := by
  have CA := Lib.hid (awake_any w)
  by_cases hn : 40 < n
  · clear h
    have d0 : decide ((40 : Int) < (n : Int)) = true := decide_eq_true (by omega)
    have d0n : decide (40 < n) = true := decide_eq_true hn
    go_enter Try.func3, Try.ntmps3
    go_wp2_with fail
    refine CA.out.mono ?_
    rintro e w1 ⟨rfl, b1⟩
    go_wp2_with fail
    go_ret
    exact ⟨rfl, b1⟩
  · have hm : 40 < m := by omega
    clear h
    have d0 : decide ((40 : Int) < (n : Int)) = false := decide_eq_false (by omega)
    have d0n : decide (40 < n) = false := decide_eq_false hn
    have d1 : decide ((40 : Int) < (m : Int)) = true := decide_eq_true (by omega)
    have d1n : decide (40 < m) = true := decide_eq_true hm
    go_enter Try.func3, Try.ntmps3
    go_wp2_with fail
    refine CA.out.mono ?_
    rintro e w1 ⟨rfl, b1⟩
    go_wp2_with fail
    go_ret
    exact ⟨rfl, b1⟩
set_option maxRecDepth 100000 in
set_option maxHeartbeats 4000000 in
theorem cscript_nil (A0 A1 : Option Addr) (n c0 m c1 : Nat) (w : World) (h8 : n ≠ 8) (hn : ¬ 40 < n) (hm : ¬ 40 < m) :
    Calls Try.prog 3 #[.slice A0 n c0, .slice A1 m c1] w fun e w' => e = .returned (.bool true) ∧ Below w.heap.size w w' := by
  have CA := Lib.hid (awake_any w)
  have h1 := Lib.hid (cnew_no A0 n c0 w h8)
  have h2 := Lib.hid (rnew_no A0 n c0 w h8)
  have d0 : decide ((40 : Int) < (n : Int)) = false := decide_eq_false (by omega)
  have d0n : decide (40 < n) = false := decide_eq_false hn
  have d1 : decide ((40 : Int) < (m : Int)) = false := decide_eq_false (by omega)
  have d1n : decide (40 < m) = false := decide_eq_false hm
  go_enter Try.func3, Try.ntmps3
  go_wp2_with fail
  refine h1.out.mono ?_
  rintro e w' ⟨rfl, rfl⟩
  go_wp2_with fail
  refine h2.out.mono ?_
  rintro e w' ⟨rfl, rfl⟩
  go_wp2_with fail
  refine (add_nil (.int .u64 1) (.slice none 0 0) (.slice none 0 0) w).mono ?_
  rintro e w' ⟨rfl, rfl⟩
  go_wp2_with fail
  refine (free_nil w).mono ?_
  rintro e w' ⟨rfl, rfl⟩
  go_wp2_with fail
  refine CA.out.mono ?_
  rintro e w' ⟨rfl, b⟩
  go_wp2_with fail
  go_ret
  exact ⟨rfl, b⟩
end Go.Proofs.Ytgmanhbfdjlhbaa
