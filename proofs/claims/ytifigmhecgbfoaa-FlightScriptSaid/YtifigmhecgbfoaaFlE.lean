/- flight: take: the packets that a test holds of are taken out. -/
import Derived.Test.YtifigmhecgbfoaaFlD
import Derived.ScopeJumps
namespace Go.Proofs.Ytifigmhecgbfoaa
open Go.RowKit

theorem jump_mono {l : Nat} {J J' : Act → World → Prop} {Q : Exit → Act → World → Prop} (h : ∀ a w, J a w → J' a w) : ∀ e a w, Exit.jump l J Q e a w → Exit.jump l J' Q e a w := by
  intro e a w
  cases e
  all_goals first
    | exact fun x => ⟨x.1, h _ _ x.2⟩
    | exact fun x => x
theorem wp_scope_jumps2 {P : Program} {a : Act} {w : World} {Q : Exit → Act → World → Prop} {c rest : Code} (l : Nat) (J : Act → World → Prop) (μ : Act → World → Nat) (hf : findLabel c l = some (Code.skip.seq rest))
    (pass : ∀ a w, J a w → rest.wp P (Exit.jump l (fun a' w' => J a' w' ∧ μ a' w' < μ a w) Q) a w)
    (first : (∀ a w, J a w → rest.wp P (Exit.jump l J Q) a w) → c.wp P (Exit.jump l J Q) a w) : (Code.scope c).wp P Q a w :=
  wp_scope_jumps l J μ hf (first fun a w hJ => Code.wp_mono (jump_mono fun _ _ h => h.1) (pass a w hJ)) (fun a w hJ => wp_seq (wp_skip (pass a w hJ)))

def nv (l : List Nat) : List Value := l.map fun (x : Nat) => .int .u64 (x : Int)
@[simp] theorem nv_length (l : List Nat) : (nv l).length = l.length := by simp [nv]
theorem nv_append (l m : List Nat) : nv (l ++ m) = nv l ++ nv m := by simp [nv]
theorem nv_one (l : List Nat) : ∀ u ∈ nv l, u.oneCell' = true := by
  intro u hu; obtain ⟨_, _, rfl⟩ := List.mem_map.1 hu; rfl
theorem nv_get {l : List Nat} {k : Nat} (hk : k < l.length) : (nv l)[k]? = some (.int .u64 (l[k] : Int)) := by simp [nv, hk]

def ftake (f : Fl) (q : Pk → Bool) : Fl := ⟨f.l.filter (fun x => !q x), f.any, f.came, f.last, f.tick, f.largest⟩
def fnums (f : Fl) (q : Pk → Bool) : List Nat := (f.l.filter q).map Pk.num
def fset (f : Fl) (l : List Pk) : Fl := ⟨l, f.any, f.came, f.last, f.tick, f.largest⟩
def lenv : Value → Nat | .slice _ n _ => n | _ => 0

/-- Where take stands at its label. -/
structure Tk (w0 : World) (p : Nat) (A : Option Addr) (f : Fl) (q : Pk → Bool) (w : World) (A2 : Option Addr) (c2 : Nat) (kept rest : List Pk) (ts : List Nat) (Ao : Option Addr) (co k : Nat) : Prop where
  fl : IsFl w p A2 c2 (fset f (kept ++ rest))
  kl : kept.length = k
  own : w.ownsRow w0.heap.size 27 1 (.slice Ao ts.length co) ts.length (nv ts)
  t1 : fnums f q = ts ++ (rest.filter q).map Pk.num
  t2 : f.l.filter (fun x => !q x) = kept ++ rest.filter (fun x => !q x)
  fr : Fr (OnFl p A) w0 w
  nx : Next w0 A A2
  tl : ts.length + kept.length + rest.length = f.l.length
  sub : ∀ x ∈ rest, x ∈ f.l

section
variable {w w' : World} {p : Nat} {A : Option Addr} {c : Nat} {f : Fl}

theorem Tk.start (h : IsFl w p A c f) (q : Pk → Bool) : Tk w p A f q w A c [] f.l [] none 0 0 :=
  ⟨h, rfl, World.ownsRow_nil _ _ _ _, by simp [fnums], by simp, Fr.refl _ _, Next.refl _ _, by simp, fun _ hx => hx⟩

section
variable {w0 : World} {q : Pk → Bool} {A2 : Option Addr} {c2 : Nat} {kept rest : List Pk} {x : Pk} {ts : List Nat} {Ao : Option Addr} {co k : Nat}
theorem Tk.below (h : Tk w0 p A f q w A2 c2 kept rest ts Ao co k) (b : Below w.heap.size w w') : Tk w0 p A f q w' A2 c2 kept rest ts Ao co k :=
  ⟨h.fl.below b, h.kl, own_fr h.own (Fr.of_below b NoS) (fun _ _ x => x), h.t1, h.t2, h.fr.trans (Fr.of_below b _), h.nx, h.tl, h.sub⟩
theorem Tk.keep (h : Tk w0 p A f q w A2 c2 kept (x :: rest) ts Ao co k) (hq : q x = false) : Tk w0 p A f q w A2 c2 (kept ++ [x]) rest ts Ao co (k + 1) :=
  ⟨by have := h.fl; simpa [fset] using this, by simp [h.kl], h.own, by rw [h.t1]; simp [hq], by rw [h.t2]; simp [hq], h.fr, h.nx, by have := h.tl; simp at this ⊢; omega, fun y hy => h.sub y (List.mem_cons_of_mem _ hy)⟩
theorem Tk.endL (h : Tk w0 p A f q w A2 c2 kept [] ts Ao co k) : fnums f q = ts ∧ ftake f q = fset f (kept ++ []) :=
  ⟨by rw [h.t1]; simp, by unfold ftake fset; rw [h.t2]; simp⟩
theorem Tk.elt (h : Tk w0 p A f q w A2 c2 kept (x :: rest) ts Ao co k) : ∃ g2, A2 = some ⟨g2, 0, none⟩ ∧ p ≠ g2 ∧ g2 < w.heap.size ∧ w.cell? ⟨g2, k * 3, none⟩ = some (.int .u64 x.num) ∧ w.cell? ⟨g2, k * 3 + 1, none⟩ = some (.int .i64 x.tick) ∧ w.cell? ⟨g2, k * 3 + 2, none⟩ = some (.bool x.cnt) := by
  have hk : k < (kept ++ x :: rest).length := by have := h.kl; simp; omega
  have hx : (kept ++ x :: rest)[k] = x := by
    have := h.kl
    subst this
    simp
  obtain ⟨b, off, e, h0, h1, h2⟩ := load_pk h.fl.rd (k := k) hk
  rcases h.fl.at with e1 | ⟨g2, e1, e2, e3⟩
  · rw [e1] at e; cases e
  · rw [e1] at e
    injection e with e
    injection e with e4 e5
    subst e4 e5
    simp only [fset] at h0 h1 h2
    rw [hx, Nat.zero_add] at h0 h1 h2
    exact ⟨g2, e1, e2, e3, h0, h1, h2⟩
/-- One is taken out. -/
theorem Tk.drop {g2 : Nat} {w2 : World} {A' : Option Addr} {c' : Nat} {mk : Nat × Nat} (h : Tk w0 p A f q w (some ⟨g2, 0, none⟩) c2 kept (x :: rest) ts Ao co k) (hq : q x = true)
    (hg : (w.alloc (.cells #[.int .u64 x.num] 27 mk)).grownBy w2 (Value.slice Ao ts.length co).ownBlock) (ho : w2.ownsRow w0.heap.size 27 1 (.slice A' (ts.length + 1) c') (ts.length + 1) (nv ts ++ [.int .u64 x.num])) :
    w2.cell? ⟨p, 0, none⟩ = some (.slice (some ⟨g2, 0, none⟩) (kept ++ x :: rest).length c2) ∧ w2.ownsRow 0 62 3 (.slice (some ⟨g2, 0, none⟩) (kept ++ x :: rest).length c2) (kept ++ x :: rest).length (pkv (kept ++ x :: rest)) ∧
    ∀ w3, w3.ownsRow 0 62 3 (.slice (some ⟨g2, 0, none⟩) ((kept ++ x :: rest).length - 1) c2) ((kept ++ x :: rest).length - 1) (pkv ((kept ++ x :: rest).take k ++ (kept ++ x :: rest).drop (k + 1))) → Fr (fun j => j = g2) w2 w3 →
      w3.cell? ⟨p, 0, none⟩ = some (.slice (some ⟨g2, 0, none⟩) (kept ++ x :: rest).length c2) ∧ w3.frozen? ⟨p, 0, none⟩ = false ∧
      Tk w0 p A f q (w3.setCell ⟨p, 0, none⟩ (.slice (some ⟨g2, 0, none⟩) ((kept ++ x :: rest).length - 1) c2)) (some ⟨g2, 0, none⟩) c2 kept rest (ts ++ [x.num]) A' c' k := by
  have hpg : p ≠ g2 := by
    rcases h.fl.at with e1 | ⟨g, e1, e2, e3⟩
    · cases e1
    · injection e1 with e1; injection e1 with e1; subst e1; exact e2
  have hpl := h.fl.lt
  have hgl : g2 < w.heap.size := (h.fl.row.lt g2 rfl).2
  -- the answer's block is apart
  have hlo : ∀ j, (Value.slice Ao ts.length co).ownBlock = some j → w0.heap.size ≤ j := fun j hj => (h.own.lt j hj).1
  have hap : ∀ j, (Value.slice Ao ts.length co).ownBlock = some j → j ≠ p ∧ j ≠ g2 := fun j hj => by
    cases Ao with
    | none => cases hj
    | some a =>
      injection hj with hj
      rcases h.own.2 with ⟨h1, _⟩ | ⟨g, cap, cur, hv, _, hgo, _⟩
      · cases h1
      · injection hv with hA
        injection hA with hA
        subst hA
        simp only at hj
        subst hj
        constructor
        · rintro rfl
          have := h.fl.cell
          rw [hgo] at this
          injection this with this
          injection this with _ h2
          exact absurd h2 (by decide)
        · rintro rfl
          rcases h.fl.row.2 with ⟨h1, _⟩ | ⟨g3, cap3, cur3, hv3, _, hgo3, _⟩
          · cases h1
          · injection hv3 with hA3
            injection hA3 with hA3
            injection hA3 with hA3
            subst hA3
            rw [hgo] at hgo3
            injection hgo3 with this
            injection this with _ h2
            exact absurd h2 (by decide)
  have F1 : Fr (fun j => (Value.slice Ao ts.length co).ownBlock = some j) w w2 := (((Fr.refl _ w).alloc _).grown hg (fun j hj _ => hj))
  have hp2 : w2.heap[p]? = some _ := heap_fr h.fl.cell F1 (fun e => (hap p e).1 rfl)
  have hr2 := own_fr h.fl.row F1 (fun j hj e => by
    injection hj with hj
    subst hj
    exact (hap _ e).2 rfl)
  refine ⟨wrote_cell hp2 0 _ rfl, hr2, fun w3 ho3 hF3 => ?_⟩
  have hp3 : w3.heap[p]? = some _ := heap_fr hp2 hF3 hpg
  have hS := heap_setCell_same w3 p 0 _ _ (.slice (some ⟨g2, 0, none⟩) ((kept ++ x :: rest).length - 1) c2) hp3
  have FS : Fr (fun k => k = p) w3 (w3.setCell ⟨p, 0, none⟩ (.slice (some ⟨g2, 0, none⟩) ((kept ++ x :: rest).length - 1) c2)) := (Fr.refl (fun k => k = p) w3).setCell (p := ⟨p, 0, none⟩) (fun _ => rfl) _
  have hlist : (kept ++ x :: rest).take k ++ (kept ++ x :: rest).drop (k + 1) = kept ++ rest := by
    have := h.kl
    subst this
    rw [List.take_left, List.drop_append]
    simp
  have hln : (kept ++ x :: rest).length - 1 = (kept ++ rest).length := by simp
  rw [hlist] at ho3
  rw [hln] at ho3 hS FS ⊢
  have hA' : ∀ j, (Value.slice A' (ts.length + 1) c').ownBlock = some j → j ≠ p ∧ j ≠ g2 := fun j hj => by
    cases A' with
    | none => cases hj
    | some a =>
      injection hj with hj
      rcases ho.2 with ⟨h1, _⟩ | ⟨g, cap, cur, hv, _, hgo, _⟩
      · cases h1
      · injection hv with hA
        injection hA with hA
        subst hA
        simp only at hj
        subst hj
        constructor
        · rintro rfl
          rw [hgo] at hp2
          injection hp2 with this
          injection this with _ h2
          exact absurd h2 (by decide)
        · rintro rfl
          rcases hr2.2 with ⟨h1, _⟩ | ⟨g3, cap3, cur3, hv3, _, hgo3, _⟩
          · cases h1
          · injection hv3 with hA3
            injection hA3 with hA3
            injection hA3 with hA3
            subst hA3
            rw [hgo] at hgo3
            injection hgo3 with this
            injection this with _ h2
            exact absurd h2 (by decide)
  have hin : ∀ j, OnFl p (some ⟨g2, 0, none⟩) j → j < w0.heap.size → OnFl p A j := fun j hj hl => by
    rcases hj with h1 | ⟨a, ha, hb⟩
    · exact .inl h1
    · rcases h.nx a ha with ⟨b, hb1, hb2⟩ | h2
      · exact .inr ⟨b, hb1, hb2.trans hb⟩
      · omega
  refine ⟨wrote_cell hp3 0 _ rfl, frozen_of_row w3 p 0 _ _ hp3, ⟨⟨?_, ?_, ?_, ?_, h.fl.last, h.fl.lgst, h.fl.tick⟩, h.kl, ?_, ?_, ?_, ?_, ?_, ?_, ?_⟩⟩
  · exact hS
  · exact own_fr ho3 FS (fun j hj e => by injection hj with hj; subst hj; exact hpg e.symm)
  · have := h.fl.small
    simp [fset] at this ⊢
    omega
  · intro y hy
    refine h.fl.oks y ?_
    simp [fset] at hy ⊢
    rcases hy with hy | hy
    · exact .inl hy
    · exact .inr (.inr hy)
  · have h1 := own_fr (own_fr ho hF3 (fun j hj e => (hA' j hj).2 e)) FS (fun j hj e => (hA' j hj).1 e)
    rw [show (ts ++ [x.num]).length = ts.length + 1 from by simp, nv_append]
    exact h1
  · rw [h.t1]; simp [hq]
  · rw [h.t2]; simp [hq]
  · refine ((h.fr.trans' F1 (fun j hj hl => absurd hl (by have := hlo j hj; omega))).trans' hF3 (fun j hj hl => ?_)).trans' FS (fun j hj hl => .inl hj)
    exact hin j (.inr ⟨_, rfl, hj.symm⟩) hl
  · exact h.nx
  · have := h.tl; simp at this ⊢; omega
  · exact fun y hy => h.sub y (List.mem_cons_of_mem _ hy)
end
end
end Go.Proofs.Ytifigmhecgbfoaa
